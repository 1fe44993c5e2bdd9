/- The drawing of classes and limits of sites. No condition. -/
import Derived.Test.YtlglonjijfpgaaaGreatQAv
import Derived.Test.YtlglonjijfpgaaaGreatQAd
namespace Go.Proofs.YtlglonjijfpgaaaGreat
open Go.RowKit Go.Sort

/-- A list that lies in new blocks. -/
def DIz (w : World) (b : Nat) (v : Value) : Prop := ∃ A c xs, v = .slice A xs.length c ∧ IntsAt w A xs ∧ (∀ ad, A = some ad → b ≤ ad.block) ∧ xs.length ≤ 200 ∧ xs.length ≤ c
theorem DIz.mono {w : World} {b b' : Nat} {v : Value} (h : DIz w b v) (hb : b' ≤ b) : DIz w b' v := by
  obtain ⟨A, c, xs, e, h1, h2, h3⟩ := h
  exact ⟨A, c, xs, e, h1, fun ad e => Nat.le_trans hb (h2 ad e), h3⟩
theorem DIz.turn {S : Nat → Prop} {w w' : World} {b : Nat} {v : Value} (h : DIz w b v) (ht : Turn S w w') (hn : ∀ i, b ≤ i → ¬ S i) : DIz w' b v := by
  obtain ⟨A, c, xs, e, h1, h2, h3⟩ := h
  exact ⟨A, c, xs, e, ints_turnD h1 ht (fun ad e => hn _ (h2 ad e)), h2, h3⟩
theorem DIz.kp {w w' : World} {b : Nat} {v : Value} (h : DIz w b v) (hk : Kp w w') : DIz w' b v := h.turn (Turn.of_kp (S := fun _ => False) hk) (fun _ _ h => h)
theorem DIz.cut {w : World} {b : Nat} {v : Value} (h : DIz w b v) : ∃ A n c, v = .slice A n c := by
  obtain ⟨A, c, xs, e, _⟩ := h
  exact ⟨A, _, c, e⟩
theorem DIz.list {w : World} {b : Nat} {v : Value} (h : DIz w b v) : ∃ A c xs L, v = .slice A L c ∧ IntsAt w A xs ∧ Hid (xs.length = L) ∧ L ≤ 200 ∧ L ≤ c := by
  obtain ⟨A, c, xs, e, h1, _, h3, h4⟩ := h
  exact ⟨A, c, xs, _, e, h1, Lib.hid rfl, h3, h4⟩
theorem Own.diz {w : World} {b : Nat} {v : Value} {xs : List Int} (h : Own w b v xs) (hl : xs.length ≤ 200) : DIz w b v := by
  obtain ⟨A, c, e, hi⟩ := h.ints (by omega)
  refine ⟨A, c, xs, e, hi, fun ad ha => (h.lt ad.block ?_).1, hl, h.capL e⟩
  subst e ha
  rfl
theorem DInts.diz {w : World} {b : Nat} {v : Value} (h : DInts w b v) : DIz w b v := by
  obtain ⟨xs, h1, h2⟩ := h
  exact h1.diz h2
/-- All but the first number. -/
theorem Own.tailz {w : World} {b g n c : Nat} {xs : List Int} (h : Own w b (.slice (some ⟨g, 0, none⟩) (n + 1) c) xs) (hl : xs.length = n + 1) (h2 : n ≤ 200) : DIz w b (.slice (some ⟨g, 1, none⟩) n (c - 1)) := by
  have hi := h.intsOf (by omega)
  have hc := h.capL rfl
  have hb := (h.lt g rfl).1
  refine ⟨some ⟨g, 1, none⟩, c - 1, xs.tail, by rw [List.length_tail, hl]; rfl, ⟨by rw [List.length_tail]; omega, fun k hk => ?_⟩, fun ad e => by cases e; exact hb, by rw [List.length_tail]; omega, by rw [List.length_tail]; omega⟩
  rw [List.length_tail] at hk
  refine ⟨⟨g, 1, none⟩, rfl, ?_⟩
  have h3 := hi.some_ (show k + 1 < xs.length by omega)
  have e1 : (⟨g, 0, none⟩ : Addr).add (k + 1) = (⟨g, 1, none⟩ : Addr).add k := by
    rw [add0]
    simp [Addr.add, Nat.add_comm]
  rw [← e1, h3]
  simp [List.getD, List.getElem_tail, show k < xs.length - 1 by omega]
def ClPost (p m : Nat) (w : World) (e : Ending) (w' : World) : Prop := ∃ cv lv, e = .returned (.tuple #[cv, lv]) ∧ DIz w' w.heap.size cv ∧ DIz w' w.heap.size lv ∧ Cur w' p (m + 400) ∧ Tp p w w'
set_option maxRecDepth 100000 in
set_option maxHeartbeats 2000000 in
theorem classes_any (p m b : Nat) (f : Value) (w : World) (hc : Cur w p m) (hm : m < 90000000) (hb : p < b) (hf : DFld w b f) :
    Calls Tryz.prog 40 #[.pointer (some ⟨p, 0, none⟩), f] w (ClPost p m w) := by
  have hpw := hc.lt
  obtain ⟨A, n, c, B, J, d, rfl, hN, hJ⟩ := hf.shape3
  have k1 : Kp w (w.alloc (.cells #[.slice A n c, .slice B J d] 27)) := (Kp.refl w).alloc _
  obtain ⟨d0, d1⟩ := box2 w (.slice A n c) (.slice B J d) 27
  have cb := hc.kp k1
  have Tb : Tp p w (w.alloc (.cells #[.slice A n c, .slice B J d] 27)) := Turn.of_kp k1
  have HWB : Hid ((w.alloc (.cells #[.slice A n c, .slice B J d] 27)).heap.size = w.heap.size + 1) := by show _ = _; simp
  clear hf hc
  go_enter Tryz.func40, Tryz.ntmps40
  go_wp2_with fail
  generalize w.alloc (.cells #[.slice A n c, .slice B J d] 27) = wq at *
  have hbp : w.heap.size ≠ p := by omega
  have ho0 := own_new0 wq (w.heap.size + 1) (by rw [HWB.out]; omega)
  have hn0 := own_new0 (wq.alloc (.cells #[] 3)) (w.heap.size + 1) (by rw [World.size_alloc, HWB.out]; omega)
  rw [World.size_alloc, HWB.out] at hn0
  rw [HWB.out] at ho0
  have kb : Kp (wq.alloc (.cells #[] 3)) ((wq.alloc (.cells #[] 3)).alloc (.cells #[] 3)) := (Kp.refl _).alloc _
  have ka : Kp wq ((wq.alloc (.cells #[] 3)).alloc (.cells #[] 3)) := ((Kp.refl wq).alloc _).trans kb
  replace ho0 := ho0.kp kb
  have T0 : Tp p wq ((wq.alloc (.cells #[] 3)).alloc (.cells #[] 3)) := Turn.of_kp ka
  have cv := cb.kp ka
  have ap0 : Apart (.slice (some ⟨w.heap.size + 1, 0, none⟩) 0 0) (.slice (some ⟨w.heap.size + 1 + 1, 0, none⟩) 0 0) := fun g h e => by
    have h1 : w.heap.size + 1 = g := Option.some.inj h
    have h2 : w.heap.size + 1 + 1 = g := Option.some.inj e
    omega
  clear ka kb k1 cb
  generalize (wq.alloc (.cells #[] 3)).alloc (.cells #[] 3) = wl at *
  go_loopw [6, 8] (fun ox iv wc => ∃ (j : Nat) (xs : List Int), iv = .int .i64 j ∧ j ≤ n ∧ Hid (xs.length = j) ∧ Own wc (w.heap.size + 1) ox xs ∧ Own wc (w.heap.size + 1) (.slice (some ⟨w.heap.size + 1 + 1, 0, none⟩) 0 0) [] ∧ Apart ox (.slice (some ⟨w.heap.size + 1 + 1, 0, none⟩) 0 0) ∧ Tp p wq wc ∧ Cur wc p (m + 2 * j)) (fun _ iv _ => n - (intOf iv).toNat)
  case atStart => exact ⟨0, [], rfl, by omega, Lib.hid rfl, ho0, hn0, ap0, T0, cv⟩
  case round =>
    clear ho0 hn0 ap0 T0 cv
    obtain ⟨j, xs, rfl, hj, Hx, ho, hn, ap, T, cu⟩ := hrel
    have s0 := turn_cellD T d0 hbp
    have s1 := turn_cellD T d1 hbp
    by_cases hlt : j < n
    · have hltI : (j : Int) < (n : Int) := by omega
      have CP := Lib.hid (pick_any p _ 3 wr cu (by omega) (by omega))
      go_wp2_with fail
      with_reducible refine Calls.mono CP.out ?_
      rintro e w5 ⟨z, rfl, _, c5, u5⟩
      clear CP
      have ho5 := own_low ho u5 (fun i hi => by omega)
      have hn5 := own_low hn u5 (fun i hi => by omega)
      have T5 := T.trans u5
      have hb5 : w.heap.size + 1 ≤ w5.heap.size := by have h1 := T5.size; have h2 := HWB.out; omega
      have hys2 : xs.length < 1048576 := by have := Hx.out; omega
      go_wp2_with (first | (at_builtin; go_loud (refine wpl_app rfl (.tmp 19) (.tmp 22) rfl (w.heap.size + 1) _ xs z rfl rfl ho5 hb5 hys2 ?_); intro v6 w6 ho6 ht6 h46; have T6 := tp_own T5 ht6 (fun i e => by have h1 := (ho5.lt i e).1; have h2 := HWB.out; omega); have hn6 := hn5.turn ht6 (fun g hg e => ap g e hg); have ap6 := ap.grow hn5 h46; have c6 := c5.turn ht6 (fun i hi e => by have h1 := (ho5.lt i e).1; omega)) | fail)
      go_roundw
      case rel => exact ⟨j + 1, xs ++ [z], by go_num, by omega, Lib.hid (by rw [List.length_append, Hx.out]; rfl), ho6, hn6, ap6, T6, c6⟩
      case measure => simp [intOf]; omega
    · obtain rfl : n = j := by omega
      have hn0 := hn
      obtain ⟨rs, Hrs⟩ : ∃ rs, rs = xs := ⟨_, rfl⟩
      rw [← Hrs] at Hx ho
      obtain ⟨A8, c8, hov⟩ := ho.shape
      rw [Hx.out] at hov
      subst hov
      have hr0 := ho
      have HR := Hx
      have ap0 : Apart (.slice (some ⟨w.heap.size + 1 + 1, 0, none⟩) 0 0) (.slice A8 n c8) := fun g h e => ap g e h
      have T0 := T
      have cv := cu
      clear ho Hx ap T cu hn hlt Hrs
      go_wp2_with fail
      go_loopw [7, 9] (fun ox iv wc => ∃ (j : Nat) (xs : List Int), iv = .int .i64 j ∧ j ≤ 7 ∧ Hid (xs.length = j) ∧ Own wc (w.heap.size + 1) ox xs ∧ Own wc (w.heap.size + 1) (.slice A8 n c8) rs ∧ Apart ox (.slice A8 n c8) ∧ Tp p wq wc ∧ Cur wc p (m + 2 * n + 2 * j)) (fun _ iv _ => 7 - (intOf iv).toNat)
      case atStart => exact ⟨0, [], rfl, by omega, Lib.hid rfl, hn0, hr0, ap0, T0, cv⟩
      case round =>
        clear hn0 hr0 ap0 T0 cv s0 s1
        obtain ⟨j, xs, rfl, hj, Hx, ho, hn, ap, T, cu⟩ := hrel
        have s0 := turn_cellD T d0 hbp
        have s1 := turn_cellD T d1 hbp
        by_cases hlt : j < 7
        · have hltI : (j : Int) < 7 := by omega
          have CC := amongLit_any p (m + 2 * n + 2 * j) [1, 1, 2, 0, 7] _ cu (by omega) (by simp) (by simp)
          simp only [List.map_cons, List.map_nil, List.length_cons, List.length_nil, Nat.zero_add, Nat.reduceAdd] at CC
          replace CC := Lib.hid CC
          go_wp2_with fail
          with_reducible refine Calls.mono CC.out ?_
          rintro e w5 ⟨z, rfl, _, c5, u5⟩
          clear CC
          have ho5 := own_low ho u5 (fun i hi => by omega)
          have hn5 := own_low hn u5 (fun i hi => by omega)
          have T5 := T.trans u5
          have hb5 : w.heap.size + 1 ≤ w5.heap.size := by have h1 := T5.size; have h2 := HWB.out; omega
          have hys2 : xs.length < 1048576 := by have := Hx.out; omega
          go_wp2_with (first | (at_builtin; go_loud (refine wpl_app rfl (.tmp 28) (.tmp 32) rfl (w.heap.size + 1) _ xs z rfl rfl ho5 hb5 hys2 ?_); intro v6 w6 ho6 ht6 h46; have T6 := tp_own T5 ht6 (fun i e => by have h1 := (ho5.lt i e).1; have h2 := HWB.out; omega); have hn6 := hn5.turn ht6 (fun g hg e => ap g e hg); have ap6 := ap.grow hn5 h46; have c6 := c5.turn ht6 (fun i hi e => by have h1 := (ho5.lt i e).1; omega)) | fail)
          go_roundw
          case rel => exact ⟨j + 1, xs ++ [z], by go_num, by omega, Lib.hid (by rw [List.length_append, Hx.out]; rfl), ho6, hn6, ap6, T6, c6⟩
          case measure => simp [intOf]; omega
        · obtain rfl : j = 7 := by omega
          obtain ⟨A9, c9, hov⟩ := ho.shape
          rw [Hx.out] at hov
          subst hov
          have hxl := Hx.out
          have hrl := HR.out
          obtain ⟨ga, cp9, e9⟩ := ho.at0 hxl (by omega)
          injection e9 with h1 h2 h3
          subst h1 h3
          clear h2
          have CP := Lib.hid (pick_any p _ 30 wr cu (by omega) (by omega))
          go_wp2_with fail
          with_reducible refine Calls.mono CP.out ?_
          rintro e wz ⟨r, rfl, hr, cz, uz⟩
          clear CP s0 s1
          replace ho := own_low ho uz (fun i hi => by omega)
          replace hn := own_low hn uz (fun i hi => by omega)
          replace T := T.trans uz
          replace cu := cz.mono (m' := m + 300) (by omega)
          have hgb := (ho.lt ga rfl).1
          have hc9 := ho.capL rfl
          clear cz uz
          by_cases r0 : r = 0
          · subst r0
            have hb5 : w.heap.size + 1 ≤ wz.heap.size := by have h1 := T.size; have h2 := HWB.out; omega
            have hys2 : rs.length < 1048576 := by omega
            go_wp2_with (first | (at_builtin; go_loud (refine wpl_app rfl (.tmp 38) (.tmp 39) rfl (w.heap.size + 1) _ rs 0 rfl rfl hn hb5 hys2 ?_); intro v6 w6 ho6 ht6 h46; have T6 := tp_own T ht6 (fun i e => by have h1 := (hn.lt i e).1; have h2 := HWB.out; omega); have hn6 := ho.turn ht6 (fun g hg e => ap g hg e); have c6 := cu.turn ht6 (fun i hi e => by have h1 := (hn.lt i e).1; omega)) | fail)
            have hz1 : DIz w6 (w.heap.size + 1) v6 := ho6.diz (by rw [List.length_append]; simp; omega)
            have hz2 := hn6.diz (by omega)
            go_wp2_with fail
            exact bodyPost_ret (v := .tuple #[v6, .slice (some ⟨ga, 0, none⟩) 7 c9]) (by simp [results, Tryz.results40, go_sem]) rfl ⟨_, _, rfl, DIz.mono hz1 (Nat.le_succ _), DIz.mono hz2 (Nat.le_succ _), Cur.mono c6 (by omega), (Tb.trans T6)⟩
          · have q0 : (r == 0) = false := by simp [r0]
            by_cases r1 : r = 1
            · subst r1
              by_cases hn0 : 0 < n
              · have hnI : (0 : Int) < (n : Int) := by omega
                obtain ⟨gc, cc8, e8⟩ := hn.at0 hrl hn0
                injection e8 with h1 h2 h3
                subst h1 h3
                clear h2
                have hgc := (hn.lt gc rfl).1
                have CC := amongLit_any p (m + 300) [-1, 6, 7] wz cu (by omega) (by simp) (by simp)
                simp only [List.map_cons, List.map_nil, List.length_cons, List.length_nil, Nat.zero_add, Nat.reduceAdd] at CC
                replace CC := Lib.hid CC
                go_wp2_with fail
                with_reducible refine Calls.mono CC.out ?_
                rintro e w5 ⟨z, rfl, _, c5, u5⟩
                clear CC
                have ho5 := own_low ho u5 (fun i hi => by omega)
                have hn5 := own_low hn u5 (fun i hi => by omega)
                have T5 := T.trans u5
                obtain ⟨y1, y2, y3⟩ := hn5.slotL hrl hn0
                obtain ⟨o6, t6⟩ := y3 z
                have ho6 := ho5.turn t6 (fun g hg e => ap g hg (by rw [e]; rfl))
                have T6 := tp_own T5 t6 (fun i e => by have h2 := HWB.out; omega)
                have c6 := c5.turn t6 (fun i hi e => by omega)
                clear y3
                have hz1 := o6.diz (by rw [List.length_set]; omega)
                have hz2 := ho6.diz (by omega)
                go_wp2_with fail
                exact bodyPost_ret (v := .tuple #[.slice (some ⟨gc, 0, none⟩) n c8, .slice (some ⟨ga, 0, none⟩) 7 c9]) (by simp [results, Tryz.results40, go_sem]) rfl ⟨_, _, rfl, DIz.mono hz1 (Nat.le_succ _), DIz.mono hz2 (Nat.le_succ _), Cur.mono c6 (by omega), (Tb.trans T6)⟩
              · have hnI : ¬ (0 : Int) < (n : Int) := by omega
                have hz1 := hn.diz (by omega)
                have hz2 := ho.diz (by omega)
                go_wp2_with fail
                exact bodyPost_ret (v := .tuple #[.slice A8 n c8, .slice (some ⟨ga, 0, none⟩) 7 c9]) (by simp [results, Tryz.results40, go_sem]) rfl ⟨_, _, rfl, DIz.mono hz1 (Nat.le_succ _), DIz.mono hz2 (Nat.le_succ _), Cur.mono cu (by omega), (Tb.trans T)⟩
            · have q1 : (r == 1) = false := by simp [r1]
              by_cases r2 : r = 2
              · subst r2
                have hz1 := hn.diz (by omega)
                have hz2 := ho.tailz (n := 6) hxl (by omega)
                have hcq : (c9 == 1) = false := by simp; omega
                go_wp2_with fail
                exact bodyPost_ret (v := .tuple #[.slice A8 n c8, .slice (some ⟨ga, 1, none⟩) 6 (c9 - 1)]) (by simp [results, Tryz.results40, go_sem]) rfl ⟨_, _, rfl, DIz.mono hz1 (Nat.le_succ _), DIz.mono hz2 (Nat.le_succ _), Cur.mono cu (by omega), (Tb.trans T)⟩
              · have q2 : (r == 2) = false := by simp [r2]
                by_cases r3 : r = 3
                · subst r3
                  have CC := amongLit_any p (m + 300) [-1, 8] wz cu (by omega) (by simp) (by simp)
                  simp only [List.map_cons, List.map_nil, List.length_cons, List.length_nil, Nat.zero_add, Nat.reduceAdd] at CC
                  replace CC := Lib.hid CC
                  go_wp2_with fail
                  with_reducible refine Calls.mono CC.out ?_
                  rintro e w5 ⟨z, rfl, _, c5, u5⟩
                  clear CC
                  have ho5 := own_low ho u5 (fun i hi => by omega)
                  have hn5 := own_low hn u5 (fun i hi => by omega)
                  have T5 := T.trans u5
                  obtain ⟨y1, y2, y3⟩ := ho5.slotL hxl (show 0 < 7 by omega)
                  obtain ⟨o6, t6⟩ := y3 z
                  have hn6 := hn5.turn t6 (fun g hg e => ap g (by rw [e]; rfl) hg)
                  have T6 := tp_own T5 t6 (fun i e => by have h2 := HWB.out; omega)
                  have c6 := c5.turn t6 (fun i hi e => by omega)
                  clear y3
                  have hz1 := hn6.diz (by omega)
                  have hz2 := o6.diz (by rw [List.length_set]; omega)
                  go_wp2_with fail
                  exact bodyPost_ret (v := .tuple #[.slice A8 n c8, .slice (some ⟨ga, 0, none⟩) 7 c9]) (by simp [results, Tryz.results40, go_sem]) rfl ⟨_, _, rfl, DIz.mono hz1 (Nat.le_succ _), DIz.mono hz2 (Nat.le_succ _), Cur.mono c6 (by omega), (Tb.trans T6)⟩
                · have q3 : (r == 3) = false := by simp [r3]
                  have hz1 := hn.diz (by omega)
                  have hz2 := ho.diz (by omega)
                  go_wp2_with fail
                  exact bodyPost_ret (v := .tuple #[.slice A8 n c8, .slice (some ⟨ga, 0, none⟩) 7 c9]) (by simp [results, Tryz.results40, go_sem]) rfl ⟨_, _, rfl, DIz.mono hz1 (Nat.le_succ _), DIz.mono hz2 (Nat.le_succ _), Cur.mono cu (by omega), (Tb.trans T)⟩
end Go.Proofs.YtlglonjijfpgaaaGreat
