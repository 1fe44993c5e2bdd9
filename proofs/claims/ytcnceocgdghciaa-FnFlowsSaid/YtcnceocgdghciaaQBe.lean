/- The drawing of arguments for the laws on flows: a field, rooms and needs. No condition. -/
import Derived.Test.YtcnceocgdghciaaQBd
import Derived.Test.YtcnceocgdghciaaQAg
namespace Go.Proofs.Ytcnceocgdghciaa
open Go.RowKit Go.Sort

/-- A field, rooms and needs have been drawn. -/
def RmPost (p m : Nat) (w : World) (e : Ending) (w' : World) : Prop := ∃ v rv nv, e = .returned (.tuple #[v, rv, nv]) ∧ DFld w' w.heap.size v ∧ DInts w' w.heap.size rv ∧ DInts w' w.heap.size nv ∧ Cur w' p (m + 6000) ∧ Tp p w w'
set_option maxRecDepth 100000 in
set_option maxHeartbeats 2000000 in
theorem rooms7_any (p m : Nat) (most : Int) (w : World) (hc : Cur w p m) (hm : m < 90000000) (hmost : 1 ≤ most) :
    Calls Try.prog 20 #[.pointer (some ⟨p, 0, none⟩), .int .i64 most] w (RmPost p m w) := by
  have hp := hc.lt
  have t0 := there_newD w [.slice none 0 0, .slice none 0 0] 27
  simp only [List.length_cons, List.length_nil, Nat.zero_add, Nat.reduceAdd] at t0
  have k0 : Tp p w (w.alloc (.cells #[.slice none 0 0, .slice none 0 0] 27)) := Turn.of_kp ((Kp.refl w).alloc _)
  have c0 := hc.kp ((Kp.refl w).alloc (.cells #[.slice none 0 0, .slice none 0 0] 27))
  have hsz : Hid ((w.alloc (.cells #[.slice none 0 0, .slice none 0 0] 27)).heap.size = w.heap.size + 1) := by show _ = _; simp
  have CF := Lib.hid (fieldOf_any p m most _ c0 (by omega) hmost)
  go_enter Try.func20, Try.ntmps20
  go_wp2_with fail
  generalize w.alloc (.cells #[.slice none 0 0, .slice none 0 0] 27) = wa at *
  with_reducible refine Calls.mono CF.out ?_
  rintro e w1 ⟨v, rfl, hv, c1, u1⟩
  clear CF
  rw [hsz.out] at hv
  obtain ⟨A, n, c, B, k, d, rfl, hn9, hk9⟩ := hv.shape3
  have kv : Kp w1 (w1.alloc (.cells #[.slice A n c, .slice B k d] 27)) := (Kp.refl w1).alloc _
  obtain ⟨d0, d1⟩ := box2 w1 (.slice A n c) (.slice B k d) 27
  have hvb : w.heap.size + 1 ≤ w1.heap.size := by have := u1.size; rw [hsz.out] at this; exact this
  have tv := turn_thereD (Turn.of_kp (S := fun _ => False) kv) (turn_thereD u1 t0 (by omega)) (fun h => h)
  have kk : Tp p w (w1.alloc (.cells #[.slice A n c, .slice B k d] 27)) := (k0.trans u1).trans (Turn.of_kp kv)
  have hfv := hv.kp kv
  have cv := c1.kp kv
  have HWB : Hid ((w1.alloc (.cells #[.slice A n c, .slice B k d] 27)).heap.size = w1.heap.size + 1) := by show _ = _; simp
  clear hv c1 u1 c0 hsz t0 k0
  go_wp2_with fail
  generalize w1.alloc (.cells #[.slice A n c, .slice B k d] 27) = wq at *
  have ho0 := own_new0 wq (w1.heap.size + 1) (by rw [HWB.out]; omega)
  have hn0 := own_new0 (wq.alloc (.cells #[] 3)) (w1.heap.size + 1) (by rw [World.size_alloc, HWB.out]; omega)
  rw [World.size_alloc, HWB.out] at hn0
  rw [HWB.out] at ho0
  have kb : Kp (wq.alloc (.cells #[] 3)) ((wq.alloc (.cells #[] 3)).alloc (.cells #[] 3)) := (Kp.refl _).alloc _
  have ka : Kp wq ((wq.alloc (.cells #[] 3)).alloc (.cells #[] 3)) := ((Kp.refl wq).alloc _).trans kb
  replace ho0 := ho0.kp kb
  have T0 : Tp p wq ((wq.alloc (.cells #[] 3)).alloc (.cells #[] 3)) := Turn.of_kp ka
  replace cv := cv.kp ka
  generalize w1.heap.size = bv at *
  have ap0 : Apart (.slice (some ⟨bv + 1, 0, none⟩) 0 0) (.slice (some ⟨bv + 1 + 1, 0, none⟩) 0 0) := fun g h e => by
    have h1 : bv + 1 = g := Option.some.inj h
    have h2 : bv + 1 + 1 = g := Option.some.inj e
    omega
  have hbp : bv ≠ p := by omega
  clear ka kb kv
  generalize (wq.alloc (.cells #[] 3)).alloc (.cells #[] 3) = wl at *
  go_loopw [8, 10] (fun ox iv wc => ∃ (j : Nat) (xs : List Int), iv = .int .i64 j ∧ j ≤ n ∧ Hid (xs.length = j) ∧ Own wc (bv + 1) ox xs ∧ Own wc (bv + 1) (.slice (some ⟨bv + 1 + 1, 0, none⟩) 0 0) [] ∧ Apart ox (.slice (some ⟨bv + 1 + 1, 0, none⟩) 0 0) ∧ Tp p wq wc ∧ Cur wc p (m + 5000 + 2 * j)) (fun _ iv _ => n - (intOf iv).toNat)
  case atStart => exact ⟨0, [], rfl, by omega, Lib.hid rfl, ho0, hn0, ap0, T0, cv⟩
  case round =>
    clear ho0 hn0 ap0 T0 cv
    obtain ⟨j, xs, rfl, hj, Hx, ho, hn, ap, T, cu⟩ := hrel
    have s0 := turn_cellD T d0 hbp
    have s1 := turn_cellD T d1 hbp
    by_cases hlt : j < n
    · have hltI : (j : Int) < (n : Int) := by omega
      have CC := amongLit_any p (m + 5000 + 2 * j) [3, 4, 5, 2, 6, 0, 20] _ cu (by omega) (by simp) (by simp)
      simp only [List.map_cons, List.map_nil, List.length_cons, List.length_nil, Nat.zero_add, Nat.reduceAdd] at CC
      replace CC := Lib.hid CC
      go_wp2_with fail
      with_reducible refine Calls.mono CC.out ?_
      rintro e w5 ⟨z, rfl, _, c5, u5⟩
      clear CC
      have ho5 := own_low ho u5 (fun i hi => by omega)
      have hn5 := own_low hn u5 (fun i hi => by omega)
      have T5 := T.trans u5
      have hb5 : bv + 1 ≤ w5.heap.size := by have h1 := T5.size; have h2 := HWB.out; omega
      have hys2 : xs.length < 1048576 := by have := Hx.out; omega
      go_wp2_with (first | (at_builtin; go_loud (refine wpl_app rfl (.tmp 24) (.tmp 28) rfl (bv + 1) _ xs z rfl rfl ho5 hb5 hys2 ?_); intro v6 w6 ho6 ht6 h46; have T6 := tp_own T5 ht6 (fun i e => by have h1 := (ho5.lt i e).1; have h2 := HWB.out; omega); have hn6 := hn5.turn ht6 (fun g hg e => ap g e hg); have ap6 := ap.grow hn5 h46; have c6 := c5.turn ht6 (fun i hi e => by have h1 := (ho5.lt i e).1; omega)) | fail)
      go_roundw
      case rel => exact ⟨j + 1, xs ++ [z], by go_num, by omega, Lib.hid (by rw [List.length_append, Hx.out]; rfl), ho6, hn6, ap6, T6, c6⟩
      case measure => simp [intOf]; omega
    · obtain rfl : n = j := by omega
      have hro := ho
      have HXR := Hx
      have hn0 := hn
      obtain ⟨rs, Hrs⟩ : ∃ rs, rs = xs := ⟨_, rfl⟩
      rw [← Hrs] at Hx ho
      obtain ⟨A8, c8, hov⟩ := ho.shape
      rw [Hx.out] at hov
      subst hov
      have hr0 := ho
      have HR := Hx
      have ap0 : Apart (.slice (some ⟨bv + 1 + 1, 0, none⟩) 0 0) (.slice A8 n c8) := fun g h e => ap g e h
      have T0 := T
      have cv := cu
      clear ho Hx ap T cu hn hlt Hrs
      go_wp2_with fail
      go_loopw [9, 11] (fun ox iv wc => ∃ (j : Nat) (xs : List Int), iv = .int .i64 j ∧ j ≤ k ∧ Hid (xs.length = j) ∧ Own wc (bv + 1) ox xs ∧ Own wc (bv + 1) (.slice A8 n c8) rs ∧ Apart ox (.slice A8 n c8) ∧ Tp p wq wc ∧ Cur wc p (m + 5000 + 2 * n + 2 * j)) (fun _ iv _ => k - (intOf iv).toNat)
      case atStart => exact ⟨0, [], rfl, by omega, Lib.hid rfl, hn0, hr0, ap0, T0, cv⟩
      case round =>
        clear hn0 hr0 ap0 T0 cv s0 s1
        obtain ⟨j, xs, rfl, hj, Hx, ho, hn, ap, T, cu⟩ := hrel
        have s0 := turn_cellD T d0 hbp
        have s1 := turn_cellD T d1 hbp
        by_cases hlt : j < k
        · have hltI : (j : Int) < (k : Int) := by omega
          have CC := amongLit_any p (m + 5000 + 2 * n + 2 * j) [1, 2, 1, 3, 5, 0] _ cu (by omega) (by simp) (by simp)
          simp only [List.map_cons, List.map_nil, List.length_cons, List.length_nil, Nat.zero_add, Nat.reduceAdd] at CC
          replace CC := Lib.hid CC
          go_wp2_with fail
          with_reducible refine Calls.mono CC.out ?_
          rintro e w5 ⟨z, rfl, _, c5, u5⟩
          clear CC
          have ho5 := own_low ho u5 (fun i hi => by omega)
          have hn5 := own_low hn u5 (fun i hi => by omega)
          have T5 := T.trans u5
          have hb5 : bv + 1 ≤ w5.heap.size := by have h1 := T5.size; have h2 := HWB.out; omega
          have hys2 : xs.length < 1048576 := by have := Hx.out; omega
          go_wp2_with (first | (at_builtin; go_loud (refine wpl_app rfl (.tmp 37) (.tmp 41) rfl (bv + 1) _ xs z rfl rfl ho5 hb5 hys2 ?_); intro v6 w6 ho6 ht6 h46; have T6 := tp_own T5 ht6 (fun i e => by have h1 := (ho5.lt i e).1; have h2 := HWB.out; omega); have hn6 := hn5.turn ht6 (fun g hg e => ap g e hg); have ap6 := ap.grow hn5 h46; have c6 := c5.turn ht6 (fun i hi e => by have h1 := (ho5.lt i e).1; omega)) | fail)
          go_roundw
          case rel => exact ⟨j + 1, xs ++ [z], by go_num, by omega, Lib.hid (by rw [List.length_append, Hx.out]; rfl), ho6, hn6, ap6, T6, c6⟩
          case measure => simp [intOf]; omega
        · obtain rfl : k = j := by omega
          obtain ⟨A9, c9, hov⟩ := ho.shape
          rw [Hx.out] at hov
          subst hov
          have CP := Lib.hid (pick_any p (m + 5000 + 2 * n + 2 * k) 32 _ cu (by omega) (by omega))
          go_wp2_with fail
          with_reducible refine Calls.mono CP.out ?_
          rintro e wz ⟨r, rfl, hr, cz, uz⟩
          clear CP s0 s1
          have hrl := HR.out
          have hxl := Hx.out
          replace ho := own_low ho uz (fun i hi => by omega)
          replace hn := own_low hn uz (fun i hi => by omega)
          replace T := T.trans uz
          replace cu := cz.mono (m' := m + 5500) (by omega)
          clear cz uz
          by_cases r0 : r = 0
          · subst r0
            have hb5 : bv + 1 ≤ wz.heap.size := by have h1 := T.size; have h2 := HWB.out; omega
            have hys2 : (rs).length < 1048576 := by omega
            obtain ⟨N6, hN6⟩ : ∃ N6, (rs).length + 1 = N6 := ⟨_, rfl⟩
            have hl6 : ((rs) ++ [(1 : Int)]).length = N6 := by rw [List.length_append, ← hN6]; rfl
            go_wp2_with (first | (at_builtin; go_loud (refine wpl_app rfl (.tmp 47) (.tmp 48) rfl (bv + 1) _ (rs) 1 rfl rfl hn hb5 hys2 ?_); intro v6 w6 ho6 ht6 h46; have T6 := tp_own T ht6 (fun i e => by have h1 := ((hn).lt i e).1; have h2 := HWB.out; omega); have hn6 := (ho).turn ht6 (fun g hg e => ap g hg e); have c6 := cu.turn ht6 (fun i hi e => by have h1 := ((hn).lt i e).1; omega); obtain ⟨A7, c7, hv6⟩ := ho6.shape; rw [hl6] at hv6; subst hv6; have s0 := turn_cellD T6 d0 hbp; have s1 := turn_cellD T6 d1 hbp; have td := turn_thereD T6 tv (by omega); have HE := Lib.hid (fld_ret (hfv.turn T6 (fun i hi => by omega)) td c6 hp (kk.trans T6) (Nat.le_refl _))) | (refine wpList_store_mid rfl 27 (.tmp 4) (.tmp 75) rfl w.heap.size 0 #[.slice A n c, .slice B k d] rfl rfl td (by kernel_rfl) (by simp [Value.oneCell']) ?_) | fail)
            obtain ⟨z0, z1, z2, z3, z4⟩ := HE.out
            have hi2 : ∀ i, bv + 1 ≤ i → ¬ i = w.heap.size := fun i hi => by omega
            have hsz3 : w.heap.size ≤ bv + 1 := by omega
            have hld : DInts w6 (bv + 1) (.slice A7 N6 c7) := ⟨_, ho6, by (try simp only [List.length_append, List.length_set, List.length_cons, List.length_nil]); omega⟩
            have hln : DInts w6 (bv + 1) (.slice A9 k c9) := ⟨_, hn6, by (try simp only [List.length_append, List.length_set, List.length_cons, List.length_nil]); omega⟩
            have ts0 := turn_setCellsD w.heap.size [.slice A n c, .slice B k d] 0 w6
            exact bodyPost_ret (v := .tuple #[.agg #[.slice A n c, .slice B k d], .slice A7 N6 c7, .slice A9 k c9]) (by simp [results, Try.results20, go_sem, z0, z1]) rfl ⟨_, _, _, rfl, z2, (hld.turn ts0 (fun i hi => hi2 i hi)).mono hsz3, (hln.turn ts0 (fun i hi => hi2 i hi)).mono hsz3, z3.mono (by omega), z4⟩
          · have q0 : (r == 0) = false := by simp [r0]
            by_cases r1 : r = 1
            · subst r1
              have hb5 : bv + 1 ≤ wz.heap.size := by have h1 := T.size; have h2 := HWB.out; omega
              have hys2 : (xs).length < 1048576 := by omega
              obtain ⟨N6, hN6⟩ : ∃ N6, (xs).length + 1 = N6 := ⟨_, rfl⟩
              have hl6 : ((xs) ++ [(1 : Int)]).length = N6 := by rw [List.length_append, ← hN6]; rfl
              go_wp2_with (first | (at_builtin; go_loud (refine wpl_app rfl (.tmp 52) (.tmp 53) rfl (bv + 1) _ (xs) 1 rfl rfl ho hb5 hys2 ?_); intro v6 w6 ho6 ht6 h46; have T6 := tp_own T ht6 (fun i e => by have h1 := ((ho).lt i e).1; have h2 := HWB.out; omega); have hn6 := (hn).turn ht6 (fun g hg e => ap g e hg); have c6 := cu.turn ht6 (fun i hi e => by have h1 := ((ho).lt i e).1; omega); obtain ⟨A7, c7, hv6⟩ := ho6.shape; rw [hl6] at hv6; subst hv6; have s0 := turn_cellD T6 d0 hbp; have s1 := turn_cellD T6 d1 hbp; have td := turn_thereD T6 tv (by omega); have HE := Lib.hid (fld_ret (hfv.turn T6 (fun i hi => by omega)) td c6 hp (kk.trans T6) (Nat.le_refl _))) | (refine wpList_store_mid rfl 27 (.tmp 4) (.tmp 75) rfl w.heap.size 0 #[.slice A n c, .slice B k d] rfl rfl td (by kernel_rfl) (by simp [Value.oneCell']) ?_) | fail)
              obtain ⟨z0, z1, z2, z3, z4⟩ := HE.out
              have hi2 : ∀ i, bv + 1 ≤ i → ¬ i = w.heap.size := fun i hi => by omega
              have hsz3 : w.heap.size ≤ bv + 1 := by omega
              have hld : DInts w6 (bv + 1) (.slice A8 n c8) := ⟨_, hn6, by (try simp only [List.length_append, List.length_set, List.length_cons, List.length_nil]); omega⟩
              have hln : DInts w6 (bv + 1) (.slice A7 N6 c7) := ⟨_, ho6, by (try simp only [List.length_append, List.length_set, List.length_cons, List.length_nil]); omega⟩
              have ts0 := turn_setCellsD w.heap.size [.slice A n c, .slice B k d] 0 w6
              exact bodyPost_ret (v := .tuple #[.agg #[.slice A n c, .slice B k d], .slice A8 n c8, .slice A7 N6 c7]) (by simp [results, Try.results20, go_sem, z0, z1]) rfl ⟨_, _, _, rfl, z2, (hld.turn ts0 (fun i hi => hi2 i hi)).mono hsz3, (hln.turn ts0 (fun i hi => hi2 i hi)).mono hsz3, z3.mono (by omega), z4⟩
            · have q1 : (r == 1) = false := by simp [r1]
              by_cases r2 : r = 2
              · subst r2
                by_cases hn0 : 0 < n
                · have hnI : (0 : Int) < (n : Int) := by omega
                  obtain ⟨ga, hga⟩ : ∃ ga, A8 = some ⟨ga, 0, none⟩ := by obtain ⟨g, cc, e⟩ := hn.at0 hrl hn0; cases e; exact ⟨_, rfl⟩
                  subst hga
                  have CC := amongLit_any p (m + 5500) [-1, 21] wz cu (by omega) (by simp) (by simp)
                  simp only [List.map_cons, List.map_nil, List.length_cons, List.length_nil, Nat.zero_add, Nat.reduceAdd] at CC
                  replace CC := Lib.hid CC
                  go_wp2_with fail
                  with_reducible refine Calls.mono CC.out ?_
                  rintro e w5 ⟨z, rfl, _, c5, u5⟩
                  clear CC
                  have ho5 := own_low ho u5 (fun i hi => by omega)
                  have hn5 := own_low hn u5 (fun i hi => by omega)
                  have T5 := T.trans u5
                  obtain ⟨y1, y2, y3⟩ := hn5.slotL hrl hn0
                  obtain ⟨o6, t6⟩ := y3 z
                  have ho6 := ho5.turn t6 (fun g hg e => ap g hg (by rw [e]; rfl))
                  have T6 := tp_own T5 t6 (fun i e => by have h1 := (hn5.lt i (by rw [e]; rfl)).1; have h2 := HWB.out; omega)
                  have c6 := c5.turn t6 (fun i hi e => by have h1 := (hn5.lt i (by rw [e]; rfl)).1; omega)
                  have s0 := turn_cellD T6 d0 hbp
                  have s1 := turn_cellD T6 d1 hbp
                  have td := turn_thereD T6 tv (by omega)
                  have HE := Lib.hid (fld_ret (hfv.turn T6 (fun i hi => by omega)) td c6 hp (kk.trans T6) (Nat.le_refl _))
                  clear y3
                  go_wp2_with (first | (refine wpList_store_mid rfl 27 (.tmp 4) (.tmp 75) rfl w.heap.size 0 #[.slice A n c, .slice B k d] rfl rfl td (by kernel_rfl) (by simp [Value.oneCell']) ?_) | fail)
                  obtain ⟨z0, z1, z2, z3, z4⟩ := HE.out
                  have hi2 : ∀ i, bv + 1 ≤ i → ¬ i = w.heap.size := fun i hi => by omega
                  have hsz3 : w.heap.size ≤ bv + 1 := by omega
                  have hld : DInts (w5.setCell ⟨ga, 0, none⟩ (.int .i64 z)) (bv + 1) (.slice (some ⟨ga, 0, none⟩) n c8) := ⟨_, o6, by (try simp only [List.length_append, List.length_set, List.length_cons, List.length_nil]); omega⟩
                  have hln : DInts (w5.setCell ⟨ga, 0, none⟩ (.int .i64 z)) (bv + 1) (.slice A9 k c9) := ⟨_, ho6, by (try simp only [List.length_append, List.length_set, List.length_cons, List.length_nil]); omega⟩
                  have ts0 := turn_setCellsD w.heap.size [.slice A n c, .slice B k d] 0 (w5.setCell ⟨ga, 0, none⟩ (.int .i64 z))
                  exact bodyPost_ret (v := .tuple #[.agg #[.slice A n c, .slice B k d], .slice (some ⟨ga, 0, none⟩) n c8, .slice A9 k c9]) (by simp [results, Try.results20, go_sem, z0, z1]) rfl ⟨_, _, _, rfl, z2, (hld.turn ts0 (fun i hi => hi2 i hi)).mono hsz3, (hln.turn ts0 (fun i hi => hi2 i hi)).mono hsz3, z3.mono (by omega), z4⟩
                · have hnI : ¬ (0 : Int) < (n : Int) := by omega
                  have s0 := turn_cellD T d0 hbp
                  have s1 := turn_cellD T d1 hbp
                  have td := turn_thereD T tv (by omega)
                  have HE := Lib.hid (fld_ret (hfv.turn T (fun i hi => by omega)) td cu hp (kk.trans T) (Nat.le_refl _))
                  go_wp2_with (first | (refine wpList_store_mid rfl 27 (.tmp 4) (.tmp 75) rfl w.heap.size 0 #[.slice A n c, .slice B k d] rfl rfl td (by kernel_rfl) (by simp [Value.oneCell']) ?_) | fail)
                  obtain ⟨z0, z1, z2, z3, z4⟩ := HE.out
                  have hi2 : ∀ i, bv + 1 ≤ i → ¬ i = w.heap.size := fun i hi => by omega
                  have hsz3 : w.heap.size ≤ bv + 1 := by omega
                  have hld : DInts wz (bv + 1) (.slice A8 n c8) := ⟨_, hn, by (try simp only [List.length_append, List.length_set, List.length_cons, List.length_nil]); omega⟩
                  have hln : DInts wz (bv + 1) (.slice A9 k c9) := ⟨_, ho, by (try simp only [List.length_append, List.length_set, List.length_cons, List.length_nil]); omega⟩
                  have ts0 := turn_setCellsD w.heap.size [.slice A n c, .slice B k d] 0 wz
                  exact bodyPost_ret (v := .tuple #[.agg #[.slice A n c, .slice B k d], .slice A8 n c8, .slice A9 k c9]) (by simp [results, Try.results20, go_sem, z0, z1]) rfl ⟨_, _, _, rfl, z2, (hld.turn ts0 (fun i hi => hi2 i hi)).mono hsz3, (hln.turn ts0 (fun i hi => hi2 i hi)).mono hsz3, z3.mono (by omega), z4⟩
              · have q2 : (r == 2) = false := by simp [r2]
                by_cases r3 : r = 3
                · subst r3
                  by_cases hn0 : 0 < k
                  · have hnI : (0 : Int) < (k : Int) := by omega
                    obtain ⟨ga, hga⟩ : ∃ ga, A9 = some ⟨ga, 0, none⟩ := by obtain ⟨g, cc, e⟩ := ho.at0 hxl hn0; cases e; exact ⟨_, rfl⟩
                    subst hga
                    have CC := amongLit_any p (m + 5500) [-1, 6] wz cu (by omega) (by simp) (by simp)
                    simp only [List.map_cons, List.map_nil, List.length_cons, List.length_nil, Nat.zero_add, Nat.reduceAdd] at CC
                    replace CC := Lib.hid CC
                    go_wp2_with fail
                    with_reducible refine Calls.mono CC.out ?_
                    rintro e w5 ⟨z, rfl, _, c5, u5⟩
                    clear CC
                    have ho5 := own_low ho u5 (fun i hi => by omega)
                    have hn5 := own_low hn u5 (fun i hi => by omega)
                    have T5 := T.trans u5
                    obtain ⟨y1, y2, y3⟩ := ho5.slotL hxl hn0
                    obtain ⟨o6, t6⟩ := y3 z
                    have ho6 := hn5.turn t6 (fun g hg e => ap g (by rw [e]; rfl) hg)
                    have T6 := tp_own T5 t6 (fun i e => by have h1 := (ho5.lt i (by rw [e]; rfl)).1; have h2 := HWB.out; omega)
                    have c6 := c5.turn t6 (fun i hi e => by have h1 := (ho5.lt i (by rw [e]; rfl)).1; omega)
                    have s0 := turn_cellD T6 d0 hbp
                    have s1 := turn_cellD T6 d1 hbp
                    have td := turn_thereD T6 tv (by omega)
                    have HE := Lib.hid (fld_ret (hfv.turn T6 (fun i hi => by omega)) td c6 hp (kk.trans T6) (Nat.le_refl _))
                    clear y3
                    go_wp2_with (first | (refine wpList_store_mid rfl 27 (.tmp 4) (.tmp 75) rfl w.heap.size 0 #[.slice A n c, .slice B k d] rfl rfl td (by kernel_rfl) (by simp [Value.oneCell']) ?_) | fail)
                    obtain ⟨z0, z1, z2, z3, z4⟩ := HE.out
                    have hi2 : ∀ i, bv + 1 ≤ i → ¬ i = w.heap.size := fun i hi => by omega
                    have hsz3 : w.heap.size ≤ bv + 1 := by omega
                    have hld : DInts (w5.setCell ⟨ga, 0, none⟩ (.int .i64 z)) (bv + 1) (.slice A8 n c8) := ⟨_, ho6, by (try simp only [List.length_append, List.length_set, List.length_cons, List.length_nil]); omega⟩
                    have hln : DInts (w5.setCell ⟨ga, 0, none⟩ (.int .i64 z)) (bv + 1) (.slice (some ⟨ga, 0, none⟩) k c9) := ⟨_, o6, by (try simp only [List.length_append, List.length_set, List.length_cons, List.length_nil]); omega⟩
                    have ts0 := turn_setCellsD w.heap.size [.slice A n c, .slice B k d] 0 (w5.setCell ⟨ga, 0, none⟩ (.int .i64 z))
                    exact bodyPost_ret (v := .tuple #[.agg #[.slice A n c, .slice B k d], .slice A8 n c8, .slice (some ⟨ga, 0, none⟩) k c9]) (by simp [results, Try.results20, go_sem, z0, z1]) rfl ⟨_, _, _, rfl, z2, (hld.turn ts0 (fun i hi => hi2 i hi)).mono hsz3, (hln.turn ts0 (fun i hi => hi2 i hi)).mono hsz3, z3.mono (by omega), z4⟩
                  · have hnI : ¬ (0 : Int) < (k : Int) := by omega
                    have s0 := turn_cellD T d0 hbp
                    have s1 := turn_cellD T d1 hbp
                    have td := turn_thereD T tv (by omega)
                    have HE := Lib.hid (fld_ret (hfv.turn T (fun i hi => by omega)) td cu hp (kk.trans T) (Nat.le_refl _))
                    go_wp2_with (first | (refine wpList_store_mid rfl 27 (.tmp 4) (.tmp 75) rfl w.heap.size 0 #[.slice A n c, .slice B k d] rfl rfl td (by kernel_rfl) (by simp [Value.oneCell']) ?_) | fail)
                    obtain ⟨z0, z1, z2, z3, z4⟩ := HE.out
                    have hi2 : ∀ i, bv + 1 ≤ i → ¬ i = w.heap.size := fun i hi => by omega
                    have hsz3 : w.heap.size ≤ bv + 1 := by omega
                    have hld : DInts wz (bv + 1) (.slice A8 n c8) := ⟨_, hn, by (try simp only [List.length_append, List.length_set, List.length_cons, List.length_nil]); omega⟩
                    have hln : DInts wz (bv + 1) (.slice A9 k c9) := ⟨_, ho, by (try simp only [List.length_append, List.length_set, List.length_cons, List.length_nil]); omega⟩
                    have ts0 := turn_setCellsD w.heap.size [.slice A n c, .slice B k d] 0 wz
                    exact bodyPost_ret (v := .tuple #[.agg #[.slice A n c, .slice B k d], .slice A8 n c8, .slice A9 k c9]) (by simp [results, Try.results20, go_sem, z0, z1]) rfl ⟨_, _, _, rfl, z2, (hld.turn ts0 (fun i hi => hi2 i hi)).mono hsz3, (hln.turn ts0 (fun i hi => hi2 i hi)).mono hsz3, z3.mono (by omega), z4⟩
                · have q3 : (r == 3) = false := by simp [r3]
                  have s0 := turn_cellD T d0 hbp
                  have s1 := turn_cellD T d1 hbp
                  have td := turn_thereD T tv (by omega)
                  have HE := Lib.hid (fld_ret (hfv.turn T (fun i hi => by omega)) td cu hp (kk.trans T) (Nat.le_refl _))
                  go_wp2_with (first | (refine wpList_store_mid rfl 27 (.tmp 4) (.tmp 75) rfl w.heap.size 0 #[.slice A n c, .slice B k d] rfl rfl td (by kernel_rfl) (by simp [Value.oneCell']) ?_) | fail)
                  obtain ⟨z0, z1, z2, z3, z4⟩ := HE.out
                  have hi2 : ∀ i, bv + 1 ≤ i → ¬ i = w.heap.size := fun i hi => by omega
                  have hsz3 : w.heap.size ≤ bv + 1 := by omega
                  have hld : DInts wz (bv + 1) (.slice A8 n c8) := ⟨_, hn, by (try simp only [List.length_append, List.length_set, List.length_cons, List.length_nil]); omega⟩
                  have hln : DInts wz (bv + 1) (.slice A9 k c9) := ⟨_, ho, by (try simp only [List.length_append, List.length_set, List.length_cons, List.length_nil]); omega⟩
                  have ts0 := turn_setCellsD w.heap.size [.slice A n c, .slice B k d] 0 wz
                  exact bodyPost_ret (v := .tuple #[.agg #[.slice A n c, .slice B k d], .slice A8 n c8, .slice A9 k c9]) (by simp [results, Try.results20, go_sem, z0, z1]) rfl ⟨_, _, _, rfl, z2, (hld.turn ts0 (fun i hi => hi2 i hi)).mono hsz3, (hln.turn ts0 (fun i hi => hi2 i hi)).mono hsz3, z3.mono (by omega), z4⟩
end Go.Proofs.Ytcnceocgdghciaa
