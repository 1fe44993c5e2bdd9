/- The drawing of shares for clients. No condition. -/
import Derived.Test.YtffpdebjjcbenaaGreatQAj
import Derived.Test.YtffpdebjjcbenaaGreatQAs
import Derived.Test.YtffpdebjjcbenaaGreatQAr
import Derived.Test.YtffpdebjjcbenaaGreatQAh
namespace Go.Proofs.YtffpdebjjcbenaaGreat
open Go.RowKit Go.Sort

theorem DFld.fldat {w : World} {b : Nat} {v : Value} (h : DFld w b v) : ∃ F, FldAt w v F := by
  obtain ⟨F, hf⟩ := h
  exact ⟨F, hf.fld⟩
theorem msL_few (F : Fld) (O : List Int) : (msL F O).length ≤ 7 := by
  cases h : msOk F O
  · rw [msL_no h]; simp
  · rw [msL_yes h, mapTo_len]
    unfold msOk at h
    rw [Bool.and_eq_true] at h
    exact (goodF_iff.1 h.1).2.2.1
set_option maxRecDepth 100000 in
set_option maxHeartbeats 2000000 in
theorem shares_any (p m b : Nat) (f : Value) (w : World) (hc : Cur w p m) (hm : m < 90000000) (hb : p < b) (hf : DFld w b f) :
    Calls Tryz.prog 19 #[.pointer (some ⟨p, 0, none⟩), f] w fun e w' => ∃ v, e = .returned v ∧ DInts w' w.heap.size v ∧ Cur w' p (m + 100) ∧ Tp p w w' := by
  have hpw := hc.lt
  obtain ⟨A, N, c, B, J, d, rfl, hN, hJ⟩ := hf.shape3
  have k1 : Kp w (w.alloc (.cells #[.slice A N c, .slice B J d] 27)) := (Kp.refl w).alloc _
  obtain ⟨d0, d1⟩ := box2 w (.slice A N c) (.slice B J d) 27
  have hv := hf.kp k1
  have cb := hc.kp k1
  have Tb : Tp p w (w.alloc (.cells #[.slice A N c, .slice B J d] 27)) := Turn.of_kp k1
  have hsz : Hid ((w.alloc (.cells #[.slice A N c, .slice B J d] 27)).heap.size = w.heap.size + 1) := by show _ = _; simp
  clear hf hc
  obtain ⟨F, hF⟩ := hv.fldat
  have CG := Lib.hid (l2Good_any _ F _ hF)
  go_enter Tryz.func19, Tryz.ntmps19
  go_wp2_with fail
  generalize w.alloc (.cells #[.slice A N c, .slice B J d] 27) = wb at *
  with_reducible refine Calls.mono CG.out ?_
  rintro e w1 ⟨rfl, hk1⟩
  clear CG
  have hpb : w.heap.size ≠ p := by omega
  cases hg : goodF F
  · have hk2 : Kp w1 (w1.alloc (.cells #[.int .i64 0] 3)) := (Kp.refl w1).alloc _
    have hw1 : w.heap.size ≤ w1.heap.size := by have h1 := hk1.le; have h2 := hsz.out; omega
    have hone := own_oneD w1 w.heap.size 0 hw1
    go_wp2_with fail
    go_ret
    exact ⟨_, rfl, ⟨_, hone, by simp⟩, ((cb.kp hk1).kp hk2).mono (by omega), Tb.trans (Turn.of_kp (hk1.trans hk2))⟩
  · have q0 := hk1.get d0
    have q1 := hk1.get d1
    have CA := Lib.hid (l3Ascent_any _ F w1 (hF.kp hk1) hg)
    go_wp2_with fail
    with_reducible refine Calls.mono CA.out ?_
    rintro e w2 ⟨v5, P, rfl, ho, hA, hk2⟩
    clear CA q0 q1
    have hP7 : P.length ≤ 7 := by have h1 := hA.len; have h2 := (goodF_iff.1 hg).2.2.1; omega
    have hw1 : w.heap.size ≤ w1.heap.size := by have h1 := hk1.le; have h2 := hsz.out; omega
    have ho2 := ho.mono hw1
    have c2 := (cb.kp hk1).kp hk2
    have T2 := Tb.trans (Turn.of_kp (S := fun i => i = p) (hk1.trans hk2))
    have e0 := (hk1.trans hk2).get d0
    have e1 := (hk1.trans hk2).get d1
    have hv2 := (hv.kp hk1).kp hk2
    clear ho hA hk2 hk1 d0 d1 hv hF hg cb Tb
    have CP := Lib.hid (one_any p _ 3 w2 c2 (by omega) (by omega))
    go_wp2_with fail
    with_reducible refine Calls.mono CP.out ?_
    rintro e w3 ⟨b3, rfl, c3, u3⟩
    clear CP
    have ho3 := own_low ho2 u3 (fun i hi => by omega)
    have T3 := T2.trans u3
    have f0 := turn_cellD u3 e0 hpb
    have f1 := turn_cellD u3 e1 hpb
    have hv3 := hv2.turn u3 (fun i hi => by omega)
    clear ho2 T2 e0 e1 hv2 u3 c2
    cases b3
    · obtain ⟨xs, hxs⟩ : ∃ xs, xs = P := ⟨_, rfl⟩
      subst hxs
      obtain ⟨A5, c5, e5⟩ := Own.shape ho3
      obtain ⟨L, hL⟩ : ∃ L, xs.length = L := ⟨_, rfl⟩
      rw [hL] at e5
      subst e5
      have CP := Lib.hid (pick_any p _ 8 w3 c3 (by omega) (by omega))
      go_wp2_with fail
      with_reducible refine Calls.mono CP.out ?_
      rintro e wp ⟨r, rfl, hr, cp, up⟩
      clear CP
      have hop := own_low ho3 up (fun i hi => by omega)
      have Tq := T3.trans up
      by_cases r0 : r = 0
      · subst r0
        by_cases hl0 : 0 < L
        · have hlI : (0 : Int) < (L : Int) := by omega
          have CP := Lib.hid (pick_any p _ L wp cp (by omega) (by omega))
          go_wp2_with fail
          with_reducible refine Calls.mono CP.out ?_
          rintro e wk ⟨k, rfl, hk, ck, uk⟩
          clear CP
          obtain ⟨κ, rfl⟩ := Int.eq_ofNat_of_zero_le hk.1
          have hκ : κ < L := by have := hk.2.2 (by omega); omega
          have hok := own_low hop uk (fun i hi => by omega)
          have Tk := Tq.trans uk
          obtain ⟨g, cp5, e6⟩ := hok.at0 hL hl0
          injection e6 with h1 h2 h3
          subst h1 h3
          clear h2
          obtain ⟨y1, y2, y3⟩ := (hok.kp (Kp.refl wk).drew).slotL hL hκ
          obtain ⟨tk, htk⟩ : ∃ z, lget xs κ = z := ⟨_, rfl⟩
          rw [htk] at y1
          have hκI : (κ : Int) < (L : Int) := by omega
          have n1 : ((κ : Int)).toNat = κ := Int.toNat_natCast κ
          have a1 : (⟨g, 0, none⟩ : Addr).add κ = ⟨g, κ, none⟩ := add0 _ _
          have hgb := (hok.lt g rfl).1
          have CP := Lib.hid (pick_any p _ 7 wk.drew (ck.kp (Kp.refl wk).drew) (by omega) (by omega))
          go_wp2_with fail
          refine wp_region_last2 (S := fun w' => w'.cell? ⟨g, κ, none⟩ = some (.int .i64 tk)) (split_cons (split_cons (split_cons (split_cons (split_cons (split_cons (split_cons (split_cons (split_cons (split_cons (split_cons split_one))))))))))) (by kernel_rfl) (by kernel_rfl) ?_
          have hHeld : (fun w' => w'.cell? ⟨g, κ, none⟩ = some (.int .i64 tk)) wk.drew := y1
          refine wpAnyH_take (i := 0) (v := ?_) rfl (by kernel_rfl) (by kernel_rfl) (by kernel_rfl) (fun _ _ _ h => h) (Or.inl ⟨by rfl, ?_⟩) (by assumption) ?_
          rotate_left
          · intro w hSw; (try dsimp only at hSw); go_simp <;> with_reducible rfl
          (try simp only [Act.put, List.setIfInBounds_toArray, List.set_cons_zero, List.set_cons_succ])
          refine wpAnyH_take (i := 1) (v := ?_) rfl (by kernel_rfl) (by kernel_rfl) (by kernel_rfl) (fun _ _ _ h => h) (Or.inl ⟨by rfl, ?_⟩) (by assumption) ?_
          rotate_left
          · intro w hSw; (try dsimp only at hSw); go_simp <;> with_reducible rfl
          (try simp only [Act.put, List.setIfInBounds_toArray, List.set_cons_zero, List.set_cons_succ])
          refine wpAnyH_take (i := 2) (v := ?_) rfl (by kernel_rfl) (by kernel_rfl) (by kernel_rfl) (fun _ _ _ h => h) (Or.inl ⟨by rfl, ?_⟩) (by assumption) ?_
          rotate_left
          · intro w hSw; (try dsimp only at hSw); go_simp <;> with_reducible rfl
          (try simp only [Act.put, List.setIfInBounds_toArray, List.set_cons_zero, List.set_cons_succ])
          refine wpAnyH_take (i := 3) (v := ?_) rfl (by kernel_rfl) (by kernel_rfl) (by kernel_rfl) (fun _ _ _ h => h) (Or.inl ⟨by rfl, ?_⟩) (by assumption) ?_
          rotate_left
          · intro w hSw; (try dsimp only at hSw); go_simp <;> with_reducible rfl
          (try simp only [Act.put, List.setIfInBounds_toArray, List.set_cons_zero, List.set_cons_succ])
          refine wpAnyH_take (i := 4) (v := ?_) rfl (by kernel_rfl) (by kernel_rfl) (by kernel_rfl) (fun _ _ _ h => h) (Or.inl ⟨by rfl, ?_⟩) (by assumption) ?_
          rotate_left
          · intro w hSw; (try dsimp only at hSw); go_simp <;> with_reducible rfl
          (try simp only [Act.put, List.setIfInBounds_toArray, List.set_cons_zero, List.set_cons_succ])
          refine wpAnyH_take (i := 5) (v := ?_) rfl (by kernel_rfl) (by kernel_rfl) (by kernel_rfl) (fun _ _ _ h => h) (Or.inl ⟨by rfl, ?_⟩) (by assumption) ?_
          rotate_left
          · intro w hSw; (try dsimp only at hSw); go_simp <;> with_reducible rfl
          (try simp only [Act.put, List.setIfInBounds_toArray, List.set_cons_zero, List.set_cons_succ])
          refine wpAnyH_take (i := 6) (v := ?_) rfl (by kernel_rfl) (by kernel_rfl) (by kernel_rfl) (fun _ _ _ h => h) (Or.inl ⟨by rfl, ?_⟩) (by assumption) ?_
          rotate_left
          · intro w hSw; (try dsimp only at hSw); go_simp <;> with_reducible rfl
          (try simp only [Act.put, List.setIfInBounds_toArray, List.set_cons_zero, List.set_cons_succ])
          refine wpAnyH_ready (rs := [7]) (by kernel_rfl) (by simp) ?_
          refine AllReadyH.cons rfl (fun K hK => ?_) AllReadyH.nil
          go_simp
          with_reducible refine Calls.mono CP.out ?_
          rintro e wm ⟨z, rfl, hz, cm, um⟩
          (try go_wp2_with fail)
          have y5 := turn_cellD um y1 (by show g ≠ p; omega)
          refine hK.out _ _ ?_ (fun hHeld => ?_)
          · (try dsimp only); exact y5
          clear hK K
          (try simp only [Act.put, List.setIfInBounds_toArray, List.set_cons_zero, List.set_cons_succ])
          refine wpAnyH_take (i := 8) (v := ?_) rfl (by kernel_rfl) (by kernel_rfl) (by kernel_rfl) (fun _ _ _ h => h) (Or.inl ⟨by rfl, ?_⟩) (by assumption) ?_
          rotate_left
          · intro w hSw; (try dsimp only at hSw); go_simp <;> with_reducible rfl
          (try simp only [Act.put, List.setIfInBounds_toArray, List.set_cons_zero, List.set_cons_succ])
          refine wpAnyH_take (i := 9) (v := ?_) rfl (by kernel_rfl) (by kernel_rfl) (by kernel_rfl) (fun _ _ _ h => h) (Or.inl ⟨by rfl, ?_⟩) (by assumption) ?_
          rotate_left
          · intro w hSw; (try dsimp only at hSw); go_simp <;> with_reducible rfl
          (try simp only [Act.put, List.setIfInBounds_toArray, List.set_cons_zero, List.set_cons_succ])
          refine wpAnyH_take (i := 10) (v := ?_) rfl (by kernel_rfl) (by kernel_rfl) (by kernel_rfl) (fun _ _ _ h => h) (Or.inl ⟨by rfl, ?_⟩) (by assumption) ?_
          rotate_left
          · intro w hSw; (try dsimp only at hSw); go_simp <;> with_reducible rfl
          (try simp only [Act.put, List.setIfInBounds_toArray, List.set_cons_zero, List.set_cons_succ])
          have hom := own_low (hok.kp (Kp.refl wk).drew) um (fun i hi => by omega)
          obtain ⟨x1, x2, x3⟩ := hom.slotL hL hκ
          obtain ⟨o3, t3⟩ := x3 (IntKind.i64.wrap (IntKind.i64.wrap (tk + z) - 3))
          have Tm := tp_own ((Tk.trans (Turn.of_kp (Kp.refl wk).drew)).trans um) t3 (fun i e => by rw [e]; exact hgb)
          have c3 := cm.turn t3 (fun i hi e => by omega)
          refine wpAnyH_done (by kernel_rfl) ?_ _
          change Oper.wp _ _ _ _ _ _
          go_simp
          clear x3
          go_wp2_with fail
          go_ret
          exact ⟨_, rfl, ⟨_, o3, by (try simp only [List.length_set]); omega⟩, c3.mono (by omega), Tm⟩
        · have hlI : ¬ (0 : Int) < (L : Int) := by omega
          go_wp2_with fail
          go_ret
          exact ⟨_, rfl, ⟨_, hop, by (try simp only [List.length_set]); omega⟩, cp.mono (by omega), Tq⟩
      · have q0 : (r == 0) = false := by simp [r0]
        by_cases r1 : r = 1
        · subst r1
          by_cases hl1 : 1 < L
          · have hlI : (1 : Int) < (L : Int) := by omega
            have hl0I : (0 : Int) < (L : Int) := by omega
            obtain ⟨g, cp5, e6⟩ := hop.at0 hL (by omega)
            injection e6 with h1 h2 h3
            subst h1 h3
            clear h2
            have hgb := (hop.lt g rfl).1
            obtain ⟨y1, y2, y3⟩ := hop.slotL hL (show 0 < L by omega)
            obtain ⟨o3, t3⟩ := y3 (wrap64 (lget xs 0 - 2))
            have hL2 : (xs.set 0 (wrap64 (lget xs 0 - 2))).length = L := by rw [List.length_set]; exact hL
            obtain ⟨z1, z2, z3⟩ := o3.slotL hL2 hl1
            obtain ⟨o4, t4⟩ := z3 (wrap64 (lget (xs.set 0 (wrap64 (lget xs 0 - 2))) 1 + 2))
            have Tm := tp_own (tp_own Tq t3 (fun i e => by rw [e]; exact hgb)) t4 (fun i e => by rw [e]; exact hgb)
            have c4 := (cp.turn t3 (fun i hi e => by omega)).turn t4 (fun i hi e => by omega)
            clear y3 z3
            go_wp2_with fail
            go_ret
            exact ⟨_, rfl, ⟨_, o4, by (try simp only [List.length_set]); omega⟩, c4.mono (by omega), Tm⟩
          · have hlI : ¬ (1 : Int) < (L : Int) := by omega
            go_wp2_with fail
            go_ret
            exact ⟨_, rfl, ⟨_, hop, by (try simp only [List.length_set]); omega⟩, cp.mono (by omega), Tq⟩
        · have q1 : (r == 1) = false := by simp [r1]
          by_cases r2 : r = 2
          · subst r2
            by_cases hl0 : 0 < L
            · have hlI : (0 : Int) < (L : Int) := by omega
              have CP := Lib.hid (one_any p _ 3 wp cp (by omega) (by omega))
              go_wp2_with fail
              with_reducible refine Calls.mono CP.out ?_
              rintro e wk ⟨b1, rfl, ck, uk⟩
              clear CP
              have hok := own_low hop uk (fun i hi => by omega)
              have Tk := Tq.trans uk
              cases b1
              · go_wp2_with fail
                go_ret
                exact ⟨_, rfl, ⟨_, hok, by (try simp only [List.length_set]); omega⟩, ck.mono (by omega), Tk⟩
              · obtain ⟨g, cp5, e6⟩ := hok.at0 hL hl0
                injection e6 with h1 h2 h3
                subst h1 h3
                clear h2
                have hgb := (hok.lt g rfl).1
                have CC := amongLit_any p _ [-1400, 1401, -1401] wk ck (by omega) (by simp) (by simp)
                simp only [List.map_cons, List.map_nil, List.length_cons, List.length_nil, Nat.zero_add, Nat.reduceAdd] at CC
                replace CC := Lib.hid CC
                go_wp2_with fail
                with_reducible refine Calls.mono CC.out ?_
                rintro e wm ⟨z, rfl, _, cm, um⟩
                clear CC
                have hom := own_low hok um (fun i hi => by omega)
                obtain ⟨y1, y2, y3⟩ := hom.slotL hL hl0
                obtain ⟨o3, t3⟩ := y3 z
                have Tm := tp_own (Tk.trans um) t3 (fun i e => by rw [e]; exact hgb)
                have c4 := cm.turn t3 (fun i hi e => by omega)
                clear y3
                go_wp2_with fail
                go_ret
                exact ⟨_, rfl, ⟨_, o3, by (try simp only [List.length_set]); omega⟩, c4.mono (by omega), Tm⟩
            · have hlI : ¬ (0 : Int) < (L : Int) := by omega
              go_wp2_with fail
              go_ret
              exact ⟨_, rfl, ⟨_, hop, by (try simp only [List.length_set]); omega⟩, cp.mono (by omega), Tq⟩
          · have q2 : (r == 2) = false := by simp [r2]
            go_wp2_with fail
            go_ret
            exact ⟨_, rfl, ⟨_, hop, by (try simp only [List.length_set]); omega⟩, cp.mono (by omega), Tq⟩
    · have hk4 : Kp w3 (w3.alloc (.cells #[] 3)) := (Kp.refl w3).alloc _
      have ho4 := own_new0 w3 w3.heap.size (Nat.le_refl _)
      have ho5 : Own (w3.alloc (.cells #[] 3)) w3.heap.size (.slice (some ⟨w3.heap.size, 0, none⟩) 0 0) (mapTo (fun i : Nat => (i : Int)) 0) := ho4
      have hw3 : w.heap.size ≤ w3.heap.size := T3.size
      clear ho3 ho4
      go_wp2_with fail
      go_loopw [6, 7] (fun ov iv wr => ∃ j : Nat, j ≤ J ∧ iv = .int .i64 j ∧ Own wr w3.heap.size ov (mapTo (fun i : Nat => (i : Int)) j) ∧ Kp w3 wr) (fun _ iv _ => J - (intOf iv).toNat)
      case atStart => exact ⟨0, by omega, rfl, ho5, hk4⟩
      case round =>
        clear ho5 hk4
        obtain ⟨j, hj, rfl, hown, hkb⟩ := hrel
        obtain ⟨A9, c9, e9⟩ := hown.shape
        rw [mapTo_len] at e9
        subst e9
        have q0 := hkb.get f0
        have q1 := hkb.get f1
        by_cases hlt : j < J
        · have hnx : Hid (mapTo (fun i : Nat => (i : Int)) (j + 1) = mapTo (fun i : Nat => (i : Int)) j ++ [(j : Int)]) := mapTo_succ _ _
          have hl9 : (mapTo (fun i : Nat => (i : Int)) j).length ≤ 1000 := by rw [mapTo_len]; omega
          go_wp2_with (at_builtin; go_loud (refine wpl_app rfl (.tmp 25) (.tmp 27) rfl (w3.heap.size) _ (mapTo (fun i : Nat => (i : Int)) j) ((j : Int)) rfl rfl hown hkb.le (by omega) ?_; intro v' w' ho' ht' h4'; have hkb' := hown.kp_turn hkb (Nat.le_refl _) ht'))
          go_roundw
          case rel => exact ⟨j + 1, by omega, by go_num, by rw [hnx.out]; exact ho', hkb'⟩
          case measure => simp [intOf]; omega
        · obtain rfl : j = J := by omega
          have hI := hown.intsOf (by rw [mapTo_len]; omega)
          obtain ⟨F2, hF2⟩ := (hv3.kp hkb).fldat
          have CM := Lib.hid (specMs_any _ F2 A9 (mapTo (fun i : Nat => (i : Int)) j) j c9 wr hF2 hI (mapTo_len _ _))
          go_wp2_with fail
          with_reducible refine Calls.mono CM.out ?_
          rintro e w4 ⟨v6, rfl, ho6, hk6⟩
          clear CM q0 q1 hI hown
          obtain ⟨xs, hxs⟩ : ∃ xs, msL F2 (mapTo (fun i : Nat => (i : Int)) j) = xs := ⟨_, rfl⟩
          have hP7 : xs.length ≤ 7 := by rw [← hxs]; exact msL_few _ _
          rw [hxs] at ho6
          have ho7 := ho6.mono (show w.heap.size ≤ wr.heap.size by have := hkb.le; omega)
          have c4 := (c3.kp hkb).kp hk6
          have T4 := T3.trans (Turn.of_kp (S := fun i => i = p) (hkb.trans hk6))
          clear hxs ho6 c3 T3 hkb hk6 hF2 hv3
          obtain ⟨A5, c5, e5⟩ := Own.shape ho7
          obtain ⟨L, hL⟩ : ∃ L, xs.length = L := ⟨_, rfl⟩
          rw [hL] at e5
          subst e5
          have CP := Lib.hid (pick_any p _ 8 w4 c4 (by omega) (by omega))
          go_wp2_with fail
          with_reducible refine Calls.mono CP.out ?_
          rintro e wp ⟨r, rfl, hr, cp, up⟩
          clear CP
          have hop := own_low ho7 up (fun i hi => by omega)
          have Tq := T4.trans up
          by_cases r0 : r = 0
          · subst r0
            by_cases hl0 : 0 < L
            · have hlI : (0 : Int) < (L : Int) := by omega
              have CP := Lib.hid (pick_any p _ L wp cp (by omega) (by omega))
              go_wp2_with fail
              with_reducible refine Calls.mono CP.out ?_
              rintro e wk ⟨k, rfl, hk, ck, uk⟩
              clear CP
              obtain ⟨κ, rfl⟩ := Int.eq_ofNat_of_zero_le hk.1
              have hκ : κ < L := by have := hk.2.2 (by omega); omega
              have hok := own_low hop uk (fun i hi => by omega)
              have Tk := Tq.trans uk
              obtain ⟨g, cp5, e6⟩ := hok.at0 hL hl0
              injection e6 with h1 h2 h3
              subst h1 h3
              clear h2
              obtain ⟨y1, y2, y3⟩ := (hok.kp (Kp.refl wk).drew).slotL hL hκ
              obtain ⟨tk, htk⟩ : ∃ z, lget xs κ = z := ⟨_, rfl⟩
              rw [htk] at y1
              have hκI : (κ : Int) < (L : Int) := by omega
              have n1 : ((κ : Int)).toNat = κ := Int.toNat_natCast κ
              have a1 : (⟨g, 0, none⟩ : Addr).add κ = ⟨g, κ, none⟩ := add0 _ _
              have hgb := (hok.lt g rfl).1
              have CP := Lib.hid (pick_any p _ 7 wk.drew (ck.kp (Kp.refl wk).drew) (by omega) (by omega))
              go_wp2_with fail
              refine wp_region_last2 (S := fun w' => w'.cell? ⟨g, κ, none⟩ = some (.int .i64 tk)) (split_cons (split_cons (split_cons (split_cons (split_cons (split_cons (split_cons (split_cons (split_cons (split_cons (split_cons split_one))))))))))) (by kernel_rfl) (by kernel_rfl) ?_
              have hHeld : (fun w' => w'.cell? ⟨g, κ, none⟩ = some (.int .i64 tk)) wk.drew := y1
              refine wpAnyH_take (i := 0) (v := ?_) rfl (by kernel_rfl) (by kernel_rfl) (by kernel_rfl) (fun _ _ _ h => h) (Or.inl ⟨by rfl, ?_⟩) (by assumption) ?_
              rotate_left
              · intro w hSw; (try dsimp only at hSw); go_simp <;> with_reducible rfl
              (try simp only [Act.put, List.setIfInBounds_toArray, List.set_cons_zero, List.set_cons_succ])
              refine wpAnyH_take (i := 1) (v := ?_) rfl (by kernel_rfl) (by kernel_rfl) (by kernel_rfl) (fun _ _ _ h => h) (Or.inl ⟨by rfl, ?_⟩) (by assumption) ?_
              rotate_left
              · intro w hSw; (try dsimp only at hSw); go_simp <;> with_reducible rfl
              (try simp only [Act.put, List.setIfInBounds_toArray, List.set_cons_zero, List.set_cons_succ])
              refine wpAnyH_take (i := 2) (v := ?_) rfl (by kernel_rfl) (by kernel_rfl) (by kernel_rfl) (fun _ _ _ h => h) (Or.inl ⟨by rfl, ?_⟩) (by assumption) ?_
              rotate_left
              · intro w hSw; (try dsimp only at hSw); go_simp <;> with_reducible rfl
              (try simp only [Act.put, List.setIfInBounds_toArray, List.set_cons_zero, List.set_cons_succ])
              refine wpAnyH_take (i := 3) (v := ?_) rfl (by kernel_rfl) (by kernel_rfl) (by kernel_rfl) (fun _ _ _ h => h) (Or.inl ⟨by rfl, ?_⟩) (by assumption) ?_
              rotate_left
              · intro w hSw; (try dsimp only at hSw); go_simp <;> with_reducible rfl
              (try simp only [Act.put, List.setIfInBounds_toArray, List.set_cons_zero, List.set_cons_succ])
              refine wpAnyH_take (i := 4) (v := ?_) rfl (by kernel_rfl) (by kernel_rfl) (by kernel_rfl) (fun _ _ _ h => h) (Or.inl ⟨by rfl, ?_⟩) (by assumption) ?_
              rotate_left
              · intro w hSw; (try dsimp only at hSw); go_simp <;> with_reducible rfl
              (try simp only [Act.put, List.setIfInBounds_toArray, List.set_cons_zero, List.set_cons_succ])
              refine wpAnyH_take (i := 5) (v := ?_) rfl (by kernel_rfl) (by kernel_rfl) (by kernel_rfl) (fun _ _ _ h => h) (Or.inl ⟨by rfl, ?_⟩) (by assumption) ?_
              rotate_left
              · intro w hSw; (try dsimp only at hSw); go_simp <;> with_reducible rfl
              (try simp only [Act.put, List.setIfInBounds_toArray, List.set_cons_zero, List.set_cons_succ])
              refine wpAnyH_take (i := 6) (v := ?_) rfl (by kernel_rfl) (by kernel_rfl) (by kernel_rfl) (fun _ _ _ h => h) (Or.inl ⟨by rfl, ?_⟩) (by assumption) ?_
              rotate_left
              · intro w hSw; (try dsimp only at hSw); go_simp <;> with_reducible rfl
              (try simp only [Act.put, List.setIfInBounds_toArray, List.set_cons_zero, List.set_cons_succ])
              refine wpAnyH_ready (rs := [7]) (by kernel_rfl) (by simp) ?_
              refine AllReadyH.cons rfl (fun K hK => ?_) AllReadyH.nil
              go_simp
              with_reducible refine Calls.mono CP.out ?_
              rintro e wm ⟨z, rfl, hz, cm, um⟩
              (try go_wp2_with fail)
              have y5 := turn_cellD um y1 (by show g ≠ p; omega)
              refine hK.out _ _ ?_ (fun hHeld => ?_)
              · (try dsimp only); exact y5
              clear hK K
              (try simp only [Act.put, List.setIfInBounds_toArray, List.set_cons_zero, List.set_cons_succ])
              refine wpAnyH_take (i := 8) (v := ?_) rfl (by kernel_rfl) (by kernel_rfl) (by kernel_rfl) (fun _ _ _ h => h) (Or.inl ⟨by rfl, ?_⟩) (by assumption) ?_
              rotate_left
              · intro w hSw; (try dsimp only at hSw); go_simp <;> with_reducible rfl
              (try simp only [Act.put, List.setIfInBounds_toArray, List.set_cons_zero, List.set_cons_succ])
              refine wpAnyH_take (i := 9) (v := ?_) rfl (by kernel_rfl) (by kernel_rfl) (by kernel_rfl) (fun _ _ _ h => h) (Or.inl ⟨by rfl, ?_⟩) (by assumption) ?_
              rotate_left
              · intro w hSw; (try dsimp only at hSw); go_simp <;> with_reducible rfl
              (try simp only [Act.put, List.setIfInBounds_toArray, List.set_cons_zero, List.set_cons_succ])
              refine wpAnyH_take (i := 10) (v := ?_) rfl (by kernel_rfl) (by kernel_rfl) (by kernel_rfl) (fun _ _ _ h => h) (Or.inl ⟨by rfl, ?_⟩) (by assumption) ?_
              rotate_left
              · intro w hSw; (try dsimp only at hSw); go_simp <;> with_reducible rfl
              (try simp only [Act.put, List.setIfInBounds_toArray, List.set_cons_zero, List.set_cons_succ])
              have hom := own_low (hok.kp (Kp.refl wk).drew) um (fun i hi => by omega)
              obtain ⟨x1, x2, x3⟩ := hom.slotL hL hκ
              obtain ⟨o3, t3⟩ := x3 (IntKind.i64.wrap (IntKind.i64.wrap (tk + z) - 3))
              have Tm := tp_own ((Tk.trans (Turn.of_kp (Kp.refl wk).drew)).trans um) t3 (fun i e => by rw [e]; exact hgb)
              have c3 := cm.turn t3 (fun i hi e => by omega)
              refine wpAnyH_done (by kernel_rfl) ?_ _
              change Oper.wp _ _ _ _ _ _
              go_simp
              clear x3
              go_wp2_with fail
              go_ret
              exact ⟨_, rfl, ⟨_, o3, by (try simp only [List.length_set]); omega⟩, c3.mono (by omega), Tm⟩
            · have hlI : ¬ (0 : Int) < (L : Int) := by omega
              go_wp2_with fail
              go_ret
              exact ⟨_, rfl, ⟨_, hop, by (try simp only [List.length_set]); omega⟩, cp.mono (by omega), Tq⟩
          · have q0 : (r == 0) = false := by simp [r0]
            by_cases r1 : r = 1
            · subst r1
              by_cases hl1 : 1 < L
              · have hlI : (1 : Int) < (L : Int) := by omega
                have hl0I : (0 : Int) < (L : Int) := by omega
                obtain ⟨g, cp5, e6⟩ := hop.at0 hL (by omega)
                injection e6 with h1 h2 h3
                subst h1 h3
                clear h2
                have hgb := (hop.lt g rfl).1
                obtain ⟨y1, y2, y3⟩ := hop.slotL hL (show 0 < L by omega)
                obtain ⟨o3, t3⟩ := y3 (wrap64 (lget xs 0 - 2))
                have hL2 : (xs.set 0 (wrap64 (lget xs 0 - 2))).length = L := by rw [List.length_set]; exact hL
                obtain ⟨z1, z2, z3⟩ := o3.slotL hL2 hl1
                obtain ⟨o4, t4⟩ := z3 (wrap64 (lget (xs.set 0 (wrap64 (lget xs 0 - 2))) 1 + 2))
                have Tm := tp_own (tp_own Tq t3 (fun i e => by rw [e]; exact hgb)) t4 (fun i e => by rw [e]; exact hgb)
                have c4 := (cp.turn t3 (fun i hi e => by omega)).turn t4 (fun i hi e => by omega)
                clear y3 z3
                go_wp2_with fail
                go_ret
                exact ⟨_, rfl, ⟨_, o4, by (try simp only [List.length_set]); omega⟩, c4.mono (by omega), Tm⟩
              · have hlI : ¬ (1 : Int) < (L : Int) := by omega
                go_wp2_with fail
                go_ret
                exact ⟨_, rfl, ⟨_, hop, by (try simp only [List.length_set]); omega⟩, cp.mono (by omega), Tq⟩
            · have q1 : (r == 1) = false := by simp [r1]
              by_cases r2 : r = 2
              · subst r2
                by_cases hl0 : 0 < L
                · have hlI : (0 : Int) < (L : Int) := by omega
                  have CP := Lib.hid (one_any p _ 3 wp cp (by omega) (by omega))
                  go_wp2_with fail
                  with_reducible refine Calls.mono CP.out ?_
                  rintro e wk ⟨b1, rfl, ck, uk⟩
                  clear CP
                  have hok := own_low hop uk (fun i hi => by omega)
                  have Tk := Tq.trans uk
                  cases b1
                  · go_wp2_with fail
                    go_ret
                    exact ⟨_, rfl, ⟨_, hok, by (try simp only [List.length_set]); omega⟩, ck.mono (by omega), Tk⟩
                  · obtain ⟨g, cp5, e6⟩ := hok.at0 hL hl0
                    injection e6 with h1 h2 h3
                    subst h1 h3
                    clear h2
                    have hgb := (hok.lt g rfl).1
                    have CC := amongLit_any p _ [-1400, 1401, -1401] wk ck (by omega) (by simp) (by simp)
                    simp only [List.map_cons, List.map_nil, List.length_cons, List.length_nil, Nat.zero_add, Nat.reduceAdd] at CC
                    replace CC := Lib.hid CC
                    go_wp2_with fail
                    with_reducible refine Calls.mono CC.out ?_
                    rintro e wm ⟨z, rfl, _, cm, um⟩
                    clear CC
                    have hom := own_low hok um (fun i hi => by omega)
                    obtain ⟨y1, y2, y3⟩ := hom.slotL hL hl0
                    obtain ⟨o3, t3⟩ := y3 z
                    have Tm := tp_own (Tk.trans um) t3 (fun i e => by rw [e]; exact hgb)
                    have c4 := cm.turn t3 (fun i hi e => by omega)
                    clear y3
                    go_wp2_with fail
                    go_ret
                    exact ⟨_, rfl, ⟨_, o3, by (try simp only [List.length_set]); omega⟩, c4.mono (by omega), Tm⟩
                · have hlI : ¬ (0 : Int) < (L : Int) := by omega
                  go_wp2_with fail
                  go_ret
                  exact ⟨_, rfl, ⟨_, hop, by (try simp only [List.length_set]); omega⟩, cp.mono (by omega), Tq⟩
              · have q2 : (r == 2) = false := by simp [r2]
                go_wp2_with fail
                go_ret
                exact ⟨_, rfl, ⟨_, hop, by (try simp only [List.length_set]); omega⟩, cp.mono (by omega), Tq⟩
end Go.Proofs.YtffpdebjjcbenaaGreat
