/- The drawing of arguments for the law on firms: clients taken, the play. No condition. -/
import Derived.Test.YtblebedejddefaaGreatQAw
namespace Go.Proofs.YtblebedejddefaaGreat
open Go.RowKit Go.Sort

set_option maxRecDepth 100000 in
set_option maxHeartbeats 2000000 in
theorem drawClientsTaken_any (A : Option Addr) (n c : Nat) (w : World) (hb : BytesAt w A n) :
    Calls Tryz.prog 17 #[.slice A n c] w (CtPost w) := by
  have t0 := there_newD w [.slice none 0 0, .slice none 0 0] 27
  simp only [List.length_cons, List.length_nil, Nat.zero_add, Nat.reduceAdd] at t0
  have k1 : Kp w (w.alloc (.cells #[.slice none 0 0, .slice none 0 0] 27)) := (Kp.refl w).alloc _
  have k2 : Kp _ ((w.alloc (.cells #[.slice none 0 0, .slice none 0 0] 27)).alloc (.cells #[.slice A n c, .int .i64 0, .int .u64 0] 56)) := (Kp.refl _).alloc _
  have cu := cur_new (c := c) (t := 56) (hb.kp k1)
  have ta := turn_thereD (Turn.of_kp (S := fun _ => False) k2) t0 (fun h => h)
  have hz : Hid (((w.alloc (.cells #[.slice none 0 0, .slice none 0 0] 27)).alloc (.cells #[.slice A n c, .int .i64 0, .int .u64 0] 56)).heap.size = w.heap.size + 2) := by show _ = _; simp
  have k0 := k1.trans k2
  rw [World.size_alloc] at cu
  have CF := Lib.hid (field_any (w.heap.size + 1) 0 _ cu (by omega))
  clear k1 k2 t0
  go_enter Tryz.func17, Tryz.ntmps17
  go_wp2_with fail
  generalize (w.alloc (.cells #[.slice none 0 0, .slice none 0 0] 27)).alloc (.cells #[.slice A n c, .int .i64 0, .int .u64 0] 56) = wa at *
  with_reducible refine Calls.mono CF.out ?_
  rintro e w1 ⟨v, rfl, hv, c1, u1⟩
  clear CF
  rw [hz.out] at hv
  obtain ⟨A9, n9, c9, B9, k9, d9, rfl, hn9⟩ := hv.shape
  have kv : Kp w1 (w1.alloc (.cells #[.slice A9 n9 c9, .slice B9 k9 d9] 27)) := (Kp.refl w1).alloc _
  obtain ⟨d0, d1⟩ := box2 w1 (.slice A9 n9 c9) (.slice B9 k9 d9) 27
  have hvb : w.heap.size + 2 ≤ w1.heap.size := by have := u1.size; rw [hz.out] at this; exact this
  have tv := turn_thereD (Turn.of_kp (S := fun _ => False) kv) (turn_thereD u1 ta (by omega)) (fun h => h)
  have kk : Kp w (w1.alloc (.cells #[.slice A9 n9 c9, .slice B9 k9 d9] 27)) := (k0.turn u1 (fun i hi => by omega)).trans kv
  have hfv := hv.kp kv
  have cv := c1.kp kv
  have HWB : Hid ((w1.alloc (.cells #[.slice A9 n9 c9, .slice B9 k9 d9] 27)).heap.size = w1.heap.size + 1) := by show _ = _; simp
  clear hv c1 u1 ta k0 cu hz
  go_wp2_with fail
  generalize w1.alloc (.cells #[.slice A9 n9 c9, .slice B9 k9 d9] 27) = wr at *
  generalize w1.heap.size = bv at *
  have hbv : bv ≠ w.heap.size + 1 := by omega
  have hqs : w.heap.size + 2 ≤ wr.heap.size := by have := HWB.out; omega
  have hpi : ∀ i, w.heap.size + 2 ≤ i → ¬ i = w.heap.size + 1 := fun i hi => by omega
  have CS := Lib.hid (sites_any (w.heap.size + 1) _ A9 n9 c9 B9 k9 d9 wr cv (by omega) hn9)
  with_reducible refine Calls.mono CS.out ?_
  rintro e wa ⟨l, rfl, hl, cA, uA⟩
  clear CS
  have hn100 : n9 ≤ 100 := by
    obtain ⟨F, A', c', B', d', e', h1, _⟩ := hfv
    injection e' with e'
    simp only [Array.mk.injEq, List.cons.injEq, Value.slice.injEq] at e'
    have := h1.2.2
    omega
  have e0 := turn_cellD uA d0 hbv
  have e1 := turn_cellD uA d1 hbv
  have ta2 := turn_thereD uA tv (by omega)
  have ka := kk.turn uA (fun i hi => by omega)
  have hfa := hfv.turn uA hpi
  have hz := hl.diz.mono hqs
  have hqa : w.heap.size + 2 ≤ wa.heap.size := Nat.le_trans hqs uA.size
  clear hl d0 d1 tv kk hfv cv uA
  obtain ⟨Al, nl, cl, rfl⟩ := hz.cut
  have ho0 := own_new0 wa wa.heap.size (Nat.le_refl _)
  have hka : Kp wa (wa.alloc (.cells #[] 3)) := (Kp.refl wa).alloc _
  have T0 : Tp (w.heap.size + 1) wa (wa.alloc (.cells #[] 3)) := Turn.of_kp hka
  have c0 := cA.kp hka
  clear cA hka
  go_wp2_with fail
  obtain ⟨B0, hB0⟩ : ∃ B0, wa.heap.size = B0 := ⟨_, rfl⟩
  rw [hB0] at ho0 hqa ⊢
  go_loopw [8, 9] (fun ox iv wc => ∃ (j : Nat) (xs : List Int), iv = .int .i64 j ∧ j ≤ n9 ∧ xs.length ≤ j ∧ Own wc B0 ox xs ∧ Tp (w.heap.size + 1) wa wc ∧ Cur wc (w.heap.size + 1) (6000 + 4 * j)) (fun _ iv _ => n9 - (intOf iv).toNat)
  case atStart => exact ⟨0, [], rfl, by omega, by simp, ho0, T0, c0.mono (by omega)⟩
  case round =>
    clear ho0 T0 c0
    obtain ⟨j, xs, rfl, hj, hx, ho, T, cu⟩ := hrel
    have s0 := turn_cellD T e0 hbv
    have s1 := turn_cellD T e1 hbv
    by_cases hlt : j < n9
    · have hltI : (j : Int) < (n9 : Int) := by omega
      have CP := Lib.hid (one_any (w.heap.size + 1) _ 2 wr cu (by omega) (by omega))
      go_wp2_with fail
      with_reducible refine Calls.mono CP.out ?_
      rintro e w5 ⟨b5, rfl, c5, u5⟩
      clear CP
      have ho5 := own_low ho u5 (fun i hi => by omega)
      have T5 := T.trans u5
      cases b5
      · go_wp2_with fail
        go_roundw
        case rel => exact ⟨j + 1, xs, by go_num, by omega, by omega, ho5, T5, Cur.mono c5 (by omega)⟩
        case measure => simp [intOf]; omega
      · obtain ⟨Ax, cx, ys, ex, hy, _, _⟩ := hz.turn T5 (fun i hi => by omega)
        injection ex with ex1 ex2 ex3
        subst ex1
        have CH := Lib.hid (l1Has_any Al ys nl cl (j : Int) w5 hy ex2.symm)
        obtain ⟨hs, Hhs⟩ : ∃ b, Hid ((ys.any fun x => x == (j : Int)) = b) := ⟨_, Lib.hid rfl⟩
        rw [Hhs.out] at CH
        clear ex2 ex3 Hhs
        go_wp2_with fail
        with_reducible refine Calls.mono CH.out ?_
        rintro e w6' ⟨rfl, rfl⟩
        clear CH
        cases hs
        · have hb5 : B0 ≤ (w5).heap.size := by have h1 := (T5).size; omega
          have hys2 : xs.length < 1048576 := by omega
          go_wp2_with (first | (at_builtin; go_loud (refine wpl_app rfl (.tmp 38) (.tmp 40) rfl B0 _ xs (j : Int) rfl rfl ho5 hb5 hys2 ?_); intro v6 w6 ho6 ht6 h46; have T6 := tp_own T5 ht6 (fun i e => by have h1 := ((ho5).lt i e).1; omega); have c6 := Cur.turn c5 ht6 (fun i hi e => by have h1 := ((ho5).lt i e).1; omega)) | fail)
          go_roundw
          case rel => exact ⟨j + 1, xs ++ [(j : Int)], by go_num, by omega, by rw [List.length_append]; simp; omega, ho6, T6, c6.mono (by omega)⟩
          case measure => simp [intOf]; omega
        · have CP := Lib.hid (one_any (w.heap.size + 1) _ 16 w5 c5 (by omega) (by omega))
          go_wp2_with fail
          with_reducible refine Calls.mono CP.out ?_
          rintro e w7 ⟨b7, rfl, c7, u7⟩
          clear CP
          have ho7 := own_low ho5 u7 (fun i hi => by omega)
          have T7 := T5.trans u7
          cases b7
          · go_wp2_with fail
            go_roundw
            case rel => exact ⟨j + 1, xs, by go_num, by omega, by omega, ho7, T7, Cur.mono c7 (by omega)⟩
            case measure => simp [intOf]; omega
          · have hb5 : B0 ≤ (w7).heap.size := by have h1 := (T7).size; omega
            have hys2 : xs.length < 1048576 := by omega
            go_wp2_with (first | (at_builtin; go_loud (refine wpl_app rfl (.tmp 38) (.tmp 40) rfl B0 _ xs (j : Int) rfl rfl ho7 hb5 hys2 ?_); intro v6 w6 ho6 ht6 h46; have T6 := tp_own T7 ht6 (fun i e => by have h1 := ((ho7).lt i e).1; omega); have c6 := Cur.turn c7 ht6 (fun i hi e => by have h1 := ((ho7).lt i e).1; omega)) | fail)
            go_roundw
            case rel => exact ⟨j + 1, xs ++ [(j : Int)], by go_num, by omega, by rw [List.length_append]; simp; omega, ho6, T6, c6.mono (by omega)⟩
            case measure => simp [intOf]; omega
    · obtain rfl : j = n9 := by omega
      obtain ⟨Ao, co, hov⟩ := ho.shape
      subst hov
      have hzo := (ho.diz (by omega)).mono hqa
      have hzl := hz.turn T (fun i hi => by omega)
      have hfd := hfa.turn T hpi
      have td := turn_thereD T ta2 (by omega)
      have kd : Kp w wr := ka.turn T (fun i hi => by omega)
      have HE := Lib.hid (drw_ret hfd (by omega) td kd (Nat.le_refl _))
      go_wp2_with (first | (refine wpList_store_mid rfl 27 (.tmp 2) (.tmp 42) rfl w.heap.size 0 #[.slice A9 j c9, .slice B9 k9 d9] rfl rfl td (by kernel_rfl) (by simp [Value.oneCell']) ?_) | fail)
      obtain ⟨z0, z1, z2, z3, z4⟩ := HE.out
      exact bodyPost_ret (v := .tuple #[.agg #[.slice A9 j c9, .slice B9 k9 d9], .slice Al nl cl, .slice Ao xs.length co]) (by simp [results, Tryz.results17, go_sem, z0, z1]) rfl ⟨_, _, _, rfl, z2, (hzl.turn z4 (fun i hi => by omega)).mono (by omega), (hzo.turn z4 (fun i hi => by omega)).mono (by omega), z3⟩
end Go.Proofs.YtblebedejddefaaGreat
