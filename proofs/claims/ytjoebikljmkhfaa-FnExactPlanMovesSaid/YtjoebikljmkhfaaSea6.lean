/- Which seasons are valid: the walks. No condition. -/
import Derived.Test.YtjoebikljmkhfaaSea5
namespace Go.Proofs.Ytjoebikljmkhfaa
open Go.RowKit

theorem goodS_no_round {S : Sea} {k : Nat} (hk : k < S.ro.length) (h : roundB S.op.length S.ro[k] = false) : goodS S = false := by
  have : S.ro.all (roundB S.op.length) = false := by rw [List.all_eq_false]; exact ⟨_, List.getElem_mem hk, by simp [h]⟩
  simp [goodS, this]
theorem roundB_no_row {n : Nat} {cs : List (List Int)} {j : Nat} (hj : j < cs.length) (h : rowB n cs[j] = false) : roundB n cs = false := by
  have : cs.all (rowB n) = false := by rw [List.all_eq_false]; exact ⟨_, List.getElem_mem hj, by simp [h]⟩
  simp [roundB, this]
set_option maxRecDepth 100000 in
set_option maxHeartbeats 1000000 in
theorem l10Good_any (f : Value) (S : Sea) (w : World) (hf : SeaAt w f S) :
    Calls Try.prog 19 #[f] w fun e w' => e = .returned (.bool (goodS S)) ∧ Kp w w' := by
  obtain ⟨A, a, B, b, C, c, D, d, rfl, hA, hB, hC, hD⟩ := hf
  have hk0 : Kp w (w.alloc (.cells #[.slice A S.op.length a, .slice B S.cl.length b, .slice C S.ke.length c, .slice D S.ro.length d] 31)) := (Kp.refl w).alloc _
  obtain ⟨d0, d1, d2, d3⟩ := box4 w (.slice A S.op.length a) (.slice B S.cl.length b) (.slice C S.ke.length c) (.slice D S.ro.length d) 31
  have hSA := SeaAt.kp (show SeaAt w (.agg #[.slice A S.op.length a, .slice B S.cl.length b, .slice C S.ke.length c, .slice D S.ro.length d]) S from ⟨A, a, B, b, C, c, D, d, rfl, hA, hB, hC, hD⟩) hk0
  replace hA := hA.kp hk0
  replace hB := hB.kp hk0
  replace hC := hC.kp hk0
  replace hD := hD.kp hk0
  have hol := hA.1; have hrl := hD.1
  go_enter Try.func19, Try.ntmps19
  go_wp2_with fail
  have hsz : Hid ((w.alloc (.cells #[.slice A S.op.length a, .slice B S.cl.length b, .slice C S.ke.length c, .slice D S.ro.length d] 31)).heap.size = w.heap.size + 1) := by show _ = _; simp
  generalize w.alloc (.cells #[.slice A S.op.length a, .slice B S.cl.length b, .slice C S.ke.length c, .slice D S.ro.length d] 31) = wb at *
  have hkb : Kp wb wb := Kp.refl _
  have hkw := hk0
  clear hkb
  go_loop [4] (fun iv => ∃ k : Nat, k ≤ S.ro.length ∧ iv = .int .i64 k ∧ Hid ((S.ro.take k).all (roundB S.op.length) = true)) (fun iv => S.ro.length - (intOf iv).toNat)
  case atStart => exact ⟨0, by omega, rfl, rfl⟩
  case round =>
    obtain ⟨k, hk, rfl, Hp⟩ := hrel
    by_cases hlt : k < S.ro.length
    · obtain ⟨cd, B2, cb, rfl, hc, hr⟩ := hD.at_ hlt
      have hcl := hr.1
      go_wp2_with fail
      go_loop [5] (fun iv => ∃ j : Nat, j ≤ S.ro[k].length ∧ iv = .int .i64 j ∧ Hid ((S.ro[k].take j).all (rowB S.op.length) = true)) (fun iv => S.ro[k].length - (intOf iv).toNat)
      case atStart => exact ⟨0, by omega, rfl, rfl⟩
      case round =>
        obtain ⟨j, hj, rfl, Hq⟩ := hrel
        by_cases hlj : j < S.ro[k].length
        · obtain ⟨bd, A3, ca, rfl, hc3, hr3⟩ := hr.at_ hlj
          go_wp2_with fail
          have CC := Lib.hid (l2RowH_any A3 S.ro[k][j] _ ca S.op.length 99 wb hr3 rfl)
          with_reducible refine Calls.mono CC.out ?_
          rintro e w1 ⟨rfl, hw⟩
          obtain rfl := hw
          clear CC
          cases hrow : (allB S.ro[k][j] 0 99 && (S.ro[k][j].length == S.op.length))
          · have Hno : Hid (goodS S = false) := goodS_no_round hlt (roundB_no_row hlj hrow)
            clear hrow
            go_wp2_with fail
            go_ret
            exact ⟨ret_bool Hno.out.symm, hkw⟩
          · have Hrow : Hid (rowB S.op.length S.ro[k][j] = true) := hrow
            clear hrow
            go_wp2_with fail
            go_round
            case rel => exact ⟨j + 1, by omega, by go_num, all_take_succ Hq.out hlj Hrow.out⟩
            case measure => simp [intOf]; omega
        · have hall : Hid (S.ro[k].all (rowB S.op.length) = true) := by
            have := Hq.out
            rw [List.take_of_length_le (by omega)] at this
            exact this
          by_cases h5 : S.ro[k].length ≤ 5
          · have hrd : Hid (roundB S.op.length S.ro[k] = true) := by show roundB _ _ = true; rw [roundB, hall.out]; simp [h5]
            go_wp2_with fail
            go_round
            case rel => exact ⟨k + 1, by omega, by go_num, all_take_succ Hp.out hlt hrd.out⟩
            case measure => simp [intOf]; omega
          · have Hno : Hid (goodS S = false) := goodS_no_round hlt (by rw [roundB]; simp [h5])
            go_wp2_with fail
            go_ret
            exact ⟨ret_bool Hno.out.symm, hkw⟩
    · have hall : Hid (S.ro.all (roundB S.op.length) = true) := by
        have := Hp.out
        rw [List.take_of_length_le (by omega)] at this
        exact this
      go_wp2_with fail
      with_reducible refine Calls.mono (l1In_any _ _ _ _) ?_
      rintro e w1 ⟨rfl, hw⟩
      obtain rfl := hw
      cases h1 : inB (S.op.length : Int) 1 5
      · have Hno : Hid (goodS S = false) := by show goodS S = false; rw [goodS, h1]; rfl
        clear h1
        go_wp2_with fail
        go_ret
        exact ⟨ret_bool Hno.out.symm, hkw⟩
      have H1 := Lib.hid h1; clear h1
      go_wp2_with fail
      have CC := Lib.hid (l2RowH_any A S.op _ a S.op.length 99 wb hA rfl)
      with_reducible refine Calls.mono CC.out ?_
      rintro e w1 ⟨rfl, hw⟩
      obtain rfl := hw
      clear CC
      cases h2 : (allB S.op 0 99 && (S.op.length == S.op.length))
      · have Hno : Hid (goodS S = false) := by show goodS S = false; rw [goodS, show rowB S.op.length S.op = false from h2]; simp
        clear h2
        go_wp2_with fail
        go_ret
        exact ⟨ret_bool Hno.out.symm, hkw⟩
      have H2 : Hid (rowB S.op.length S.op = true) := h2
      clear h2
      go_wp2_with fail
      have CC := Lib.hid (l2RowH_any B S.cl _ b S.op.length 99 wb hB rfl)
      with_reducible refine Calls.mono CC.out ?_
      rintro e w1 ⟨rfl, hw⟩
      obtain rfl := hw
      clear CC
      cases h3 : (allB S.cl 0 99 && (S.cl.length == S.op.length))
      · have Hno : Hid (goodS S = false) := by show goodS S = false; rw [goodS, show rowB S.op.length S.cl = false from h3]; simp
        clear h3
        go_wp2_with fail
        go_ret
        exact ⟨ret_bool Hno.out.symm, hkw⟩
      have H3 : Hid (rowB S.op.length S.cl = true) := h3
      clear h3
      go_wp2_with fail
      have CC := Lib.hid (l2RowH_any C S.ke _ c S.op.length 99 wb hC rfl)
      with_reducible refine Calls.mono CC.out ?_
      rintro e w1 ⟨rfl, hw⟩
      obtain rfl := hw
      clear CC
      cases h4 : (allB S.ke 0 99 && (S.ke.length == S.op.length))
      · have Hno : Hid (goodS S = false) := by show goodS S = false; rw [goodS, show rowB S.op.length S.ke = false from h4]; simp
        clear h4
        go_wp2_with fail
        go_ret
        exact ⟨ret_bool Hno.out.symm, hkw⟩
      have H4 : Hid (rowB S.op.length S.ke = true) := h4
      clear h4
      have hfin : Hid (goodS S = decide (S.ro.length ≤ 5)) := by show goodS S = _; rw [goodS, H1.out, H2.out, H3.out, H4.out, hall.out]; simp
      go_wp2_with fail
      go_ret
      refine ⟨ret_bool ?_, hkw⟩
      rw [hfin.out]
      simp [Array.getD]
      try omega
end Go.Proofs.Ytjoebikljmkhfaa
