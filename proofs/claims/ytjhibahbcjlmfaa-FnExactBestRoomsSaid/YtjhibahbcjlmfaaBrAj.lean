/- Flows: what a flow costs, by reference and program; the program's walk of a flow. No condition. -/
import Derived.Test.YtjhibahbcjlmfaaBrAi
namespace Go.Proofs.Ytjhibahbcjlmfaa
open Go.RowKit Go.Sort

theorem dAt_at {F : Fld} {j a : Nat} (h : j < F.di.length) (ha : a < F.di[j].length) : F.di[j][a] = dAt F j (a : Int) := by
  simp [dAt, List.getD, h, ha]
theorem costRow_succ (F : Fld) (flow : List (List Int)) (j a : Nat) : costRow F flow j (a + 1) = costRow F flow j a + flAt flow j a * dAt F j (a : Int) := sumTo_succ _ _
theorem costFl_succ (F : Fld) (flow : List (List Int)) (j : Nat) : costFl F flow (j + 1) = costFl F flow j + costRow F flow j F.op.length := sumTo_succ _ _
theorem costRow_zero (F : Fld) (flow : List (List Int)) (j : Nat) : costRow F flow j 0 = 0 := rfl
set_option maxRecDepth 100000 in
set_option maxHeartbeats 2000000 in
theorem l7Cost_any (f : Value) (F : Fld) (rooms needs S : List Int) (P0 : Option Addr) (flow : List (List Int)) (m cm : Nat) (w : World) (hf : FldAt w f F) (hP : GridAt w P0 flow) (hm : flow.length = m) (hh : haulB F rooms needs S = true) (hfl : flowB F rooms needs S flow = true) :
    Calls Try.prog 36 #[f, .slice P0 m cm] w fun e w' => e = .returned (.int .i64 (costFl F flow F.di.length)) ∧ Kp w w' := by
  obtain ⟨A, c, B, d, rfl, hA, hB⟩ := hf
  have hk0 : Kp w (w.alloc (.cells #[.slice A F.op.length c, .slice B F.di.length d] 29)) := (Kp.refl w).alloc _
  obtain ⟨d0, d1⟩ := box2 w (.slice A F.op.length c) (.slice B F.di.length d) 29
  have hFA := FldAt.kp (show FldAt w (.agg #[.slice A F.op.length c, .slice B F.di.length d]) F from ⟨A, c, B, d, rfl, hA, hB⟩) hk0
  replace hP := hP.kp hk0
  replace hB := hB.kp hk0
  have HH := Lib.hid (haulB_iff.1 hh)
  have HG := Lib.hid (openedB_parts HH.out.1).1
  have HF := Lib.hid (goodF_iff.1 HG.out)
  have h1n := HF.out.1.1
  have h7n := HF.out.1.2
  have h7d := HF.out.2.2.1
  have HN5 := Lib.hid (fun j => (lget_all (M := 5) (by omega) HH.out.2.2.1 j).2)
  have HP := Lib.hid (flow_parts hfl)
  have Hm := Lib.hid hm
  have hmd : m = F.di.length := by rw [← hm]; exact HP.out.1
  have HR : Hid (∀ j, j < m → flRow F.op.length (lget needs j) S (flow.getD j []) = true) := fun j hj => HP.out.2.1 j (by rw [Hm.out]; exact hj)
  have HC := Lib.hid (costFl_bd HG.out HN5.out (S := S) (flow := flow) (fun j hj => HR.out j (by omega)))
  have HD := Lib.hid (fun j (hj : j < m) => costRow_bd HG.out (show j < F.di.length by omega) HN5.out (HR.out j hj))
  have Hmd := Lib.hid hmd
  have hm7 : m ≤ 7 := by omega
  clear hA hm hh hfl hmd
  go_enter Try.func36, Try.ntmps36
  go_wp2_with fail
  have hsz : Hid ((w.alloc (.cells #[.slice A F.op.length c, .slice B F.di.length d] 29)).heap.size = w.heap.size + 1) := by show _ = _; simp
  generalize w.alloc (.cells #[.slice A F.op.length c, .slice B F.di.length d] 29) = wb at *
  have hkb : Kp wb wb := Kp.refl _
  have hkw := hk0
  have q_d0 := hkb.get d0
  have q_d1 := hkb.get d1
  go_wp2_with fail
  go_loopw [5, 6] (fun sv iv wr => ∃ j : Nat, j ≤ m ∧ iv = .int .i64 j ∧ sv = .int .i64 (costFl F flow j) ∧ Kp wb wr) (fun _ iv _ => m - (intOf iv).toNat)
  case atStart => exact ⟨0, by omega, rfl, rfl, hkb⟩
  case round =>
    clear hkb
    obtain ⟨j, hj, rfl, rfl, hkb⟩ := hrel
    obtain ⟨wo, rfl⟩ : ∃ wo : World, wo = wr := ⟨_, rfl⟩
    obtain ⟨p1, p2⟩ := HC.out j (by rw [← Hmd.out]; exact hj)
    by_cases hlt : j < m
    · have lx : j < flow.length := by rw [Hm.out]; exact hlt
      have ld : j < F.di.length := by rw [← Hmd.out]; exact hlt
      obtain ⟨pd, A4, ca, hPe, hcp, hrp⟩ := hP.at_ lx
      obtain ⟨bd, A5, cb, hBe, hcr, hrr⟩ := hB.at_ ld
      subst hPe hBe
      have HRj := Lib.hid (flRow_iff.1 (HR.out j hlt))
      have Hrl : Hid (flow[j].length = F.op.length) := by show _ = _; rw [← flow_getD lx]; exact HRj.out.1
      have Hdl := Lib.hid (goodRow HG.out ld)
      have hs2 := costFl_succ F flow j
      have hz := costRow_zero F flow j
      have q_2 := hkb.get hcp
      clear q_d0 q_d1
      have q_d0 := hkb.get d0
      have q_d1 := hkb.get d1
      go_wp2_with fail
      go_loopw [5, 7] (fun sv iv wr => ∃ a : Nat, a ≤ F.op.length ∧ iv = .int .i64 a ∧ sv = .int .i64 (costFl F flow j + costRow F flow j a) ∧ Kp wb wr) (fun _ iv _ => F.op.length - (intOf iv).toNat)
      case atStart => exact ⟨0, by omega, rfl, by rw [hz]; go_num, hkb⟩
      case round =>
        clear hkb q_2
        obtain ⟨a, ha, rfl, rfl, hkb⟩ := hrel
        obtain ⟨p3, p4⟩ := HD.out j hlt a ha
        have q_2 := hkb.get hcp
        have hl9 : flow[j].length = F.op.length := Hrl.out
        by_cases hla : a < F.op.length
        · have lr : a < flow[j].length := by rw [Hrl.out]; exact hla
          have lr2 : a < F.di[j].length := by rw [Hdl.out]; exact hla
          obtain ⟨rd, rfl, hrc⟩ := hrp.at_ lr
          obtain ⟨ed, rfl, hec⟩ := hrr.at_ lr2
          rw [flAt_at lx lr] at hrc
          rw [dAt_at ld lr2] at hec
          obtain ⟨z1, z2⟩ := HRj.out.2.1 a hla
          rw [show lget (flow.getD j []) a = flAt flow j a from rfl] at z1 z2
          obtain ⟨z3, z4⟩ := dAt_bd HG.out ld (a : Int)
          have z5 := HN5.out j
          obtain ⟨z6, z7⟩ := prod_bd z1 (by omega) z3 z4
          have hsu := Lib.hid (costRow_succ F flow j a)
          clear z2 hs2 hz
          have q_3 := hkb.get hrc
          have q_4 := hkb.get hcr
          have q_5 := hkb.get hec
          clear q_d0 q_d1
          have q_d0 := hkb.get d0
          have q_d1 := hkb.get d1
          go_wp2_with fail
          go_quiet (fail)
          go_wp2_with fail
          go_roundw
          case rel => exact ⟨a + 1, by omega, by go_num, by rw [hsu.out]; go_num, hkb.drewN _⟩
          case measure => simp [intOf]; omega
        · obtain rfl : a = F.op.length := by omega
          clear q_d0 q_d1
          have q_d0 := hkb.get d0
          have q_d1 := hkb.get d1
          go_wp2_with fail
          go_roundw
          case rel => exact ⟨j + 1, by omega, by go_num, by rw [hs2], hkb⟩
          case measure => simp [intOf]; omega
    · obtain rfl : j = m := by omega
      clear q_d0 q_d1
      have q_d0 := hkb.get d0
      have q_d1 := hkb.get d1
      go_wp2_with fail
      go_ret
      exact ⟨ret_int (by rw [← Hmd.out]), hkw.trans hkb⟩
set_option maxRecDepth 100000 in
set_option maxHeartbeats 2000000 in
theorem flowCost_any (f : Value) (F : Fld) (rooms needs S : List Int) (P0 : Option Addr) (flow : List (List Int)) (m cm : Nat) (w : World) (hf : FldAt w f F) (hP : GridAt w P0 flow) (hm : flow.length = m) (hh : haulB F rooms needs S = true) (hfl : flowB F rooms needs S flow = true) :
    Calls Try.prog 48 #[f, .slice P0 m cm] w fun e w' => e = .returned (.int .i64 (costFl F flow F.di.length)) ∧ Kp w w' := by
  obtain ⟨A, c, B, d, rfl, hA, hB⟩ := hf
  have hk0 : Kp w (w.alloc (.cells #[.slice A F.op.length c, .slice B F.di.length d] 29)) := (Kp.refl w).alloc _
  obtain ⟨d0, d1⟩ := box2 w (.slice A F.op.length c) (.slice B F.di.length d) 29
  have hFA := FldAt.kp (show FldAt w (.agg #[.slice A F.op.length c, .slice B F.di.length d]) F from ⟨A, c, B, d, rfl, hA, hB⟩) hk0
  replace hP := hP.kp hk0
  replace hB := hB.kp hk0
  have HH := Lib.hid (haulB_iff.1 hh)
  have HG := Lib.hid (openedB_parts HH.out.1).1
  have HF := Lib.hid (goodF_iff.1 HG.out)
  have h1n := HF.out.1.1
  have h7n := HF.out.1.2
  have h7d := HF.out.2.2.1
  have HN5 := Lib.hid (fun j => (lget_all (M := 5) (by omega) HH.out.2.2.1 j).2)
  have HP := Lib.hid (flow_parts hfl)
  have Hm := Lib.hid hm
  have hmd : m = F.di.length := by rw [← hm]; exact HP.out.1
  have HR : Hid (∀ j, j < m → flRow F.op.length (lget needs j) S (flow.getD j []) = true) := fun j hj => HP.out.2.1 j (by rw [Hm.out]; exact hj)
  have HC := Lib.hid (costFl_bd HG.out HN5.out (S := S) (flow := flow) (fun j hj => HR.out j (by omega)))
  have HD := Lib.hid (fun j (hj : j < m) => costRow_bd HG.out (show j < F.di.length by omega) HN5.out (HR.out j hj))
  have Hmd := Lib.hid hmd
  have hm7 : m ≤ 7 := by omega
  clear hA hm hh hfl hmd
  go_enter Try.func48, Try.ntmps48
  go_wp2_with fail
  have hsz : Hid ((w.alloc (.cells #[.slice A F.op.length c, .slice B F.di.length d] 29)).heap.size = w.heap.size + 1) := by show _ = _; simp
  generalize w.alloc (.cells #[.slice A F.op.length c, .slice B F.di.length d] 29) = wb at *
  have hkb : Kp wb wb := Kp.refl _
  have hkw := hk0
  have q_d0 := hkb.get d0
  have q_d1 := hkb.get d1
  go_wp2_with fail
  go_loopw [5, 12] (fun sv iv wr => ∃ j : Nat, j ≤ m ∧ iv = .int .i64 j ∧ sv = .int .i64 (costFl F flow j) ∧ Kp wb wr) (fun _ iv _ => m - (intOf iv).toNat)
  case atStart => exact ⟨0, by omega, rfl, rfl, hkb⟩
  case round =>
    clear hkb
    obtain ⟨j, hj, rfl, rfl, hkb⟩ := hrel
    obtain ⟨wo, rfl⟩ : ∃ wo : World, wo = wr := ⟨_, rfl⟩
    obtain ⟨p1, p2⟩ := HC.out j (by rw [← Hmd.out]; exact hj)
    by_cases hlt : j < m
    · have lx : j < flow.length := by rw [Hm.out]; exact hlt
      have ld : j < F.di.length := by rw [← Hmd.out]; exact hlt
      obtain ⟨pd, A4, ca, hPe, hcp, hrp⟩ := hP.at_ lx
      obtain ⟨bd, A5, cb, hBe, hcr, hrr⟩ := hB.at_ ld
      subst hPe hBe
      have HRj := Lib.hid (flRow_iff.1 (HR.out j hlt))
      have Hrl : Hid (flow[j].length = F.op.length) := by show _ = _; rw [← flow_getD lx]; exact HRj.out.1
      have Hdl := Lib.hid (goodRow HG.out ld)
      have hs2 := costFl_succ F flow j
      have hz := costRow_zero F flow j
      have q_2 := hkb.get hcp
      clear q_d0 q_d1
      have q_d0 := hkb.get d0
      have q_d1 := hkb.get d1
      go_wp2_with fail
      go_loopw [5, 19] (fun sv iv wr => ∃ a : Nat, a ≤ F.op.length ∧ iv = .int .i64 a ∧ sv = .int .i64 (costFl F flow j + costRow F flow j a) ∧ Kp wb wr) (fun _ iv _ => F.op.length - (intOf iv).toNat)
      case atStart => exact ⟨0, by omega, rfl, by rw [hz]; go_num, hkb⟩
      case round =>
        clear hkb q_2
        obtain ⟨a, ha, rfl, rfl, hkb⟩ := hrel
        obtain ⟨p3, p4⟩ := HD.out j hlt a ha
        have q_2 := hkb.get hcp
        have hl9 : flow[j].length = F.op.length := Hrl.out
        by_cases hla : a < F.op.length
        · have lr : a < flow[j].length := by rw [Hrl.out]; exact hla
          have lr2 : a < F.di[j].length := by rw [Hdl.out]; exact hla
          obtain ⟨rd, rfl, hrc⟩ := hrp.at_ lr
          obtain ⟨ed, rfl, hec⟩ := hrr.at_ lr2
          rw [flAt_at lx lr] at hrc
          rw [dAt_at ld lr2] at hec
          obtain ⟨z1, z2⟩ := HRj.out.2.1 a hla
          rw [show lget (flow.getD j []) a = flAt flow j a from rfl] at z1 z2
          obtain ⟨z3, z4⟩ := dAt_bd HG.out ld (a : Int)
          have z5 := HN5.out j
          obtain ⟨z6, z7⟩ := prod_bd z1 (by omega) z3 z4
          have hsu := Lib.hid (costRow_succ F flow j a)
          clear z2 hs2 hz
          have q_3 := hkb.get hrc
          have q_4 := hkb.get hcr
          have q_5 := hkb.get hec
          clear q_d0 q_d1
          have q_d0 := hkb.get d0
          have q_d1 := hkb.get d1
          go_wp2_with fail
          go_roundw
          case rel => exact ⟨a + 1, by omega, by go_num, by rw [hsu.out]; go_num, hkb⟩
          case measure => simp [intOf]; omega
        · obtain rfl : a = F.op.length := by omega
          clear q_d0 q_d1
          have q_d0 := hkb.get d0
          have q_d1 := hkb.get d1
          go_wp2_with fail
          go_roundw
          case rel => exact ⟨j + 1, by omega, by go_num, by rw [hs2], hkb⟩
          case measure => simp [intOf]; omega
    · obtain rfl : j = m := by omega
      clear q_d0 q_d1
      have q_d0 := hkb.get d0
      have q_d1 := hkb.get d1
      go_wp2_with fail
      go_ret
      exact ⟨ret_int (by rw [← Hmd.out]), hkw.trans hkb⟩
theorem fl_bag {S : List Int} (h : ∀ y ∈ S, 0 ≤ y) (a : Nat) : (bagN S).testBit a = flHas S a := by
  rw [bagN_bit h, Bool.eq_iff_iff, decide_eq_true_eq, flHas, List.any_eq_true]
  constructor
  · intro hx; exact ⟨_, hx, by simp⟩
  · rintro ⟨y, hy, e⟩
    have : y = (a : Int) := by simpa using e
    exact this ▸ hy
end Go.Proofs.Ytjhibahbcjlmfaa
