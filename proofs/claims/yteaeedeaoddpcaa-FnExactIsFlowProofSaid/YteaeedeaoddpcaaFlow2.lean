/- Flows: the reference's walks of a flow and of its cost. No condition. -/
import Derived.Test.YteaeedeaoddpcaaFlow
namespace Go.Proofs.Yteaeedeaoddpcaa
open Go.RowKit Go.Sort

theorem flow_getD {flow : List (List Int)} {j : Nat} (h : j < flow.length) : flow.getD j [] = flow[j] := by simp [List.getD, h]
theorem flAt_at {flow : List (List Int)} {j a : Nat} (h : j < flow.length) (ha : a < flow[j].length) : flow[j][a] = flAt flow j a := by
  rw [flAt, flow_getD h, lget_at ha]
set_option maxRecDepth 100000 in
set_option maxHeartbeats 2000000 in
theorem l7Flow_any (f : Value) (F : Fld) (A1 : Option Addr) (rooms : List Int) (n1 c1 : Nat) (A2 : Option Addr) (needs : List Int) (n2 c2 : Nat) (A3 : Option Addr) (S : List Int) (n3 c3 : Nat) (P0 : Option Addr) (flow : List (List Int)) (m cm : Nat) (w : World) (hf : FldAt w f F) (h1 : IntsAt w A1 rooms) (hn1 : rooms.length = n1) (h2 : IntsAt w A2 needs) (hn2 : needs.length = n2) (h3 : IntsAt w A3 S) (hn3 : S.length = n3) (hP : GridAt w P0 flow) (hm : flow.length = m) (hh : haulB F rooms needs S = true) :
    Calls Try.prog 34 #[f, .slice A1 n1 c1, .slice A2 n2 c2, .slice A3 n3 c3, .slice P0 m cm] w fun e w' => e = .returned (.bool (flowB F rooms needs S flow)) ∧ Kp w w' := by
  have hmm : m ≤ 9223372036854775807 := hm ▸ hP.1
  obtain ⟨A, c, B, d, rfl, hA, hB⟩ := hf
  have hk0 : Kp w (w.alloc (.cells #[.slice A F.op.length c, .slice B F.di.length d] 30)) := (Kp.refl w).alloc _
  obtain ⟨d0, d1⟩ := box2 w (.slice A F.op.length c) (.slice B F.di.length d) 30
  have hFA := FldAt.kp (show FldAt w (.agg #[.slice A F.op.length c, .slice B F.di.length d]) F from ⟨A, c, B, d, rfl, hA, hB⟩) hk0
  replace h1 := h1.kp hk0
  replace h2 := h2.kp hk0
  replace h3 := h3.kp hk0
  replace hP := hP.kp hk0
  have Hn1 := Lib.hid hn1; have Hn2 := Lib.hid hn2; have Hn3 := Lib.hid hn3; have Hm := Lib.hid hm
  have HH := Lib.hid (haulB_iff.1 hh)
  have HF := Lib.hid (goodF_iff.1 (openedB_parts HH.out.1).1)
  have h1n := HF.out.1.1
  have h7n := HF.out.1.2
  have h7d := HF.out.2.2.1
  have HN5 := Lib.hid (lget_all (M := 5) (by omega) HH.out.2.2.1)
  have HR20 := Lib.hid (lget_all (M := 20) (by omega) HH.out.2.1.1)
  have Hd2 : Hid (n2 = F.di.length) := by show _ = _; rw [← Hn2.out]; exact HH.out.2.2.2
  have Hd1 : Hid (n1 = F.op.length) := by show _ = _; rw [← Hn1.out]; exact HH.out.2.1.2
  clear hA hB hn1 hn2 hn3 hm hh
  by_cases hmd : m = F.di.length
  case neg =>
    have hne : ((m : Int) != (F.di.length : Int)) = true := by simp; omega
    have Hno : Hid (flowB F rooms needs S flow = false) := flow_len (by rw [Hm.out]; exact hmd)
    go_enter Try.func34, Try.ntmps34
    go_wp2_with fail
    go_ret
    exact ⟨ret_bool Hno.out.symm, hk0⟩
  have hne : ((m : Int) != (F.di.length : Int)) = false := by simp; omega
  have Hmd := Lib.hid hmd
  have hm7 : m ≤ 7 := by omega
  clear hmd
  have hmk := run_make_row' (P := Try.prog) 22 3 (.int .i64 0) 8 Try.underlying22 infoInt rfl .i64 .i64 F.op.length (by omega) (by omega)
  go_enter Try.func34, Try.ntmps34
  go_wp2_with fail
  have hsz : Hid ((w.alloc (.cells #[.slice A F.op.length c, .slice B F.di.length d] 30)).heap.size = w.heap.size + 1) := by show _ = _; simp
  generalize w.alloc (.cells #[.slice A F.op.length c, .slice B F.di.length d] 30) = wb at *
  have hkb : Kp wb wb := Kp.refl _
  have hkw := hk0
  have hs1 : w.heap.size + 1 ≤ wb.heap.size := by rw [hsz.out]; exact Nat.le_refl _
  have hs2 : wb.heap.size ≤ w.heap.size + 1 := by rw [hsz.out]; exact Nat.le_refl _
  have ho0 := own_made wb (w.heap.size + 1) F.op.length hs1 (by omega)
  have hkn := (Kp.refl wb).alloc (.cells (madeCells #[.int .i64 0] F.op.length) 3)
  rw [hsz.out, ← usedL_zero flow] at ho0
  clear hmk
  go_loopw [12] (fun iv wr => ∃ j : Nat, j ≤ m ∧ iv = .int .i64 j ∧ Hid (flRows F.op.length needs S flow j = true) ∧ Own wr (w.heap.size + 1) (.slice (some ⟨w.heap.size + 1, 0, none⟩) F.op.length F.op.length) (usedL flow F.op.length j 0) ∧ Kp wb wr) (fun iv _ => m - (intOf iv).toNat)
  case atStart => exact ⟨0, by omega, rfl, rfl, ho0, hkn⟩
  case round =>
    clear ho0
    obtain ⟨j, hj, rfl, Hr, hown, hkr⟩ := hrel
    have Hcb := Lib.hid (fun a (ha : a < F.op.length) => col_bd (fun j => (HN5.out j).2) ha j Hr.out)
    obtain ⟨wo, rfl⟩ : ∃ wo : World, wo = wr := ⟨_, rfl⟩
    by_cases hlt : j < m
    · have lx : j < flow.length := by rw [Hm.out]; exact hlt
      obtain ⟨pd, A4, ca, hPe, hcp, hrp⟩ := hP.at_ lx
      subst hPe
      have ly : j < needs.length := by rw [Hn2.out, Hd2.out, ← Hmd.out]; exact hlt
      obtain ⟨nd, rfl, hnc⟩ := h2.at_ ly
      rw [← lget_at ly] at hnc
      have hjn : j < n2 := by rw [Hd2.out, ← Hmd.out]; exact hlt
      have CR := Lib.hid (fun (wx : World) (hx : Kp wo wx) => l7Row_any A4 flow[j] _ ca F.op.length (lget needs j) A3 S n3 c3 wx (hrp.kp (hkr.trans hx)) rfl (h3.kp (hkr.trans hx)) Hn3.out (HN5.out j).2 h7n)
      have q0 := hkr.get d0
      have q1 := hkr.get d1
      have q2 := hkr.get hcp
      have q3 := hkr.get hnc
      have hkz : Kp wo wo := Kp.refl _
      have e1 : Hid (flow.getD j [] = flow[j]) := flow_getD lx
      cases hrow : flRow F.op.length (lget needs j) S flow[j]
      · have Hno : Hid (flowB F rooms needs S flow = false) := flow_row lx (by rw [e1.out]; exact hrow)
        rw [hrow] at CR
        clear hrow
        go_wp2_with fail
        go_quiet ((go_at_call 55; exact Calls.same_quiet (CR.out _ (by repeat (first | with_reducible assumption | with_reducible exact Kp.refl _ | with_reducible refine Kp.drew ?_ | with_reducible refine Kp.alloc ?_ _ | with_reducible refine Kp.drewN ?_ _)))))
        go_wp2_with fail
        go_ret
        exact ⟨ret_bool Hno.out.symm, hkw.trans (hkr.drewN _)⟩
      · have Hrow := Lib.hid hrow
        have Hrl : Hid (flow[j].length = F.op.length) := (flRow_iff.1 hrow).1
        have Hy : Hid (flRows F.op.length needs S flow (j + 1) = true) := by show _ = _; rw [flRows_succ, Hr.out, e1.out, hrow]; rfl
        have Hpo : Hid (∀ a, a < F.op.length → 0 ≤ flAt flow j a ∧ flAt flow j a ≤ 5) := fun a ha => by
          have h := flAt_pos (a := a) (needs := needs) (S := S) (by rw [e1.out]; exact hrow) ha
          have := (HN5.out j).2
          omega
        rw [hrow] at CR
        clear hrow
        go_wp2_with fail
        go_quiet ((go_at_call 55; exact Calls.same_quiet (CR.out _ (by repeat (first | with_reducible assumption | with_reducible exact Kp.refl _ | with_reducible refine Kp.drew ?_ | with_reducible refine Kp.alloc ?_ _ | with_reducible refine Kp.drewN ?_ _)))))
        go_wp2_with fail
        go_loopw [13] (fun iv wr => ∃ a : Nat, a ≤ F.op.length ∧ iv = .int .i64 a ∧ Own wr (w.heap.size + 1) (.slice (some ⟨w.heap.size + 1, 0, none⟩) F.op.length F.op.length) (usedL flow F.op.length j a) ∧ Kp wb wr) (fun iv _ => F.op.length - (intOf iv).toNat)
        case atStart => exact ⟨0, by omega, rfl, hown.kp ((Kp.refl _).drewN _), hkr.drewN _⟩
        case round =>
          clear q0 q1 q2 q3 hown hkr CR hkz
          obtain ⟨a, ha, rfl, hown, hkr⟩ := hrel
          by_cases hla : a < F.op.length
          · obtain ⟨t1, t1f, t1p⟩ := hown.slotL (usedL_len _ _ _ _) hla
            rw [usedL_at flow hla a (Nat.le_refl _)] at t1
            have lr : a < flow[j].length := by rw [Hrl.out]; exact hla
            obtain ⟨rd, rfl, hrc⟩ := hrp.at_ lr
            rw [flAt_at lx lr] at hrc
            obtain ⟨b1, b2⟩ := Hcb.out a hla
            obtain ⟨b3, b4⟩ := Hpo.out a hla
            obtain ⟨s1, s2⟩ := t1p (colS flow a j + flAt flow j a)
            rw [usedL_set] at s1
            have hk2 := hkr.setCell (p := ⟨w.heap.size + 1, a, none⟩) hs2 (.int .i64 (colS flow a j + flAt flow j a))
            have q2 := hkr.get hcp
            have q3 := hkr.get hrc
            clear t1p s2
            go_wp2_with fail
            go_region
            all_goals
              go_wp2_with fail
              go_roundw
              case rel => exact ⟨a + 1, by omega, by go_num, s1.kp (Kp.refl _).drew, hk2.drew⟩
              case measure => simp [intOf]; omega
          · obtain rfl : a = F.op.length := by omega
            rw [usedL_end] at hown
            go_wp2_with fail
            go_roundw
            case rel => exact ⟨j + 1, by omega, by go_num, Hy, hown, hkr⟩
            case measure => simp [intOf]; omega
    · obtain rfl : j = m := by omega
      go_wp2_with fail
      go_loopw [14] (fun iv wr => ∃ a : Nat, a ≤ F.op.length ∧ iv = .int .i64 a ∧ Hid (flCols rooms flow a = true) ∧ Kp wo wr) (fun iv _ => F.op.length - (intOf iv).toNat)
      case atStart => exact ⟨0, by omega, rfl, rfl, Kp.refl _⟩
      case round =>
        obtain ⟨a, ha, rfl, Hc, hkq⟩ := hrel
        by_cases hla : a < F.op.length
        · obtain ⟨t1, _, _⟩ := (hown.kp hkq).slotL (usedL_len _ _ _ _) hla
          rw [usedL_at flow hla 0 (Nat.zero_le _)] at t1
          have l1 : a < rooms.length := by rw [Hn1.out, Hd1.out]; exact hla
          have hl1 : a < n1 := by rw [Hd1.out]; exact hla
          obtain ⟨rd, rfl, hrc⟩ := h1.at_ l1
          rw [← lget_at l1] at hrc
          have q3 := (hkr.trans hkq).get hrc
          by_cases hle : colS flow a j ≤ lget rooms a
          · have Hy : Hid (flCols rooms flow (a + 1) = true) := by show _ = _; rw [flCols_succ, Hc.out, Hm.out, decide_eq_true hle]; rfl
            have hgt : ¬ lget rooms a < colS flow a j := by omega
            clear hle
            go_wp2_with fail
            go_quiet (fail)
            go_wp2_with fail
            go_roundw
            case rel => exact ⟨a + 1, by omega, by go_num, Hy, hkq.drewN _⟩
            case measure => simp [intOf]; omega
          · have Hno : Hid (flowB F rooms needs S flow = false) := flow_col hla (by rw [Hm.out]; exact hle)
            have hgt : lget rooms a < colS flow a j := by omega
            clear hle
            go_wp2_with fail
            go_quiet (fail)
            go_wp2_with fail
            go_ret
            exact ⟨ret_bool Hno.out.symm, hkw.trans (hkr.trans (hkq.drewN _))⟩
        · obtain rfl : a = F.op.length := by omega
          have Hyes : Hid (flowB F rooms needs S flow = true) := flow_yes (by rw [Hm.out]; exact Hmd.out) (by rw [Hm.out]; exact Hr.out) Hc.out
          go_wp2_with fail
          go_ret
          exact ⟨ret_bool Hyes.out.symm, hkw.trans (hkr.trans hkq)⟩
end Go.Proofs.Yteaeedeaoddpcaa
