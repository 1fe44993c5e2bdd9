/- Flows: what a flow costs, by reference and program; the program's walk of a flow. No condition. -/
import Derived.Test.YteaeedeaoddpcaaFlow2
namespace Go.Proofs.Yteaeedeaoddpcaa
open Go.RowKit Go.Sort

theorem dAt_at {F : Fld} {j a : Nat} (h : j < F.di.length) (ha : a < F.di[j].length) : F.di[j][a] = dAt F j (a : Int) := by
  simp [dAt, List.getD, h, ha]
theorem costRow_succ (F : Fld) (flow : List (List Int)) (j a : Nat) : costRow F flow j (a + 1) = costRow F flow j a + flAt flow j a * dAt F j (a : Int) := sumTo_succ _ _
theorem costFl_succ (F : Fld) (flow : List (List Int)) (j : Nat) : costFl F flow (j + 1) = costFl F flow j + costRow F flow j F.op.length := sumTo_succ _ _
theorem costRow_zero (F : Fld) (flow : List (List Int)) (j : Nat) : costRow F flow j 0 = 0 := rfl
set_option maxRecDepth 100000 in
set_option maxHeartbeats 2000000 in
theorem l7Cost_any (f : Value) (F : Fld) (rooms needs S : List Int) (P0 : Option Addr) (flow : List (List Int)) (m cm : Nat) (w : World) (hf : FldAt w f F) (hP : GridAt w P0 flow) (hm : flow.length = m) (hh : haulB F rooms needs S = true) (hfl : flowB F rooms needs S flow = true) :
    Calls Try.prog 35 #[f, .slice P0 m cm] w fun e w' => e = .returned (.int .i64 (costFl F flow F.di.length)) ∧ Kp w w' := by
  obtain ⟨A, c, B, d, rfl, hA, hB⟩ := hf
  have hk0 : Kp w (w.alloc (.cells #[.slice A F.op.length c, .slice B F.di.length d] 30)) := (Kp.refl w).alloc _
  obtain ⟨d0, d1⟩ := box2 w (.slice A F.op.length c) (.slice B F.di.length d) 30
  have hFA := FldAt.kp (show FldAt w (.agg #[.slice A F.op.length c, .slice B F.di.length d]) F from ⟨A, c, B, d, rfl, hA, hB⟩) hk0
  replace hP := hP.kp hk0
  replace hB := hB.kp hk0
  have HH := Lib.hid (haulB_iff.1 hh)
  have HG := Lib.hid (openedB_parts HH.out.1).1
  have HF := Lib.hid (goodF_iff.1 HG.out)
  have h1n := HF.out.1.1
  have h7n := HF.out.1.2
  have h7d := HF.out.2.2.1
  have HN5 := Lib.hid (fun j => (lget_all (M := 5) (by omega) HH.out.2.2.1 j).2)
  have HP := Lib.hid (flow_parts hfl)
  have Hm := Lib.hid hm
  have hmd : m = F.di.length := by rw [← hm]; exact HP.out.1
  have HR : Hid (∀ j, j < m → flRow F.op.length (lget needs j) S (flow.getD j []) = true) := fun j hj => HP.out.2.1 j (by rw [Hm.out]; exact hj)
  have HC := Lib.hid (costFl_bd HG.out HN5.out (S := S) (flow := flow) (fun j hj => HR.out j (by omega)))
  have HD := Lib.hid (fun j (hj : j < m) => costRow_bd HG.out (show j < F.di.length by omega) HN5.out (HR.out j hj))
  have Hmd := Lib.hid hmd
  have hm7 : m ≤ 7 := by omega
  clear hA hm hh hfl hmd
  go_enter Try.func35, Try.ntmps35
  go_wp2_with fail
  have hsz : Hid ((w.alloc (.cells #[.slice A F.op.length c, .slice B F.di.length d] 30)).heap.size = w.heap.size + 1) := by show _ = _; simp
  generalize w.alloc (.cells #[.slice A F.op.length c, .slice B F.di.length d] 30) = wb at *
  have hkb : Kp wb wb := Kp.refl _
  have hkw := hk0
  have q_d0 := hkb.get d0
  have q_d1 := hkb.get d1
  go_wp2_with fail
  go_loopw [5, 6] (fun sv iv wr => ∃ j : Nat, j ≤ m ∧ iv = .int .i64 j ∧ sv = .int .i64 (costFl F flow j) ∧ Kp wb wr) (fun _ iv _ => m - (intOf iv).toNat)
  case atStart => exact ⟨0, by omega, rfl, rfl, hkb⟩
  case round =>
    clear hkb
    obtain ⟨j, hj, rfl, rfl, hkb⟩ := hrel
    obtain ⟨wo, rfl⟩ : ∃ wo : World, wo = wr := ⟨_, rfl⟩
    obtain ⟨p1, p2⟩ := HC.out j (by rw [← Hmd.out]; exact hj)
    by_cases hlt : j < m
    · have lx : j < flow.length := by rw [Hm.out]; exact hlt
      have ld : j < F.di.length := by rw [← Hmd.out]; exact hlt
      obtain ⟨pd, A4, ca, hPe, hcp, hrp⟩ := hP.at_ lx
      obtain ⟨bd, A5, cb, hBe, hcr, hrr⟩ := hB.at_ ld
      subst hPe hBe
      have HRj := Lib.hid (flRow_iff.1 (HR.out j hlt))
      have Hrl : Hid (flow[j].length = F.op.length) := by show _ = _; rw [← flow_getD lx]; exact HRj.out.1
      have Hdl := Lib.hid (goodRow HG.out ld)
      have hs2 := costFl_succ F flow j
      have hz := costRow_zero F flow j
      have q_2 := hkb.get hcp
      clear q_d0 q_d1
      have q_d0 := hkb.get d0
      have q_d1 := hkb.get d1
      go_wp2_with fail
      go_loopw [5, 7] (fun sv iv wr => ∃ a : Nat, a ≤ F.op.length ∧ iv = .int .i64 a ∧ sv = .int .i64 (costFl F flow j + costRow F flow j a) ∧ Kp wb wr) (fun _ iv _ => F.op.length - (intOf iv).toNat)
      case atStart => exact ⟨0, by omega, rfl, by rw [hz]; go_num, hkb⟩
      case round =>
        clear hkb q_2
        obtain ⟨a, ha, rfl, rfl, hkb⟩ := hrel
        obtain ⟨p3, p4⟩ := HD.out j hlt a ha
        have q_2 := hkb.get hcp
        have hl9 : flow[j].length = F.op.length := Hrl.out
        by_cases hla : a < F.op.length
        · have lr : a < flow[j].length := by rw [Hrl.out]; exact hla
          have lr2 : a < F.di[j].length := by rw [Hdl.out]; exact hla
          obtain ⟨rd, rfl, hrc⟩ := hrp.at_ lr
          obtain ⟨ed, rfl, hec⟩ := hrr.at_ lr2
          rw [flAt_at lx lr] at hrc
          rw [dAt_at ld lr2] at hec
          obtain ⟨z1, z2⟩ := HRj.out.2.1 a hla
          rw [show lget (flow.getD j []) a = flAt flow j a from rfl] at z1 z2
          obtain ⟨z3, z4⟩ := dAt_bd HG.out ld (a : Int)
          have z5 := HN5.out j
          obtain ⟨z6, z7⟩ := prod_bd z1 (by omega) z3 z4
          have hsu := Lib.hid (costRow_succ F flow j a)
          clear z2 hs2 hz
          have q_3 := hkb.get hrc
          have q_4 := hkb.get hcr
          have q_5 := hkb.get hec
          clear q_d0 q_d1
          have q_d0 := hkb.get d0
          have q_d1 := hkb.get d1
          go_wp2_with fail
          go_quiet (fail)
          go_wp2_with fail
          go_roundw
          case rel => exact ⟨a + 1, by omega, by go_num, by rw [hsu.out]; go_num, hkb.drewN _⟩
          case measure => simp [intOf]; omega
        · obtain rfl : a = F.op.length := by omega
          clear q_d0 q_d1
          have q_d0 := hkb.get d0
          have q_d1 := hkb.get d1
          go_wp2_with fail
          go_roundw
          case rel => exact ⟨j + 1, by omega, by go_num, by rw [hs2], hkb⟩
          case measure => simp [intOf]; omega
    · obtain rfl : j = m := by omega
      clear q_d0 q_d1
      have q_d0 := hkb.get d0
      have q_d1 := hkb.get d1
      go_wp2_with fail
      go_ret
      exact ⟨ret_int (by rw [← Hmd.out]), hkw.trans hkb⟩
set_option maxRecDepth 100000 in
set_option maxHeartbeats 2000000 in
theorem flowCost_any (f : Value) (F : Fld) (rooms needs S : List Int) (P0 : Option Addr) (flow : List (List Int)) (m cm : Nat) (w : World) (hf : FldAt w f F) (hP : GridAt w P0 flow) (hm : flow.length = m) (hh : haulB F rooms needs S = true) (hfl : flowB F rooms needs S flow = true) :
    Calls Try.prog 37 #[f, .slice P0 m cm] w fun e w' => e = .returned (.int .i64 (costFl F flow F.di.length)) ∧ Kp w w' := by
  obtain ⟨A, c, B, d, rfl, hA, hB⟩ := hf
  have hk0 : Kp w (w.alloc (.cells #[.slice A F.op.length c, .slice B F.di.length d] 30)) := (Kp.refl w).alloc _
  obtain ⟨d0, d1⟩ := box2 w (.slice A F.op.length c) (.slice B F.di.length d) 30
  have hFA := FldAt.kp (show FldAt w (.agg #[.slice A F.op.length c, .slice B F.di.length d]) F from ⟨A, c, B, d, rfl, hA, hB⟩) hk0
  replace hP := hP.kp hk0
  replace hB := hB.kp hk0
  have HH := Lib.hid (haulB_iff.1 hh)
  have HG := Lib.hid (openedB_parts HH.out.1).1
  have HF := Lib.hid (goodF_iff.1 HG.out)
  have h1n := HF.out.1.1
  have h7n := HF.out.1.2
  have h7d := HF.out.2.2.1
  have HN5 := Lib.hid (fun j => (lget_all (M := 5) (by omega) HH.out.2.2.1 j).2)
  have HP := Lib.hid (flow_parts hfl)
  have Hm := Lib.hid hm
  have hmd : m = F.di.length := by rw [← hm]; exact HP.out.1
  have HR : Hid (∀ j, j < m → flRow F.op.length (lget needs j) S (flow.getD j []) = true) := fun j hj => HP.out.2.1 j (by rw [Hm.out]; exact hj)
  have HC := Lib.hid (costFl_bd HG.out HN5.out (S := S) (flow := flow) (fun j hj => HR.out j (by omega)))
  have HD := Lib.hid (fun j (hj : j < m) => costRow_bd HG.out (show j < F.di.length by omega) HN5.out (HR.out j hj))
  have Hmd := Lib.hid hmd
  have hm7 : m ≤ 7 := by omega
  clear hA hm hh hfl hmd
  go_enter Try.func37, Try.ntmps37
  go_wp2_with fail
  have hsz : Hid ((w.alloc (.cells #[.slice A F.op.length c, .slice B F.di.length d] 30)).heap.size = w.heap.size + 1) := by show _ = _; simp
  generalize w.alloc (.cells #[.slice A F.op.length c, .slice B F.di.length d] 30) = wb at *
  have hkb : Kp wb wb := Kp.refl _
  have hkw := hk0
  have q_d0 := hkb.get d0
  have q_d1 := hkb.get d1
  go_wp2_with fail
  go_loopw [5, 12] (fun sv iv wr => ∃ j : Nat, j ≤ m ∧ iv = .int .i64 j ∧ sv = .int .i64 (costFl F flow j) ∧ Kp wb wr) (fun _ iv _ => m - (intOf iv).toNat)
  case atStart => exact ⟨0, by omega, rfl, rfl, hkb⟩
  case round =>
    clear hkb
    obtain ⟨j, hj, rfl, rfl, hkb⟩ := hrel
    obtain ⟨wo, rfl⟩ : ∃ wo : World, wo = wr := ⟨_, rfl⟩
    obtain ⟨p1, p2⟩ := HC.out j (by rw [← Hmd.out]; exact hj)
    by_cases hlt : j < m
    · have lx : j < flow.length := by rw [Hm.out]; exact hlt
      have ld : j < F.di.length := by rw [← Hmd.out]; exact hlt
      obtain ⟨pd, A4, ca, hPe, hcp, hrp⟩ := hP.at_ lx
      obtain ⟨bd, A5, cb, hBe, hcr, hrr⟩ := hB.at_ ld
      subst hPe hBe
      have HRj := Lib.hid (flRow_iff.1 (HR.out j hlt))
      have Hrl : Hid (flow[j].length = F.op.length) := by show _ = _; rw [← flow_getD lx]; exact HRj.out.1
      have Hdl := Lib.hid (goodRow HG.out ld)
      have hs2 := costFl_succ F flow j
      have hz := costRow_zero F flow j
      have q_2 := hkb.get hcp
      clear q_d0 q_d1
      have q_d0 := hkb.get d0
      have q_d1 := hkb.get d1
      go_wp2_with fail
      go_loopw [5, 19] (fun sv iv wr => ∃ a : Nat, a ≤ F.op.length ∧ iv = .int .i64 a ∧ sv = .int .i64 (costFl F flow j + costRow F flow j a) ∧ Kp wb wr) (fun _ iv _ => F.op.length - (intOf iv).toNat)
      case atStart => exact ⟨0, by omega, rfl, by rw [hz]; go_num, hkb⟩
      case round =>
        clear hkb q_2
        obtain ⟨a, ha, rfl, rfl, hkb⟩ := hrel
        obtain ⟨p3, p4⟩ := HD.out j hlt a ha
        have q_2 := hkb.get hcp
        have hl9 : flow[j].length = F.op.length := Hrl.out
        by_cases hla : a < F.op.length
        · have lr : a < flow[j].length := by rw [Hrl.out]; exact hla
          have lr2 : a < F.di[j].length := by rw [Hdl.out]; exact hla
          obtain ⟨rd, rfl, hrc⟩ := hrp.at_ lr
          obtain ⟨ed, rfl, hec⟩ := hrr.at_ lr2
          rw [flAt_at lx lr] at hrc
          rw [dAt_at ld lr2] at hec
          obtain ⟨z1, z2⟩ := HRj.out.2.1 a hla
          rw [show lget (flow.getD j []) a = flAt flow j a from rfl] at z1 z2
          obtain ⟨z3, z4⟩ := dAt_bd HG.out ld (a : Int)
          have z5 := HN5.out j
          obtain ⟨z6, z7⟩ := prod_bd z1 (by omega) z3 z4
          have hsu := Lib.hid (costRow_succ F flow j a)
          clear z2 hs2 hz
          have q_3 := hkb.get hrc
          have q_4 := hkb.get hcr
          have q_5 := hkb.get hec
          clear q_d0 q_d1
          have q_d0 := hkb.get d0
          have q_d1 := hkb.get d1
          go_wp2_with fail
          go_roundw
          case rel => exact ⟨a + 1, by omega, by go_num, by rw [hsu.out]; go_num, hkb⟩
          case measure => simp [intOf]; omega
        · obtain rfl : a = F.op.length := by omega
          clear q_d0 q_d1
          have q_d0 := hkb.get d0
          have q_d1 := hkb.get d1
          go_wp2_with fail
          go_roundw
          case rel => exact ⟨j + 1, by omega, by go_num, by rw [hs2], hkb⟩
          case measure => simp [intOf]; omega
    · obtain rfl : j = m := by omega
      clear q_d0 q_d1
      have q_d0 := hkb.get d0
      have q_d1 := hkb.get d1
      go_wp2_with fail
      go_ret
      exact ⟨ret_int (by rw [← Hmd.out]), hkw.trans hkb⟩
theorem fl_bag {S : List Int} (h : ∀ y ∈ S, 0 ≤ y) (a : Nat) : (bagN S).testBit a = flHas S a := by
  rw [bagN_bit h, Bool.eq_iff_iff, decide_eq_true_eq, flHas, List.any_eq_true]
  constructor
  · intro hx; exact ⟨_, hx, by simp⟩
  · rintro ⟨y, hy, e⟩
    have : y = (a : Int) := by simpa using e
    exact this ▸ hy
set_option maxRecDepth 100000 in
set_option maxHeartbeats 2000000 in
theorem isFlow_any (f : Value) (F : Fld) (A1 : Option Addr) (rooms : List Int) (n1 c1 : Nat) (A2 : Option Addr) (needs : List Int) (n2 c2 : Nat) (A3 : Option Addr) (S : List Int) (n3 c3 : Nat) (P0 : Option Addr) (flow : List (List Int)) (m cm : Nat) (w : World) (hf : FldAt w f F) (h1 : IntsAt w A1 rooms) (hn1 : rooms.length = n1) (h2 : IntsAt w A2 needs) (hn2 : needs.length = n2) (h3 : IntsAt w A3 S) (hn3 : S.length = n3) (hP : GridAt w P0 flow) (hm : flow.length = m) (hh : haulB F rooms needs S = true) :
    Calls Try.prog 56 #[f, .slice A1 n1 c1, .slice A2 n2 c2, .slice A3 n3 c3, .slice P0 m cm] w fun e w' => e = .returned (.bool (flowB F rooms needs S flow)) ∧ Kp w w' := by
  have hmm : m ≤ 9223372036854775807 := hm ▸ hP.1
  obtain ⟨A, c, B, d, rfl, hA, hB⟩ := hf
  have hk0 : Kp w (w.alloc (.cells #[.slice A F.op.length c, .slice B F.di.length d] 30)) := (Kp.refl w).alloc _
  obtain ⟨d0, d1⟩ := box2 w (.slice A F.op.length c) (.slice B F.di.length d) 30
  have hFA := FldAt.kp (show FldAt w (.agg #[.slice A F.op.length c, .slice B F.di.length d]) F from ⟨A, c, B, d, rfl, hA, hB⟩) hk0
  replace h1 := h1.kp hk0
  replace h2 := h2.kp hk0
  replace h3 := h3.kp hk0
  replace hP := hP.kp hk0
  have Hn1 := Lib.hid hn1; have Hn2 := Lib.hid hn2; have Hn3 := Lib.hid hn3; have Hm := Lib.hid hm
  have HH := Lib.hid (haulB_iff.1 hh)
  have HF := Lib.hid (goodF_iff.1 (openedB_parts HH.out.1).1)
  have HS := Lib.hid (set_mem (openedB_parts HH.out.1).2.1)
  have h1n := HF.out.1.1
  have h7n := HF.out.1.2
  have h7d := HF.out.2.2.1
  have HN5 := Lib.hid (lget_all (M := 5) (by omega) HH.out.2.2.1)
  have HR20 := Lib.hid (lget_all (M := 20) (by omega) HH.out.2.1.1)
  have Hd2 : Hid (n2 = F.di.length) := by show _ = _; rw [← Hn2.out]; exact HH.out.2.2.2
  have hd1 : n1 = F.op.length := by rw [← hn1]; exact HH.out.2.1.2
  have hbs : Hid (bagN S < 128) := Nat.lt_of_lt_of_le (bagN_lt HS.out) (Nat.pow_le_pow_right (n := 2) (by omega) h7n)
  clear hA hB hn1 hn2 hn3 hm hh d0 d1 hFA
  subst hd1
  by_cases hmd : m = n2
  case neg =>
    have hne : ((m : Int) != (n2 : Int)) = true := by simp; omega
    have Hno : Hid (flowB F rooms needs S flow = false) := flow_len (by rw [Hm.out, ← Hd2.out]; exact hmd)
    go_enter Try.func56, Try.ntmps56
    go_wp2_with fail
    go_ret
    exact ⟨ret_bool Hno.out.symm, hk0⟩
  have hne : ((m : Int) != (n2 : Int)) = false := by simp; omega
  have Hmd := Lib.hid hmd
  have hd2' := Hd2.out
  have hm7 : m ≤ 7 := by omega
  clear hmd hd2'
  have l0 : 0 < rooms.length := by rw [Hn1.out]; exact h1n
  obtain ⟨rd, hAe, _⟩ := h1.at_ l0
  subst hAe
  go_enter Try.func56, Try.ntmps56
  go_wp2_with fail
  generalize w.alloc (.cells #[.slice A F.op.length c, .slice B F.di.length d] 30) = wb at *
  have hkb : Kp wb wb := Kp.refl _
  have hkw := hk0
  have CC := Lib.hid (clone_some rd rooms F.op.length c1 wb h1 Hn1.out (by omega))
  with_reducible refine Calls.mono CC.out ?_
  rintro e w1 ⟨vl, rfl, hov, hk1⟩
  clear CC
  replace hkb := hkb.trans hk1
  obtain ⟨Al, cl, hve⟩ := hov.shape
  rw [Hn1.out] at hve
  subst hve
  obtain ⟨g, cap, e⟩ := hov.at0 Hn1.out h1n
  simp only [Value.slice.injEq] at e
  obtain ⟨rfl, _, rfl⟩ := e
  go_wp2_with fail
  have CC := Lib.hid (bagOf_any A3 S n3 c3 _ (h3.kp hkb) Hn3.out (fun x hx => by have := HS.out x hx; omega))
  with_reducible refine Calls.mono CC.out ?_
  rintro e w2 ⟨rfl, hw⟩
  obtain rfl := hw
  clear CC
  go_wp2_with fail
  have hkr := hkb
  have hst := flSt_first (F := F) (S := S) (flow := flow) (fun a => (HR20.out a).1) (fun a => (HN5.out a).1)
  rw [← leftL_zero (flow := flow) Hn1.out] at hov
  go_loopw [29] (fun iv wr => ∃ j : Nat, j ≤ m ∧ iv = .int .i64 j ∧ flSt F rooms needs S flow j 0 ∧ Own wr wb.heap.size (.slice (some ⟨g, 0, none⟩) F.op.length cl) (leftL rooms flow F.op.length j 0) ∧ Kp wb wr) (fun iv _ => m - (intOf iv).toNat)
  case atStart => exact ⟨0, by omega, rfl, hst, hov, hkr⟩
  case round =>
    clear hov hkr hst hkb
    obtain ⟨j, hj, rfl, hst, hown, hkr⟩ := hrel
    have Hst := Lib.hid hst
    clear hst
    obtain ⟨wo, rfl⟩ : ∃ wo : World, wo = wr := ⟨_, rfl⟩
    by_cases hlt : j < m
    · have lx : j < flow.length := by rw [Hm.out]; exact hlt
      obtain ⟨pd, A4, ca, hPe, hcp, hrp⟩ := hP.at_ lx
      subst hPe
      have hjn : j < n2 := by rw [← Hmd.out]; exact hlt
      have ly : j < needs.length := by rw [Hn2.out]; exact hjn
      obtain ⟨nd, rfl, hnc⟩ := h2.at_ ly
      rw [← lget_at ly] at hnc
      have q2 := hkr.get hcp
      have q3 := hkr.get hnc
      have e1 : Hid (flow.getD j [] = flow[j]) := flow_getD lx
      by_cases hrl : flow[j].length = F.op.length
      case neg =>
        have hne2 : ((flow[j].length : Int) != (F.op.length : Int)) = true := by simp; omega
        have Hno : Hid (flowB F rooms needs S flow = false) := flow_rowlen lx (by rw [e1.out]; exact hrl)
        clear hrl
        go_wp2_with fail
        go_ret
        exact ⟨ret_bool Hno.out.symm, hkw.trans hkr⟩
      have hne2 : ((flow[j].length : Int) != (F.op.length : Int)) = false := by simp; omega
      have Hcb := Lib.hid (fun a (ha : a < F.op.length) => col_bd (fun j => (HN5.out j).2) ha j Hst.out.rows)
      have Hrl := Lib.hid hrl
      have hrl2 : flow[j].length ≤ 7 := by omega
      obtain ⟨y1, y2⟩ := HN5.out j
      clear hrl
      go_wp2_with fail
      go_loopw [15, 45] (fun nv iv wr => ∃ a : Nat, a ≤ F.op.length ∧ iv = .int .i64 a ∧ nv = .int .i64 (lget needs j - sumTo (flAt flow j) a) ∧ flSt F rooms needs S flow j a ∧ Own wr wb.heap.size (.slice (some ⟨g, 0, none⟩) F.op.length cl) (leftL rooms flow F.op.length j a) ∧ Kp wb wr) (fun _ iv _ => F.op.length - (intOf iv).toNat)
      case atStart => exact ⟨0, by omega, rfl, by rw [sumTo_zero]; go_num, Hst.out, hown, hkr⟩
      case round =>
        clear hown hkr q2 q3
        obtain ⟨a, ha, rfl, rfl, hst2, hown, hkr⟩ := hrel
        have Hs2 := Lib.hid hst2
        have p1 := hst2.pos
        have p2 := hst2.sum
        clear hst2
        by_cases hla : a < F.op.length
        · have lr : a < flow[j].length := by rw [Hrl.out]; exact hla
          obtain ⟨ed, rfl, hec⟩ := hrp.at_ lr
          rw [flAt_at lx lr] at hec
          obtain ⟨t1, t1f, t1p⟩ := hown.slotL (leftL_len _ _ _ _ _) hla
          rw [leftL_at rooms flow hla] at t1
          have Hbad := Lib.hid (fun h => flSt.bad (F := F) (rooms := rooms) (needs := needs) (S := S) lx hla h)
          have Hnx := Lib.hid (fun h0 h1 h2 h3 => Hs2.out.next hla h0 h1 h2 h3)
          have Hss := Lib.hid (sumTo_succ (flAt flow j) a)
          obtain ⟨b1, b2⟩ := Hcb.out a hla
          obtain ⟨b3, b4⟩ := HR20.out a
          obtain ⟨s1, s2⟩ := t1p (lget rooms a - colS flow a j - flAt flow j a)
          rw [leftL_set] at s1
          have Hs1 := Lib.hid s1
          have Hk2 := Lib.hid (hkr.setCell (p := ⟨g, a, none⟩) (hown.lt g rfl).1 (.int .i64 (lget rooms a - colS flow a j - flAt flow j a)))
          clear t1p s2 s1
          have q4 := hkr.get hec
          have Hhb := Lib.hid (fl_bag (fun y hy => (HS.out y hy).1) a)
          have hbs' := hbs.out
          by_cases hmn : lget rooms a - colS flow a j < lget needs j - sumTo (flAt flow j) a
          · go_wp2_with fail
            have CC := Lib.hid (between_any (flAt flow j a) 0 (lget rooms a - colS flow a j) wr)
            with_reducible refine Calls.mono CC.out ?_
            rintro e wz ⟨rfl, hwz⟩
            obtain rfl := hwz
            clear CC
            cases hin : inB (flAt flow j a) 0 (lget rooms a - colS flow a j)
            · have Hno : Hid (flowB F rooms needs S flow = false) := Hbad.out (fun h => by
                have : inB (flAt flow j a) 0 (lget rooms a - colS flow a j) = true := inB_iff.2 ⟨h.1, by omega⟩
                rw [hin] at this; cases this)
              clear hin
              go_wp2_with fail
              go_ret
              exact ⟨ret_bool Hno.out.symm, hkw.trans hkr⟩
            · obtain ⟨x1, x2⟩ := inB_iff.1 hin
              have x3 : flAt flow j a ≤ lget needs j - sumTo (flAt flow j) a := by omega
              have x4 : flAt flow j a ≤ lget rooms a - colS flow a j := by omega
              clear hin
              by_cases hp : 0 < flAt flow j a
              · go_wp2_with fail
                have CC := Lib.hid (has_any (bagN S) a wr (by omega) (by omega))
                with_reducible refine Calls.mono CC.out ?_
                rintro e wz ⟨rfl, hwz⟩
                obtain rfl := hwz
                rw [Hhb.out]
                clear CC
                cases hh : flHas S a
                · have Hno : Hid (flowB F rooms needs S flow = false) := Hbad.out (fun h => by
                    have := h.2.2.2 hp
                    rw [hh] at this; cases this)
                  clear hh
                  go_wp2_with fail
                  go_ret
                  exact ⟨ret_bool Hno.out.symm, hkw.trans hkr⟩
                · have Hn := Lib.hid (Hnx.out x1 x3 x4 (fun _ => hh))
                  clear hh
                  go_wp2_with fail
                  go_roundw
                  case rel => exact ⟨a + 1, by omega, by go_num, by rw [Hss.out]; go_num, Hn.out, Hs1.out, Hk2.out⟩
                  case measure => simp [intOf]; omega
              · have Hn := Lib.hid (Hnx.out x1 x3 x4 (fun h => absurd h hp))
                go_wp2_with fail
                go_roundw
                case rel => exact ⟨a + 1, by omega, by go_num, by rw [Hss.out]; go_num, Hn.out, Hs1.out, Hk2.out⟩
                case measure => simp [intOf]; omega
          · go_wp2_with fail
            have CC := Lib.hid (between_any (flAt flow j a) 0 (lget needs j - sumTo (flAt flow j) a) wr)
            with_reducible refine Calls.mono CC.out ?_
            rintro e wz ⟨rfl, hwz⟩
            obtain rfl := hwz
            clear CC
            cases hin : inB (flAt flow j a) 0 (lget needs j - sumTo (flAt flow j) a)
            · have Hno : Hid (flowB F rooms needs S flow = false) := Hbad.out (fun h => by
                have : inB (flAt flow j a) 0 (lget needs j - sumTo (flAt flow j) a) = true := inB_iff.2 ⟨h.1, by omega⟩
                rw [hin] at this; cases this)
              clear hin
              go_wp2_with fail
              go_ret
              exact ⟨ret_bool Hno.out.symm, hkw.trans hkr⟩
            · obtain ⟨x1, x2⟩ := inB_iff.1 hin
              have x3 : flAt flow j a ≤ lget needs j - sumTo (flAt flow j) a := by omega
              have x4 : flAt flow j a ≤ lget rooms a - colS flow a j := by omega
              clear hin
              by_cases hp : 0 < flAt flow j a
              · go_wp2_with fail
                have CC := Lib.hid (has_any (bagN S) a wr (by omega) (by omega))
                with_reducible refine Calls.mono CC.out ?_
                rintro e wz ⟨rfl, hwz⟩
                obtain rfl := hwz
                rw [Hhb.out]
                clear CC
                cases hh : flHas S a
                · have Hno : Hid (flowB F rooms needs S flow = false) := Hbad.out (fun h => by
                    have := h.2.2.2 hp
                    rw [hh] at this; cases this)
                  clear hh
                  go_wp2_with fail
                  go_ret
                  exact ⟨ret_bool Hno.out.symm, hkw.trans hkr⟩
                · have Hn := Lib.hid (Hnx.out x1 x3 x4 (fun _ => hh))
                  clear hh
                  go_wp2_with fail
                  go_roundw
                  case rel => exact ⟨a + 1, by omega, by go_num, by rw [Hss.out]; go_num, Hn.out, Hs1.out, Hk2.out⟩
                  case measure => simp [intOf]; omega
              · have Hn := Lib.hid (Hnx.out x1 x3 x4 (fun h => absurd h hp))
                go_wp2_with fail
                go_roundw
                case rel => exact ⟨a + 1, by omega, by go_num, by rw [Hss.out]; go_num, Hn.out, Hs1.out, Hk2.out⟩
                case measure => simp [intOf]; omega
        · obtain rfl : a = F.op.length := by omega
          have hend : ¬ F.op.length < flow[j].length := by rw [Hrl.out]; omega
          by_cases hz : sumTo (flAt flow j) F.op.length = lget needs j
          · have Hn := Lib.hid (Hs2.out.row (by rw [e1.out]; exact Hrl.out) hz (fun a => (HN5.out a).1))
            have hz2 : ((lget needs j - sumTo (flAt flow j) F.op.length) != 0) = false := by simp; omega
            rw [leftL_end] at hown
            clear hz
            go_wp2_with fail
            go_roundw
            case rel => exact ⟨j + 1, by omega, by go_num, Hn.out, hown, hkr⟩
            case measure => simp [intOf]; omega
          · have Hno : Hid (flowB F rooms needs S flow = false) := flSt.short lx hz
            have hz2 : ((lget needs j - sumTo (flAt flow j) F.op.length) != 0) = true := by simp; omega
            clear hz
            go_wp2_with fail
            go_ret
            exact ⟨ret_bool Hno.out.symm, hkw.trans hkr⟩
    · have Hyes : Hid (flowB F rooms needs S flow = true) := Hst.out.done (by rw [Hm.out]; omega) (by rw [Hm.out, Hmd.out]; exact Hd2.out)
      go_wp2_with fail
      go_ret
      exact ⟨ret_bool Hyes.out.symm, hkw.trans hkr⟩
end Go.Proofs.Yteaeedeaoddpcaa
