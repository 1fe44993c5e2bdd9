/- IsFlowProof: the yield; reference and program. No condition. -/
import Derived.Test.YteaeedeaoddpcaaPrice3
namespace Go.Proofs.Yteaeedeaoddpcaa
open Go.RowKit Go.Sort

def yP (xs ys : List Int) (k : Nat) : Int := sumTo (fun j => lget xs j * lget ys j) k
def yieldF (rooms needs us ws : List Int) : Int := yP needs us needs.length - yP rooms ws rooms.length
theorem yP_succ (xs ys : List Int) (k : Nat) : yP xs ys (k + 1) = yP xs ys k + lget xs k * lget ys k := sumTo_succ _ _
theorem mul_bd {x y : Int} (h0 : 0 ≤ x) (h1 : x ≤ 20) (h2 : -999 ≤ y) (h3 : y ≤ 999) : -19980 ≤ x * y ∧ x * y ≤ 19980 := by
  have a1 := Int.mul_le_mul_of_nonneg_left h3 h0
  have a2 := Int.mul_le_mul_of_nonneg_left h2 h0
  omega
theorem yP_bd {xs ys : List Int} (h : ∀ i, 0 ≤ lget xs i ∧ lget xs i ≤ 20) (h2 : ∀ i, -999 ≤ lget ys i ∧ lget ys i ≤ 999) : ∀ k : Nat, -((k : Int) * 19980) ≤ yP xs ys k ∧ yP xs ys k ≤ (k : Int) * 19980
  | 0 => by simp [yP, sumTo_zero]
  | k + 1 => by
    have h3 := yP_bd h h2 k
    obtain ⟨a1, a2⟩ := h k
    obtain ⟨a3, a4⟩ := h2 k
    have h4 := mul_bd a1 a2 a3 a4
    rw [yP_succ]; omega
theorem lget_sall {xs : List Int} (h : ∀ x ∈ xs, -999 ≤ x ∧ x ≤ 999) (i : Nat) : -999 ≤ lget xs i ∧ lget xs i ≤ 999 := by
  by_cases hi : i < xs.length
  · rw [lget_at hi]; exact h _ (List.getElem_mem hi)
  · have : lget xs i = 0 := by unfold lget; rw [List.getD_eq_getElem?_getD, List.getElem?_eq_none (by omega)]; rfl
    rw [this]; omega
set_option maxRecDepth 100000 in
set_option maxHeartbeats 2000000 in
theorem l7Yield_any (A1 : Option Addr) (rooms : List Int) (n1 c1 : Nat) (A2 : Option Addr) (needs : List Int) (n2 c2 : Nat) (A4 : Option Addr) (us : List Int) (n4 c4 : Nat) (A5 : Option Addr) (ws : List Int) (n5 c5 : Nat) (w : World) (h1 : IntsAt w A1 rooms) (hn1 : rooms.length = n1) (h2 : IntsAt w A2 needs) (hn2 : needs.length = n2) (h4 : IntsAt w A4 us) (hn4 : us.length = n4) (h5 : IntsAt w A5 ws) (hn5 : ws.length = n5) (e1 : n4 = n2) (e2 : n5 = n1) (s1 : n1 ≤ 7) (s2 : n2 ≤ 7) (b1 : ∀ i, 0 ≤ lget rooms i ∧ lget rooms i ≤ 20) (b2 : ∀ i, 0 ≤ lget needs i ∧ lget needs i ≤ 5) (b3 : ∀ i, -999 ≤ lget us i ∧ lget us i ≤ 999) (b4 : ∀ i, -999 ≤ lget ws i ∧ lget ws i ≤ 999) :
    Calls Try.prog 58 #[.slice A1 n1 c1, .slice A2 n2 c2, .slice A4 n4 c4, .slice A5 n5 c5] w fun e w' => e = .returned (.int .i64 (yieldF rooms needs us ws)) ∧ Kp w w' := by
  have Hn1 := Lib.hid hn1; have Hn2 := Lib.hid hn2; have Hn4 := Lib.hid hn4; have Hn5 := Lib.hid hn5
  have B1 := Lib.hid b1; have B2 := Lib.hid b2; have B3 := Lib.hid b3; have B4 := Lib.hid b4
  have Q1 := Lib.hid (yP_bd (xs := needs) (ys := us) (fun i => by have := b2 i; omega) b3)
  have Q2 := Lib.hid (yP_bd (xs := rooms) (ys := ws) b1 b4)
  have HY : Hid (yieldF rooms needs us ws = yP needs us n2 - yP rooms ws n1) := by show _ = _; rw [yieldF, hn1, hn2]
  subst e1 e2
  clear hn1 hn2 hn4 hn5 b1 b2 b3 b4
  go_enter Try.func58, Try.ntmps58
  go_wp2_with fail
  go_loopw [9, 10] (fun sv iv wr => ∃ j : Nat, j ≤ n4 ∧ iv = .int .i64 j ∧ sv = .int .i64 (yP needs us j) ∧ Kp w wr) (fun _ iv _ => n4 - (intOf iv).toNat)
  case atStart => exact ⟨0, by omega, rfl, rfl, Kp.refl _⟩
  case round =>
    obtain ⟨j, hj, rfl, rfl, hkb⟩ := hrel
    obtain ⟨p1, p2⟩ := Q1.out j
    by_cases hlj : j < n4
    · have l2 : j < needs.length := by rw [Hn2.out]; exact hlj
      have l4 : j < us.length := by rw [Hn4.out]; exact hlj
      obtain ⟨nd, rfl, hnc⟩ := h2.at_ l2
      obtain ⟨ud, rfl, huc⟩ := h4.at_ l4
      rw [← lget_at l2] at hnc
      rw [← lget_at l4] at huc
      obtain ⟨x1, x2⟩ := B2.out j
      obtain ⟨x3, x4⟩ := B3.out j
      obtain ⟨x5, x6⟩ := mul_bd x1 (by omega) x3 x4
      have Hs := Lib.hid (yP_succ needs us j)
      have q0 := hkb.get hnc
      have q1 := hkb.get huc
      generalize yP needs us j = y at *
      go_wp2_with fail
      go_quiet (fail)
      go_wp2_with fail
      go_roundw
      case rel => exact ⟨j + 1, by omega, by go_num, by rw [Hs.out], hkb.drewN _⟩
      case measure => simp [intOf]; omega
    · obtain rfl : j = n4 := by omega
      go_wp2_with fail
      go_loopw [9, 11] (fun sv iv wr => ∃ a : Nat, a ≤ n5 ∧ iv = .int .i64 a ∧ sv = .int .i64 (yP needs us j - yP rooms ws a) ∧ Kp w wr) (fun _ iv _ => n5 - (intOf iv).toNat)
      case atStart => exact ⟨0, by omega, rfl, by rw [show yP rooms ws 0 = 0 from rfl]; go_num, hkb⟩
      case round =>
        clear hkb
        obtain ⟨a, ha, rfl, rfl, hkb⟩ := hrel
        obtain ⟨p3, p4⟩ := Q2.out a
        by_cases hla : a < n5
        · have l1 : a < rooms.length := by rw [Hn1.out]; exact hla
          have l5 : a < ws.length := by rw [Hn5.out]; exact hla
          obtain ⟨rd, rfl, hrc⟩ := h1.at_ l1
          obtain ⟨wd, rfl, hwc⟩ := h5.at_ l5
          rw [← lget_at l1] at hrc
          rw [← lget_at l5] at hwc
          obtain ⟨x1, x2⟩ := B1.out a
          obtain ⟨x3, x4⟩ := B4.out a
          obtain ⟨x5, x6⟩ := mul_bd x1 x2 x3 x4
          have Hs := Lib.hid (yP_succ rooms ws a)
          have q0 := hkb.get hrc
          have q1 := hkb.get hwc
          go_wp2_with fail
          go_quiet (fail)
          go_wp2_with fail
          go_roundw
          case rel => exact ⟨a + 1, by omega, by go_num, by rw [Hs.out]; go_num, hkb.drewN _⟩
          case measure => simp [intOf]; omega
        · obtain rfl : a = n5 := by omega
          go_wp2_with fail
          go_ret
          exact ⟨ret_int HY.out.symm, hkb⟩
set_option maxRecDepth 100000 in
set_option maxHeartbeats 2000000 in
theorem yield_any (A1 : Option Addr) (rooms : List Int) (n1 c1 : Nat) (A2 : Option Addr) (needs : List Int) (n2 c2 : Nat) (A4 : Option Addr) (us : List Int) (n4 c4 : Nat) (A5 : Option Addr) (ws : List Int) (n5 c5 : Nat) (w : World) (h1 : IntsAt w A1 rooms) (hn1 : rooms.length = n1) (h2 : IntsAt w A2 needs) (hn2 : needs.length = n2) (h4 : IntsAt w A4 us) (hn4 : us.length = n4) (h5 : IntsAt w A5 ws) (hn5 : ws.length = n5) (e1 : n4 = n2) (e2 : n5 = n1) (s1 : n1 ≤ 7) (s2 : n2 ≤ 7) (b1 : ∀ i, 0 ≤ lget rooms i ∧ lget rooms i ≤ 20) (b2 : ∀ i, 0 ≤ lget needs i ∧ lget needs i ≤ 5) (b3 : ∀ i, -999 ≤ lget us i ∧ lget us i ≤ 999) (b4 : ∀ i, -999 ≤ lget ws i ∧ lget ws i ≤ 999) :
    Calls Try.prog 40 #[.slice A1 n1 c1, .slice A2 n2 c2, .slice A4 n4 c4, .slice A5 n5 c5] w fun e w' => e = .returned (.int .i64 (yieldF rooms needs us ws)) ∧ Kp w w' := by
  have Hn1 := Lib.hid hn1; have Hn2 := Lib.hid hn2; have Hn4 := Lib.hid hn4; have Hn5 := Lib.hid hn5
  have B1 := Lib.hid b1; have B2 := Lib.hid b2; have B3 := Lib.hid b3; have B4 := Lib.hid b4
  have Q1 := Lib.hid (yP_bd (xs := needs) (ys := us) (fun i => by have := b2 i; omega) b3)
  have Q2 := Lib.hid (yP_bd (xs := rooms) (ys := ws) b1 b4)
  have HY : Hid (yieldF rooms needs us ws = yP needs us n2 - yP rooms ws n1) := by show _ = _; rw [yieldF, hn1, hn2]
  subst e1 e2
  clear hn1 hn2 hn4 hn5 b1 b2 b3 b4
  go_enter Try.func40, Try.ntmps40
  go_wp2_with fail
  go_loopw [9, 16] (fun sv iv wr => ∃ j : Nat, j ≤ n4 ∧ iv = .int .i64 j ∧ sv = .int .i64 (yP needs us j) ∧ Kp w wr) (fun _ iv _ => n4 - (intOf iv).toNat)
  case atStart => exact ⟨0, by omega, rfl, rfl, Kp.refl _⟩
  case round =>
    obtain ⟨j, hj, rfl, rfl, hkb⟩ := hrel
    obtain ⟨p1, p2⟩ := Q1.out j
    by_cases hlj : j < n4
    · have l2 : j < needs.length := by rw [Hn2.out]; exact hlj
      have l4 : j < us.length := by rw [Hn4.out]; exact hlj
      obtain ⟨nd, rfl, hnc⟩ := h2.at_ l2
      obtain ⟨ud, rfl, huc⟩ := h4.at_ l4
      rw [← lget_at l2] at hnc
      rw [← lget_at l4] at huc
      obtain ⟨x1, x2⟩ := B2.out j
      obtain ⟨x3, x4⟩ := B3.out j
      obtain ⟨x5, x6⟩ := mul_bd x1 (by omega) x3 x4
      have Hs := Lib.hid (yP_succ needs us j)
      have q0 := hkb.get hnc
      have q1 := hkb.get huc
      generalize yP needs us j = y at *
      go_wp2_with fail
      go_roundw
      case rel => exact ⟨j + 1, by omega, by go_num, by rw [Hs.out], hkb⟩
      case measure => simp [intOf]; omega
    · obtain rfl : j = n4 := by omega
      go_wp2_with fail
      go_loopw [9, 32] (fun sv iv wr => ∃ a : Nat, a ≤ n5 ∧ iv = .int .i64 a ∧ sv = .int .i64 (yP needs us j - yP rooms ws a) ∧ Kp w wr) (fun _ iv _ => n5 - (intOf iv).toNat)
      case atStart => exact ⟨0, by omega, rfl, by rw [show yP rooms ws 0 = 0 from rfl]; go_num, hkb⟩
      case round =>
        clear hkb
        obtain ⟨a, ha, rfl, rfl, hkb⟩ := hrel
        obtain ⟨p3, p4⟩ := Q2.out a
        by_cases hla : a < n5
        · have l1 : a < rooms.length := by rw [Hn1.out]; exact hla
          have l5 : a < ws.length := by rw [Hn5.out]; exact hla
          obtain ⟨rd, rfl, hrc⟩ := h1.at_ l1
          obtain ⟨wd, rfl, hwc⟩ := h5.at_ l5
          rw [← lget_at l1] at hrc
          rw [← lget_at l5] at hwc
          obtain ⟨x1, x2⟩ := B1.out a
          obtain ⟨x3, x4⟩ := B4.out a
          obtain ⟨x5, x6⟩ := mul_bd x1 x2 x3 x4
          have Hs := Lib.hid (yP_succ rooms ws a)
          have q0 := hkb.get hrc
          have q1 := hkb.get hwc
          go_wp2_with fail
          go_roundw
          case rel => exact ⟨a + 1, by omega, by go_num, by rw [Hs.out]; go_num, hkb⟩
          case measure => simp [intOf]; omega
        · obtain rfl : a = n5 := by omega
          go_wp2_with fail
          go_ret
          exact ⟨ret_int HY.out.symm, hkb⟩
/-- What FlowYield answers. -/
def fyIn (F : Fld) (rooms needs S us ws : List Int) : Bool := haulB F rooms needs S && prB F S us ws
def fyV (F : Fld) (rooms needs S us ws : List Int) : Int := if fyIn F rooms needs S us ws = true then yieldF rooms needs us ws else 0
theorem fy_no {F : Fld} {rooms needs S us ws : List Int} (h : fyIn F rooms needs S us ws = false) : Ending.returned (.tuple #[.int .i64 0, .bool false]) = .returned (.tuple #[.int .i64 (fyV F rooms needs S us ws), .bool (fyIn F rooms needs S us ws)]) := by simp [fyV, h]
theorem fy_yes {F : Fld} {rooms needs S us ws : List Int} (h : fyIn F rooms needs S us ws = true) : Ending.returned (.tuple #[.int .i64 (yieldF rooms needs us ws), .bool true]) = .returned (.tuple #[.int .i64 (fyV F rooms needs S us ws), .bool (fyIn F rooms needs S us ws)]) := by simp [fyV, h]
structure FyP (F : Fld) (rooms needs us ws : List Int) (n1 n2 n4 n5 : Nat) : Prop where
  e1 : n4 = n2
  e2 : n5 = n1
  s1 : n1 ≤ 7
  s2 : n2 ≤ 7
  b1 : ∀ i, 0 ≤ lget rooms i ∧ lget rooms i ≤ 20
  b2 : ∀ i, 0 ≤ lget needs i ∧ lget needs i ≤ 5
  b3 : ∀ i, -999 ≤ lget us i ∧ lget us i ≤ 999
  b4 : ∀ i, -999 ≤ lget ws i ∧ lget ws i ≤ 999
theorem fy_parts {F : Fld} {rooms needs S us ws : List Int} {n1 n2 n4 n5 : Nat} (h : haulB F rooms needs S = true) (h2 : prB F S us ws = true) (hn1 : rooms.length = n1) (hn2 : needs.length = n2) (hn4 : us.length = n4) (hn5 : ws.length = n5) : FyP F rooms needs us ws n1 n2 n4 n5 := by
  obtain ⟨h3, h4, h5⟩ := haulB_iff.1 h
  obtain ⟨p1, p2, p3, p4⟩ := prB_iff.1 h2
  have g := goodF_iff.1 (openedB_parts h3).1
  refine ⟨by rw [← hn4, ← hn2, p1, h5.2], by rw [← hn5, ← hn1, p2.2, h4.2], by rw [← hn1, h4.2]; exact g.1.2, by rw [← hn2, h5.2]; exact g.2.2.1, lget_all (by omega) h4.1, lget_all (by omega) h5.1, lget_sall fun x hx => ?_, lget_sall fun x hx => ?_⟩
  · obtain ⟨i, hi, rfl⟩ := List.mem_iff_getElem.1 hx
    have := (p4 i hi).1
    rwa [lget_at hi] at this
  · have := p2.1 x hx; omega
def ipIn (F : Fld) (rooms needs S : List Int) (flow : List (List Int)) (us ws : List Int) : Bool := fcIn F rooms needs S flow && prB F S us ws
def ipR (F : Fld) (rooms needs S : List Int) (flow : List (List Int)) (us ws : List Int) : Bool := ipIn F rooms needs S flow us ws && decide (costFl F flow F.di.length = yieldF rooms needs us ws)
theorem ip_no {F : Fld} {rooms needs S : List Int} {flow : List (List Int)} {us ws : List Int} (h : ipIn F rooms needs S flow us ws = false) : Ending.returned (.tuple #[.bool false, .bool false]) = .returned (.tuple #[.bool (ipR F rooms needs S flow us ws), .bool (ipIn F rooms needs S flow us ws)]) := by simp [ipR, h]
theorem ip_yes {F : Fld} {rooms needs S : List Int} {flow : List (List Int)} {us ws : List Int} {b : Bool} (h : ipIn F rooms needs S flow us ws = true) (hb : b = decide (costFl F flow F.di.length = yieldF rooms needs us ws)) : Ending.returned (.tuple #[.bool b, .bool true]) = .returned (.tuple #[.bool (ipR F rooms needs S flow us ws), .bool (ipIn F rooms needs S flow us ws)]) := by simp [ipR, h, hb]
set_option maxRecDepth 100000 in
set_option maxHeartbeats 400000 in
theorem specFy_any (f : Value) (F : Fld) (A1 : Option Addr) (rooms : List Int) (n1 c1 : Nat) (A2 : Option Addr) (needs : List Int) (n2 c2 : Nat) (A3 : Option Addr) (S : List Int) (n3 c3 : Nat) (A4 : Option Addr) (us : List Int) (n4 c4 : Nat) (A5 : Option Addr) (ws : List Int) (n5 c5 : Nat) (w : World) (hf : FldAt w f F) (h1 : IntsAt w A1 rooms) (hn1 : rooms.length = n1) (h2 : IntsAt w A2 needs) (hn2 : needs.length = n2) (h3 : IntsAt w A3 S) (hn3 : S.length = n3) (h4 : IntsAt w A4 us) (hn4 : us.length = n4) (h5 : IntsAt w A5 ws) (hn5 : ws.length = n5) :
    Calls Try.prog 38 #[f, .slice A1 n1 c1, .slice A2 n2 c2, .slice A3 n3 c3, .slice A4 n4 c4, .slice A5 n5 c5] w fun e w' => e = .returned (.tuple #[.int .i64 (fyV F rooms needs S us ws), .bool (fyIn F rooms needs S us ws)]) ∧ Kp w w' := by
  obtain ⟨A, c, B, d, rfl, hA, hB⟩ := hf
  have hk0 : Kp w (w.alloc (.cells #[.slice A F.op.length c, .slice B F.di.length d] 30)) := (Kp.refl w).alloc _
  obtain ⟨d0, d1⟩ := box2 w (.slice A F.op.length c) (.slice B F.di.length d) 30
  have hFA := FldAt.kp (show FldAt w (.agg #[.slice A F.op.length c, .slice B F.di.length d]) F from ⟨A, c, B, d, rfl, hA, hB⟩) hk0
  replace h1 := h1.kp hk0
  replace h2 := h2.kp hk0
  replace h3 := h3.kp hk0
  replace h4 := h4.kp hk0
  replace h5 := h5.kp hk0
  have Hn1 := Lib.hid hn1; have Hn2 := Lib.hid hn2; have Hn3 := Lib.hid hn3; have Hn4 := Lib.hid hn4; have Hn5 := Lib.hid hn5
  clear hA hB hn1 hn2 hn3 hn4 hn5
  go_enter Try.func38, Try.ntmps38
  go_wp2_with fail
  have hsz : Hid ((w.alloc (.cells #[.slice A F.op.length c, .slice B F.di.length d] 30)).heap.size = w.heap.size + 1) := by show _ = _; simp
  generalize w.alloc (.cells #[.slice A F.op.length c, .slice B F.di.length d] 30) = wb at *
  have hkb : Kp wb wb := Kp.refl _
  have hkw := hk0
  have q_d0 := hkb.get d0
  have q_d1 := hkb.get d1
  go_wp2_with fail
  have CC := Lib.hid (l7Given_any _ F A1 rooms n1 c1 A2 needs n2 c2 A3 S n3 c3 _ (hFA.kp hkb) (h1.kp hkb) Hn1.out (h2.kp hkb) Hn2.out (h3.kp hkb) Hn3.out)
  with_reducible refine Calls.mono CC.out ?_
  rintro e w1 ⟨rfl, hk1⟩
  clear CC q_d0 q_d1
  replace hkb := hkb.trans hk1
  cases hg_ : haulB F rooms needs S
  · have Hno : Hid (fyIn F rooms needs S us ws = false) := by show _ = _; rw [fyIn, hg_]; rfl
    clear hg_
    have q_d0 := hkb.get d0
    have q_d1 := hkb.get d1
    go_wp2_with fail
    go_ret2
    exact ⟨fy_no Hno.out, hkw.trans hkb⟩
  have HH := Lib.hid hg_
  clear hg_
  have q_d0 := hkb.get d0
  have q_d1 := hkb.get d1
  go_wp2_with fail
  have CC := Lib.hid (l7Prices_any _ F A3 S n3 c3 A4 us n4 c4 A5 ws n5 c5 _ (hFA.kp hkb) (h3.kp hkb) Hn3.out (h4.kp hkb) Hn4.out (h5.kp hkb) Hn5.out (haulB_iff.1 HH.out).1)
  with_reducible refine Calls.mono CC.out ?_
  rintro e w2 ⟨rfl, hk2⟩
  clear CC q_d0 q_d1
  replace hkb := hkb.trans hk2
  cases hg_ : prB F S us ws
  · have Hno : Hid (fyIn F rooms needs S us ws = false) := by show _ = _; rw [fyIn, hg_, Bool.and_false]
    clear hg_
    have q_d0 := hkb.get d0
    have q_d1 := hkb.get d1
    go_wp2_with fail
    go_ret2
    exact ⟨fy_no Hno.out, hkw.trans hkb⟩
  have HP := Lib.hid (fy_parts HH.out hg_ Hn1.out Hn2.out Hn4.out Hn5.out)
  have Hy : Hid (fyIn F rooms needs S us ws = true) := by show _ = _; rw [fyIn, hg_, HH.out]; rfl
  clear hg_
  have q_d0 := hkb.get d0
  have q_d1 := hkb.get d1
  go_wp2_with fail
  have CC := Lib.hid (l7Yield_any A1 rooms n1 c1 A2 needs n2 c2 A4 us n4 c4 A5 ws n5 c5 _ (h1.kp hkb) Hn1.out (h2.kp hkb) Hn2.out (h4.kp hkb) Hn4.out (h5.kp hkb) Hn5.out HP.out.e1 HP.out.e2 HP.out.s1 HP.out.s2 HP.out.b1 HP.out.b2 HP.out.b3 HP.out.b4)
  with_reducible refine Calls.mono CC.out ?_
  rintro e w3 ⟨rfl, hk3⟩
  clear CC q_d0 q_d1
  replace hkb := hkb.trans hk3
  have q_d0 := hkb.get d0
  have q_d1 := hkb.get d1
  go_wp2_with fail
  go_ret2
  exact ⟨fy_yes Hy.out, hkw.trans hkb⟩
theorem fc_off {F : Fld} {rooms needs S : List Int} {flow : List (List Int)} {us ws : List Int} (h : fcIn F rooms needs S flow = false) : ipIn F rooms needs S flow us ws = false := by rw [ipIn, h]; rfl
theorem fy_ip {F : Fld} {rooms needs S : List Int} {flow : List (List Int)} {us ws : List Int} (h : fcIn F rooms needs S flow = true) : ipIn F rooms needs S flow us ws = fyIn F rooms needs S us ws := by rw [ipIn, h, fyIn, (fc_parts h).1]
theorem fc_val {F : Fld} {rooms needs S : List Int} {flow : List (List Int)} (h : fcIn F rooms needs S flow = true) : fcV F rooms needs S flow = costFl F flow F.di.length := if_pos h
theorem fy_val {F : Fld} {rooms needs S us ws : List Int} (h : fyIn F rooms needs S us ws = true) : fyV F rooms needs S us ws = yieldF rooms needs us ws := if_pos h
set_option maxRecDepth 100000 in
set_option maxHeartbeats 400000 in
theorem specIp_any (f : Value) (F : Fld) (A1 : Option Addr) (rooms : List Int) (n1 c1 : Nat) (A2 : Option Addr) (needs : List Int) (n2 c2 : Nat) (A3 : Option Addr) (S : List Int) (n3 c3 : Nat) (P0 : Option Addr) (flow : List (List Int)) (m cm : Nat) (A4 : Option Addr) (us : List Int) (n4 c4 : Nat) (A5 : Option Addr) (ws : List Int) (n5 c5 : Nat) (w : World) (hf : FldAt w f F) (h1 : IntsAt w A1 rooms) (hn1 : rooms.length = n1) (h2 : IntsAt w A2 needs) (hn2 : needs.length = n2) (h3 : IntsAt w A3 S) (hn3 : S.length = n3) (hP : GridAt w P0 flow) (hm : flow.length = m) (h4 : IntsAt w A4 us) (hn4 : us.length = n4) (h5 : IntsAt w A5 ws) (hn5 : ws.length = n5) :
    Calls Try.prog 19 #[f, .slice A1 n1 c1, .slice A2 n2 c2, .slice A3 n3 c3, .slice P0 m cm, .slice A4 n4 c4, .slice A5 n5 c5] w fun e w' => e = .returned (.tuple #[.bool (ipR F rooms needs S flow us ws), .bool (ipIn F rooms needs S flow us ws)]) ∧ Kp w w' := by
  obtain ⟨A, c, B, d, rfl, hA, hB⟩ := hf
  have hk0 : Kp w (w.alloc (.cells #[.slice A F.op.length c, .slice B F.di.length d] 30)) := (Kp.refl w).alloc _
  obtain ⟨d0, d1⟩ := box2 w (.slice A F.op.length c) (.slice B F.di.length d) 30
  have hFA := FldAt.kp (show FldAt w (.agg #[.slice A F.op.length c, .slice B F.di.length d]) F from ⟨A, c, B, d, rfl, hA, hB⟩) hk0
  replace h1 := h1.kp hk0
  replace h2 := h2.kp hk0
  replace h3 := h3.kp hk0
  replace h4 := h4.kp hk0
  replace h5 := h5.kp hk0
  replace hP := hP.kp hk0
  have Hn1 := Lib.hid hn1; have Hn2 := Lib.hid hn2; have Hn3 := Lib.hid hn3; have Hm := Lib.hid hm; have Hn4 := Lib.hid hn4; have Hn5 := Lib.hid hn5
  clear hA hB hn1 hn2 hn3 hm hn4 hn5
  go_enter Try.func19, Try.ntmps19
  go_wp2_with fail
  have hsz : Hid ((w.alloc (.cells #[.slice A F.op.length c, .slice B F.di.length d] 30)).heap.size = w.heap.size + 1) := by show _ = _; simp
  generalize w.alloc (.cells #[.slice A F.op.length c, .slice B F.di.length d] 30) = wb at *
  have hkb : Kp wb wb := Kp.refl _
  have hkw := hk0
  have q_d0 := hkb.get d0
  have q_d1 := hkb.get d1
  go_wp2_with fail
  have CC := Lib.hid (specFc_any _ F A1 rooms n1 c1 A2 needs n2 c2 A3 S n3 c3 P0 flow m cm _ (hFA.kp hkb) (h1.kp hkb) Hn1.out (h2.kp hkb) Hn2.out (h3.kp hkb) Hn3.out (hP.kp hkb) Hm.out)
  with_reducible refine Calls.mono CC.out ?_
  rintro e w1 ⟨rfl, hk1⟩
  clear CC q_d0 q_d1
  replace hkb := hkb.trans hk1
  have q_d0 := hkb.get d0
  have q_d1 := hkb.get d1
  go_wp2_with fail
  have CC := Lib.hid (specFy_any _ F A1 rooms n1 c1 A2 needs n2 c2 A3 S n3 c3 A4 us n4 c4 A5 ws n5 c5 _ (hFA.kp hkb) (h1.kp hkb) Hn1.out (h2.kp hkb) Hn2.out (h3.kp hkb) Hn3.out (h4.kp hkb) Hn4.out (h5.kp hkb) Hn5.out)
  with_reducible refine Calls.mono CC.out ?_
  rintro e w2 ⟨rfl, hk2⟩
  clear CC q_d0 q_d1
  replace hkb := hkb.trans hk2
  cases hg_ : fcIn F rooms needs S flow
  · have Hno := Lib.hid (fc_off (us := us) (ws := ws) hg_)
    clear hg_
    have q_d0 := hkb.get d0
    have q_d1 := hkb.get d1
    go_wp2_with fail
    go_ret2
    exact ⟨ip_no Hno.out, hkw.trans hkb⟩
  have HE := Lib.hid (fy_ip (us := us) (ws := ws) hg_)
  have HV := Lib.hid (fc_val hg_)
  clear hg_
  cases hg_ : fyIn F rooms needs S us ws
  · have Hno : Hid (ipIn F rooms needs S flow us ws = false) := by show _ = _; rw [HE.out, hg_]
    clear hg_
    have q_d0 := hkb.get d0
    have q_d1 := hkb.get d1
    go_wp2_with fail
    go_ret2
    exact ⟨ip_no Hno.out, hkw.trans hkb⟩
  have Hy : Hid (ipIn F rooms needs S flow us ws = true) := by show _ = _; rw [HE.out, hg_]
  have HW := Lib.hid (fy_val hg_)
  clear hg_
  rw [HV.out, HW.out]
  have q_d0 := hkb.get d0
  have q_d1 := hkb.get d1
  go_wp2_with fail
  go_ret2
  exact ⟨ip_yes Hy.out rfl, hkw.trans hkb⟩
set_option maxRecDepth 100000 in
set_option maxHeartbeats 400000 in
theorem implIp_any (f : Value) (F : Fld) (A1 : Option Addr) (rooms : List Int) (n1 c1 : Nat) (A2 : Option Addr) (needs : List Int) (n2 c2 : Nat) (A3 : Option Addr) (S : List Int) (n3 c3 : Nat) (P0 : Option Addr) (flow : List (List Int)) (m cm : Nat) (A4 : Option Addr) (us : List Int) (n4 c4 : Nat) (A5 : Option Addr) (ws : List Int) (n5 c5 : Nat) (w : World) (hf : FldAt w f F) (h1 : IntsAt w A1 rooms) (hn1 : rooms.length = n1) (h2 : IntsAt w A2 needs) (hn2 : needs.length = n2) (h3 : IntsAt w A3 S) (hn3 : S.length = n3) (hP : GridAt w P0 flow) (hm : flow.length = m) (h4 : IntsAt w A4 us) (hn4 : us.length = n4) (h5 : IntsAt w A5 ws) (hn5 : ws.length = n5) :
    Calls Try.prog 20 #[f, .slice A1 n1 c1, .slice A2 n2 c2, .slice A3 n3 c3, .slice P0 m cm, .slice A4 n4 c4, .slice A5 n5 c5] w fun e w' => e = .returned (.tuple #[.bool (ipR F rooms needs S flow us ws), .bool (ipIn F rooms needs S flow us ws)]) ∧ Kp w w' := by
  obtain ⟨A, c, B, d, rfl, hA, hB⟩ := hf
  have hk0 : Kp w (w.alloc (.cells #[.slice A F.op.length c, .slice B F.di.length d] 30)) := (Kp.refl w).alloc _
  obtain ⟨d0, d1⟩ := box2 w (.slice A F.op.length c) (.slice B F.di.length d) 30
  have hFA := FldAt.kp (show FldAt w (.agg #[.slice A F.op.length c, .slice B F.di.length d]) F from ⟨A, c, B, d, rfl, hA, hB⟩) hk0
  replace h1 := h1.kp hk0
  replace h2 := h2.kp hk0
  replace h3 := h3.kp hk0
  replace h4 := h4.kp hk0
  replace h5 := h5.kp hk0
  replace hP := hP.kp hk0
  have Hn1 := Lib.hid hn1; have Hn2 := Lib.hid hn2; have Hn3 := Lib.hid hn3; have Hm := Lib.hid hm; have Hn4 := Lib.hid hn4; have Hn5 := Lib.hid hn5
  clear hA hB hn1 hn2 hn3 hm hn4 hn5
  go_enter Try.func20, Try.ntmps20
  go_wp2_with fail
  have hsz : Hid ((w.alloc (.cells #[.slice A F.op.length c, .slice B F.di.length d] 30)).heap.size = w.heap.size + 1) := by show _ = _; simp
  generalize w.alloc (.cells #[.slice A F.op.length c, .slice B F.di.length d] 30) = wb at *
  have hkb : Kp wb wb := Kp.refl _
  have hkw := hk0
  have q_d0 := hkb.get d0
  have q_d1 := hkb.get d1
  go_wp2_with fail
  have CC := Lib.hid (implFc_any _ F A1 rooms n1 c1 A2 needs n2 c2 A3 S n3 c3 P0 flow m cm _ (hFA.kp hkb) (h1.kp hkb) Hn1.out (h2.kp hkb) Hn2.out (h3.kp hkb) Hn3.out (hP.kp hkb) Hm.out)
  with_reducible refine Calls.mono CC.out ?_
  rintro e w1 ⟨rfl, hk1⟩
  clear CC q_d0 q_d1
  replace hkb := hkb.trans hk1
  cases hg_ : fcIn F rooms needs S flow
  · have Hno := Lib.hid (fc_off (us := us) (ws := ws) hg_)
    clear hg_
    have q_d0 := hkb.get d0
    have q_d1 := hkb.get d1
    go_wp2_with fail
    go_ret2
    exact ⟨ip_no Hno.out, hkw.trans hkb⟩
  have HH := Lib.hid (fc_parts hg_).1
  have HE : Hid (ipIn F rooms needs S flow us ws = prB F S us ws) := by show _ = _; rw [ipIn, hg_]; rfl
  have HV := Lib.hid (fc_val hg_)
  clear hg_
  rw [HV.out]
  have q_d0 := hkb.get d0
  have q_d1 := hkb.get d1
  go_wp2_with fail
  have CC := Lib.hid (areFlowPrices_any _ F A3 S n3 c3 A4 us n4 c4 A5 ws n5 c5 _ (hFA.kp hkb) (h3.kp hkb) Hn3.out (h4.kp hkb) Hn4.out (h5.kp hkb) Hn5.out (haulB_iff.1 HH.out).1)
  with_reducible refine Calls.mono CC.out ?_
  rintro e w2 ⟨rfl, hk2⟩
  clear CC q_d0 q_d1
  replace hkb := hkb.trans hk2
  cases hg_ : prB F S us ws
  · have Hno : Hid (ipIn F rooms needs S flow us ws = false) := by show _ = _; rw [HE.out, hg_]
    clear hg_
    have q_d0 := hkb.get d0
    have q_d1 := hkb.get d1
    go_wp2_with fail
    go_ret2
    exact ⟨ip_no Hno.out, hkw.trans hkb⟩
  have HP := Lib.hid (fy_parts HH.out hg_ Hn1.out Hn2.out Hn4.out Hn5.out)
  have Hy : Hid (ipIn F rooms needs S flow us ws = true) := by show _ = _; rw [HE.out, hg_]
  clear hg_
  have q_d0 := hkb.get d0
  have q_d1 := hkb.get d1
  go_wp2_with fail
  have CC := Lib.hid (yield_any A1 rooms n1 c1 A2 needs n2 c2 A4 us n4 c4 A5 ws n5 c5 _ (h1.kp hkb) Hn1.out (h2.kp hkb) Hn2.out (h4.kp hkb) Hn4.out (h5.kp hkb) Hn5.out HP.out.e1 HP.out.e2 HP.out.s1 HP.out.s2 HP.out.b1 HP.out.b2 HP.out.b3 HP.out.b4)
  with_reducible refine Calls.mono CC.out ?_
  rintro e w3 ⟨rfl, hk3⟩
  clear CC q_d0 q_d1
  replace hkb := hkb.trans hk3
  have q_d0 := hkb.get d0
  have q_d1 := hkb.get d1
  go_wp2_with fail
  go_ret2
  exact ⟨ip_yes Hy.out rfl, hkw.trans hkb⟩
end Go.Proofs.Yteaeedeaoddpcaa
