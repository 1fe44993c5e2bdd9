/- Seasons: sizes, copies and comparison. No condition. -/
import Derived.Test.YtjoebikljmkhfaaSea2
namespace Go.Proofs.Ytjoebikljmkhfaa
open Go.RowKit

def Sea.bulk (S : Sea) : Nat := S.op.length + S.cl.length + S.ke.length + S.ro.length + gridSum S.ro
theorem left1_left {n m : Nat} {l : Int} (h : (n : Int) ≤ l) : left1 m (l - n) = left1 (n + m) l := by
  unfold left1
  by_cases h2 : (m : Int) ≤ l - n
  · rw [if_pos h2, if_pos (by omega)]; omega
  · rw [if_neg h2, if_neg (by omega)]
theorem left1_neg {n m : Nat} {l : Int} (h : ¬ (n : Int) ≤ l) : left1 (n + m) l = -1 := by
  unfold left1; rw [if_neg (by omega)]
set_option maxHeartbeats 400000 in
theorem szSeason_any (f : Value) (S : Sea) (w : World) (hf : SeaAt w f S) :
    Calls Try.prog 4 #[f, .int .i64 1048576] w fun e w' => e = .returned (.int .i64 (left1 S.bulk 1048576)) ∧ Kp w w' := by
  obtain ⟨A, a, B, b, C, c, D, d, rfl, hA, hB, hC, hD⟩ := hf
  have hk0 : Kp w (w.alloc (.cells #[.slice A S.op.length a, .slice B S.cl.length b, .slice C S.ke.length c, .slice D S.ro.length d] 25)) := (Kp.refl w).alloc _
  obtain ⟨d0, d1, d2, d3⟩ := box4 w (.slice A S.op.length a) (.slice B S.cl.length b) (.slice C S.ke.length c) (.slice D S.ro.length d) 25
  have hSA := SeaAt.kp (show SeaAt w (.agg #[.slice A S.op.length a, .slice B S.cl.length b, .slice C S.ke.length c, .slice D S.ro.length d]) S from ⟨A, a, B, b, C, c, D, d, rfl, hA, hB, hC, hD⟩) hk0
  replace hA := hA.kp hk0
  replace hB := hB.kp hk0
  replace hC := hC.kp hk0
  replace hD := hD.kp hk0
  have hA1 := hA.1; have hB1 := hB.1; have hC1 := hC.1
  clear hA hB hC
  go_enter Try.func4, Try.ntmps4
  go_wp2_with fail
  have hsz : Hid ((w.alloc (.cells #[.slice A S.op.length a, .slice B S.cl.length b, .slice C S.ke.length c, .slice D S.ro.length d] 25)).heap.size = w.heap.size + 1) := by show _ = _; simp
  generalize w.alloc (.cells #[.slice A S.op.length a, .slice B S.cl.length b, .slice C S.ke.length c, .slice D S.ro.length d] 25) = wb at *
  have hkb : Kp wb wb := Kp.refl _
  have hkw := hk0
  clear hkb
  have CC := Lib.hid (szIntS_any A S.op.length a 1048576 wb (by omega) (by omega) hA1)
  with_reducible refine Calls.mono CC.out ?_
  rintro e w1 ⟨rfl, hw⟩
  obtain rfl := hw
  clear CC
  by_cases h1 : ((S.op.length : Nat) : Int) ≤ 1048576
  case neg =>
    have hb : Hid (left1 S.bulk 1048576 = -1) := by show _ = _; unfold Sea.bulk; rw [Nat.add_assoc, Nat.add_assoc, Nat.add_assoc, left1_neg h1]
    rw [left1_no h1]
    go_wp2_with fail
    go_ret
    exact ⟨ret_int hb.out.symm, hkw⟩
  rw [left1_pos h1]
  go_wp2_with fail
  have CC := Lib.hid (szIntS_any B S.cl.length b (1048576 - S.op.length) wb (by omega) (by omega) hB1)
  with_reducible refine Calls.mono CC.out ?_
  rintro e w1 ⟨rfl, hw⟩
  obtain rfl := hw
  clear CC
  by_cases h2 : ((S.cl.length : Nat) : Int) ≤ 1048576 - S.op.length
  case neg =>
    have hb : Hid (left1 S.bulk 1048576 = -1) := by show left1 _ _ = _; unfold Sea.bulk left1; rw [if_neg (by omega)]
    rw [left1_no h2]
    go_wp2_with fail
    go_ret
    exact ⟨ret_int hb.out.symm, hkw⟩
  rw [left1_pos h2]
  go_wp2_with fail
  have CC := Lib.hid (szIntS_any C S.ke.length c (1048576 - S.op.length - S.cl.length) wb (by omega) (by omega) hC1)
  with_reducible refine Calls.mono CC.out ?_
  rintro e w1 ⟨rfl, hw⟩
  obtain rfl := hw
  clear CC
  by_cases h3 : ((S.ke.length : Nat) : Int) ≤ 1048576 - S.op.length - S.cl.length
  case neg =>
    have hb : Hid (left1 S.bulk 1048576 = -1) := by show left1 _ _ = _; unfold Sea.bulk left1; rw [if_neg (by omega)]
    rw [left1_no h3]
    go_wp2_with fail
    go_ret
    exact ⟨ret_int hb.out.symm, hkw⟩
  rw [left1_pos h3]
  go_wp2_with fail
  have CC := Lib.hid (szIntSSS_any D S.ro S.ro.length d (1048576 - S.op.length - S.cl.length - S.ke.length) wb hD rfl (by omega) (by omega))
  with_reducible refine Calls.mono CC.out ?_
  rintro e w1 ⟨rfl, hw⟩
  obtain rfl := hw
  clear CC
  by_cases h4 : ((S.ro.length + gridSum S.ro : Nat) : Int) ≤ 1048576 - S.op.length - S.cl.length - S.ke.length
  case neg =>
    have hb : Hid (left1 S.bulk 1048576 = -1) := by show left1 _ _ = _; unfold Sea.bulk left1; rw [if_neg (by omega)]
    rw [left1_no h4]
    go_wp2_with fail
    go_ret
    exact ⟨ret_int hb.out.symm, hkw⟩
  have hb : Hid (left1 S.bulk 1048576 = 1048576 - S.op.length - S.cl.length - S.ke.length - (S.ro.length + gridSum S.ro : Nat)) := by show left1 _ _ = _; unfold Sea.bulk left1; rw [if_pos (by omega)]; omega
  rw [left1_pos h4]
  go_wp2_with fail
  go_ret
  exact ⟨ret_int hb.out.symm, hkw⟩
theorem eqIntSSS_dr (A B : Option Addr) (xs : List (List (List Int))) (n m c d : Nat) (w : World) (hx : GridsAt w A xs) (hy : GridsAt w B xs) (hn : xs.length = n) (hm : xs.length = m) :
    Calls Try.prog 26 #[.slice A n c, .slice B m d] w fun e w' => e = .returned (.bool true) ∧ Kp w w' := by
  obtain rfl : n = m := by omega
  exact (eqIntSSS_eq A B xs n c d w hx hy hn).mono fun e w' ⟨h1, h2⟩ => ⟨h1, h2.kp⟩
set_option maxHeartbeats 400000 in
/-- The same season, compared. -/
theorem eqSeason_any (f g : Value) (S : Sea) (w : World) (hf : SeaAt w f S) (hg : SeaAt w g S) :
    Calls Try.prog 11 #[f, g] w fun e w' => e = .returned (.bool true) ∧ Kp w w' := by
  obtain ⟨A2, a2, B2, b2, C2, c2, D2, d2', rfl, hA2, hB2, hC2, hD2⟩ := hg
  obtain ⟨A, a, B, b, C, c, D, d, rfl, hA, hB, hC, hD⟩ := hf
  have hk0 : Kp w ((w.alloc (.cells #[.slice A S.op.length a, .slice B S.cl.length b, .slice C S.ke.length c, .slice D S.ro.length d] 31)).alloc (.cells #[.slice A2 S.op.length a2, .slice B2 S.cl.length b2, .slice C2 S.ke.length c2, .slice D2 S.ro.length d2'] 31)) := ((Kp.refl w).alloc _).alloc _
  obtain ⟨d0, d1, d2, d3⟩ := box4 w (.slice A S.op.length a) (.slice B S.cl.length b) (.slice C S.ke.length c) (.slice D S.ro.length d) 31
  obtain ⟨x0, x1, x2, x3⟩ := box4 (w.alloc (.cells #[.slice A S.op.length a, .slice B S.cl.length b, .slice C S.ke.length c, .slice D S.ro.length d] 31)) (.slice A2 S.op.length a2) (.slice B2 S.cl.length b2) (.slice C2 S.ke.length c2) (.slice D2 S.ro.length d2') 31
  have hk1 := (Kp.refl (w.alloc (.cells #[.slice A S.op.length a, .slice B S.cl.length b, .slice C S.ke.length c, .slice D S.ro.length d] 31))).alloc (.cells #[.slice A2 S.op.length a2, .slice B2 S.cl.length b2, .slice C2 S.ke.length c2, .slice D2 S.ro.length d2'] 31)
  replace d0 := hk1.get d0; replace d1 := hk1.get d1; replace d2 := hk1.get d2; replace d3 := hk1.get d3
  simp only [World.size_alloc] at x0 x1 x2 x3
  replace hA := hA.kp hk0; replace hB := hB.kp hk0; replace hC := hC.kp hk0; replace hD := hD.kp hk0
  replace hA2 := hA2.kp hk0; replace hB2 := hB2.kp hk0; replace hC2 := hC2.kp hk0; replace hD2 := hD2.kp hk0
  clear hk1
  go_enter Try.func11, Try.ntmps11
  go_wp2_with fail
  generalize ((w.alloc (.cells #[.slice A S.op.length a, .slice B S.cl.length b, .slice C S.ke.length c, .slice D S.ro.length d] 31)).alloc (.cells #[.slice A2 S.op.length a2, .slice B2 S.cl.length b2, .slice C2 S.ke.length c2, .slice D2 S.ro.length d2'] 31)) = wb at *
  have hkb : Kp wb wb := Kp.refl _
  have CC := Lib.hid (eqIntS_any A A2 S.op S.op _ _ a a2 _ (hA.kp hkb) (hA2.kp hkb) rfl rfl)
  with_reducible refine Calls.mono CC.out ?_
  rintro e w1 ⟨rfl, hk1⟩
  clear CC
  replace hkb := hkb.trans hk1
  simp only [decide_true]
  have q_d0 := hkb.get d0
  have q_d1 := hkb.get d1
  have q_d2 := hkb.get d2
  have q_d3 := hkb.get d3
  have q_x0 := hkb.get x0
  have q_x1 := hkb.get x1
  have q_x2 := hkb.get x2
  have q_x3 := hkb.get x3
  go_wp2_with fail
  have CC := Lib.hid (eqIntS_any B B2 S.cl S.cl _ _ b b2 _ (hB.kp hkb) (hB2.kp hkb) rfl rfl)
  with_reducible refine Calls.mono CC.out ?_
  rintro e w2 ⟨rfl, hk2⟩
  clear CC q_d0 q_d1 q_d2 q_d3 q_x0 q_x1 q_x2 q_x3
  replace hkb := hkb.trans hk2
  simp only [decide_true]
  have q_d0 := hkb.get d0
  have q_d1 := hkb.get d1
  have q_d2 := hkb.get d2
  have q_d3 := hkb.get d3
  have q_x0 := hkb.get x0
  have q_x1 := hkb.get x1
  have q_x2 := hkb.get x2
  have q_x3 := hkb.get x3
  go_wp2_with fail
  have CC := Lib.hid (eqIntS_any C C2 S.ke S.ke _ _ c c2 _ (hC.kp hkb) (hC2.kp hkb) rfl rfl)
  with_reducible refine Calls.mono CC.out ?_
  rintro e w3 ⟨rfl, hk3⟩
  clear CC q_d0 q_d1 q_d2 q_d3 q_x0 q_x1 q_x2 q_x3
  replace hkb := hkb.trans hk3
  simp only [decide_true]
  have q_d0 := hkb.get d0
  have q_d1 := hkb.get d1
  have q_d2 := hkb.get d2
  have q_d3 := hkb.get d3
  have q_x0 := hkb.get x0
  have q_x1 := hkb.get x1
  have q_x2 := hkb.get x2
  have q_x3 := hkb.get x3
  go_wp2_with fail
  have CC := Lib.hid (eqIntSSS_dr D D2 S.ro _ _ d d2' _ (hD.kp hkb) (hD2.kp hkb) rfl rfl)
  with_reducible refine Calls.mono CC.out ?_
  rintro e w4 ⟨rfl, hk4⟩
  clear CC q_d0 q_d1 q_d2 q_d3 q_x0 q_x1 q_x2 q_x3
  replace hkb := hkb.trans hk4
  have q_d0 := hkb.get d0
  have q_d1 := hkb.get d1
  have q_d2 := hkb.get d2
  have q_d3 := hkb.get d3
  have q_x0 := hkb.get x0
  have q_x1 := hkb.get x1
  have q_x2 := hkb.get x2
  have q_x3 := hkb.get x3
  go_wp2_with fail
  go_ret
  exact ⟨rfl, hk0.trans hkb⟩
end Go.Proofs.Ytjoebikljmkhfaa
