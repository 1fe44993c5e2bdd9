/- FnExactIsFlowProof: for every input the program and the reference agree. No condition. -/
import Derived.Test.YteaeedeaoddpcaaFrame2
import Derived.Test.YteaeedeaoddpcaaLawU
import Derived.Test.YteaeedeaoddpcaaPrice4
import Derived.Test.YteaeedeaoddpcaaGridLaw
import Derived.Test.YteaeedeaoddpcaaFive
namespace Go.Proofs.Yteaeedeaoddpcaa
open Go.ChangeShapes Go.WideShapes Go.ChangeAt Go.RowKit

set_option maxRecDepth 100000 in
set_option maxHeartbeats 4000000 in
theorem ip_law (f0 : Value) (F0 : Fld) (A1 : Option Addr) (xs1 : List Int) (m1 c1 : Nat) (A2 : Option Addr) (xs2 : List Int) (m2 c2 : Nat) (A3 : Option Addr) (xs3 : List Int) (m3 c3 : Nat) (B4 : Option Addr) (rs4 : List (List Int)) (m4 c4 : Nat) (A5 : Option Addr) (xs5 : List Int) (m5 c5 : Nat) (A6 : Option Addr) (xs6 : List Int) (m6 c6 : Nat) (w : World) (hf0 : FldAt w f0 F0) (hx1 : IntsAt w A1 xs1) (hn1 : xs1.length = m1) (hx2 : IntsAt w A2 xs2) (hn2 : xs2.length = m2) (hx3 : IntsAt w A3 xs3) (hn3 : xs3.length = m3) (hx4 : GridAt w B4 rs4) (hn4 : rs4.length = m4) (hx5 : IntsAt w A5 xs5) (hn5 : xs5.length = m5) (hx6 : IntsAt w A6 xs6) (hn6 : xs6.length = m6) :
    Calls Try.prog 4 #[f0, .slice A1 m1 c1, .slice A2 m2 c2, .slice A3 m3 c3, .slice B4 m4 c4, .slice A5 m5 c5, .slice A6 m6 c6] w fun e w' => e = .returned (.bool true) ∧ Kp w w' := by
  have Hn1 := Lib.hid hn1; clear hn1
  have Hn2 := Lib.hid hn2; clear hn2
  have Hn3 := Lib.hid hn3; clear hn3
  have Hn4 := Lib.hid hn4; clear hn4
  have Hn5 := Lib.hid hn5; clear hn5
  have Hn6 := Lib.hid hn6; clear hn6
  obtain ⟨A, c, B, d, rfl, hA, hB⟩ := id hf0
  have hk0 : Kp w (w.alloc (.cells #[.slice A F0.op.length c, .slice B F0.di.length d] 25)) := (Kp.refl w).alloc _
  obtain ⟨b0, b1⟩ := box2 w (.slice A F0.op.length c) (.slice B F0.di.length d) 25
  by_cases hm1 : 1048576 < m1
  · go_enter Try.func4, Try.ntmps4
    go_wp2_with fail
    go_ret
    exact ⟨rfl, hk0⟩
  by_cases hm2 : 1048576 < m2
  · go_enter Try.func4, Try.ntmps4
    go_wp2_with fail
    go_ret
    exact ⟨rfl, hk0⟩
  by_cases hm3 : 1048576 < m3
  · go_enter Try.func4, Try.ntmps4
    go_wp2_with fail
    go_ret
    exact ⟨rfl, hk0⟩
  by_cases hm5 : 1048576 < m5
  · go_enter Try.func4, Try.ntmps4
    go_wp2_with fail
    go_ret
    exact ⟨rfl, hk0⟩
  by_cases hm6 : 1048576 < m6
  · go_enter Try.func4, Try.ntmps4
    go_wp2_with fail
    go_ret
    exact ⟨rfl, hk0⟩
  by_cases hb : ¬ F0.bulk ≤ 1048576
  · have hs := Lib.hid (left_big hb)
    go_enter Try.func4, Try.ntmps4
    go_wp2_with fail
    have CC := Lib.hid (szField_any _ F0 _ (hf0.kp hk0))
    with_reducible refine Calls.mono CC.out ?_
    rintro e w1 ⟨rfl, hk1⟩
    rw [hs.out]
    go_wp2_with fail
    go_ret
    exact ⟨rfl, hk0.trans hk1⟩
  replace hb : F0.bulk ≤ 1048576 := Decidable.not_not.1 hb
  have hs := Lib.hid (left_small hb)
  have n0 : ((ipR F0 xs1 xs2 xs3 rs4 xs5 xs6) != (ipR F0 xs1 xs2 xs3 rs4 xs5 xs6)) = false := by simp
  have n1 : ((ipIn F0 xs1 xs2 xs3 rs4 xs5 xs6) != (ipIn F0 xs1 xs2 xs3 rs4 xs5 xs6)) = false := by simp
  have hfk := hf0.kp hk0
  have K0 : Kp w (w.alloc (.cells #[.slice A F0.op.length c, .slice B F0.di.length d] 25)) := hk0
  go_enter Try.func4, Try.ntmps4
  go_wp2_with fail
  generalize w.alloc (.cells #[.slice A F0.op.length c, .slice B F0.di.length d] 25) = w0 at *
  have KB : Kp w0 w0 := Kp.refl _
  have CC := Lib.hid (szField_any _ F0 _ hfk)
  with_reducible refine Calls.mono CC.out ?_
  rintro e w1 ⟨rfl, hkc1⟩
  clear CC
  replace K0 := K0.trans hkc1
  replace KB := KB.trans hkc1
  rw [hs.out]
  rw [show ((1048576 : Int) - (F0.bulk : Nat)) = 1048576 - (F0.bulk : Int) from rfl]
  have qb0 := KB.get b0; have qb1 := KB.get b1
  go_wp2_with fail
  have CC := Lib.hid (szIntSS_any B4 rs4 m4 c4 (1048576 - (F0.bulk : Int)) _ (hx4.kp K0) Hn4.out (by omega) (by omega))
  with_reducible refine Calls.mono CC.out ?_
  rintro e wz ⟨rfl, hw⟩
  obtain rfl := hw
  clear CC qb0 qb1
  by_cases hg4 : ¬ ((m4 + rowSum rs4 : Nat) : Int) ≤ (1048576 - (F0.bulk : Int))
  · rw [left1_no hg4]
    have qb0 := KB.get b0; have qb1 := KB.get b1
    go_wp2_with fail
    go_ret
    exact ⟨rfl, K0⟩
  replace hg4 := Decidable.not_not.1 hg4
  rw [left1_pos hg4]
  have qb0 := KB.get b0; have qb1 := KB.get b1
  go_wp2_with fail
  have CC := Lib.hid (toField_any _ F0 _ (hfk.kp KB) hb)
  with_reducible refine Calls.mono CC.out ?_
  rintro e w2 ⟨vs, rfl, hs0, hkc2⟩
  clear CC qb0 qb1
  replace K0 := K0.trans hkc2
  replace KB := KB.trans hkc2
  have Ks0 : Kp w2 w2 := Kp.refl _
  have qb0 := KB.get b0; have qb1 := KB.get b1
  go_wp2_with fail
  have CC := Lib.hid (toIntS_any A1 xs1 m1 c1 _ (hx1.kp K0) Hn1.out (by omega))
  with_reducible refine Calls.mono CC.out ?_
  rintro e w3 ⟨gs1, rfl, hgs1, hs1, hkc3⟩
  clear CC qb0 qb1
  replace K0 := K0.trans hkc3
  replace KB := KB.trans hkc3
  replace Ks0 := Ks0.trans hkc3
  have Ks1 : Kp w3 w3 := Kp.refl _
  have qb0 := KB.get b0; have qb1 := KB.get b1
  go_wp2_with fail
  have CC := Lib.hid (toIntS_any A2 xs2 m2 c2 _ (hx2.kp K0) Hn2.out (by omega))
  with_reducible refine Calls.mono CC.out ?_
  rintro e w4 ⟨gs2, rfl, hgs2, hs2, hkc4⟩
  clear CC qb0 qb1
  replace K0 := K0.trans hkc4
  replace KB := KB.trans hkc4
  replace Ks0 := Ks0.trans hkc4
  replace Ks1 := Ks1.trans hkc4
  have Ks2 : Kp w4 w4 := Kp.refl _
  have qb0 := KB.get b0; have qb1 := KB.get b1
  go_wp2_with fail
  have CC := Lib.hid (toIntS_any A3 xs3 m3 c3 _ (hx3.kp K0) Hn3.out (by omega))
  with_reducible refine Calls.mono CC.out ?_
  rintro e w5 ⟨gs3, rfl, hgs3, hs3, hkc5⟩
  clear CC qb0 qb1
  replace K0 := K0.trans hkc5
  replace KB := KB.trans hkc5
  replace Ks0 := Ks0.trans hkc5
  replace Ks1 := Ks1.trans hkc5
  replace Ks2 := Ks2.trans hkc5
  have Ks3 : Kp w5 w5 := Kp.refl _
  have qb0 := KB.get b0; have qb1 := KB.get b1
  go_wp2_with fail
  have CC := Lib.hid (toIntSS_at B4 rs4 m4 c4 _ (hx4.kp K0) Hn4.out (by omega))
  with_reducible refine Calls.mono CC.out ?_
  rintro e w6 ⟨As4, cs4, rfl, hs4, hkc6⟩
  clear CC qb0 qb1
  replace K0 := K0.trans hkc6
  replace KB := KB.trans hkc6
  replace Ks0 := Ks0.trans hkc6
  replace Ks1 := Ks1.trans hkc6
  replace Ks2 := Ks2.trans hkc6
  replace Ks3 := Ks3.trans hkc6
  have Ks4 : Kp w6 w6 := Kp.refl _
  have qb0 := KB.get b0; have qb1 := KB.get b1
  go_wp2_with fail
  have CC := Lib.hid (toIntS_any A5 xs5 m5 c5 _ (hx5.kp K0) Hn5.out (by omega))
  with_reducible refine Calls.mono CC.out ?_
  rintro e w7 ⟨gs5, rfl, hgs5, hs5, hkc7⟩
  clear CC qb0 qb1
  replace K0 := K0.trans hkc7
  replace KB := KB.trans hkc7
  replace Ks0 := Ks0.trans hkc7
  replace Ks1 := Ks1.trans hkc7
  replace Ks2 := Ks2.trans hkc7
  replace Ks3 := Ks3.trans hkc7
  replace Ks4 := Ks4.trans hkc7
  have Ks5 : Kp w7 w7 := Kp.refl _
  have qb0 := KB.get b0; have qb1 := KB.get b1
  go_wp2_with fail
  have CC := Lib.hid (toIntS_any A6 xs6 m6 c6 _ (hx6.kp K0) Hn6.out (by omega))
  with_reducible refine Calls.mono CC.out ?_
  rintro e w8 ⟨gs6, rfl, hgs6, hs6, hkc8⟩
  clear CC qb0 qb1
  replace K0 := K0.trans hkc8
  replace KB := KB.trans hkc8
  replace Ks0 := Ks0.trans hkc8
  replace Ks1 := Ks1.trans hkc8
  replace Ks2 := Ks2.trans hkc8
  replace Ks3 := Ks3.trans hkc8
  replace Ks4 := Ks4.trans hkc8
  replace Ks5 := Ks5.trans hkc8
  have Ks6 : Kp w8 w8 := Kp.refl _
  have qb0 := KB.get b0; have qb1 := KB.get b1
  go_wp2_with fail
  have CC := Lib.hid (specIp_any _ F0 _ xs1 m1 m1 _ xs2 m2 m2 _ xs3 m3 m3 _ rs4 m4 cs4 _ xs5 m5 m5 _ xs6 m6 m6 _ ((hs0.small hb).kp Ks0) (hs1.ats Hn1.out (by omega) Ks1) Hn1.out (hs2.ats Hn2.out (by omega) Ks2) Hn2.out (hs3.ats Hn3.out (by omega) Ks3) Hn3.out (hs4.kp Ks4) Hn4.out (hs5.ats Hn5.out (by omega) Ks5) Hn5.out (hs6.ats Hn6.out (by omega) Ks6) Hn6.out)
  with_reducible refine Calls.mono CC.out ?_
  rintro e w9 ⟨rfl, hkc9⟩
  clear CC qb0 qb1
  replace K0 := K0.trans hkc9
  replace KB := KB.trans hkc9
  replace Ks0 := Ks0.trans hkc9
  replace Ks1 := Ks1.trans hkc9
  replace Ks2 := Ks2.trans hkc9
  replace Ks3 := Ks3.trans hkc9
  replace Ks4 := Ks4.trans hkc9
  replace Ks5 := Ks5.trans hkc9
  replace Ks6 := Ks6.trans hkc9
  clear Ks0
  clear Ks1
  clear Ks2
  clear Ks3
  clear Ks4
  clear Ks5
  clear Ks6
  have qb0 := KB.get b0; have qb1 := KB.get b1
  go_wp2_with fail
  have CC := Lib.hid (toField_any _ F0 _ (hfk.kp KB) hb)
  with_reducible refine Calls.mono CC.out ?_
  rintro e w10 ⟨vx, rfl, hx0, hkc10⟩
  clear CC qb0 qb1
  replace K0 := K0.trans hkc10
  replace KB := KB.trans hkc10
  obtain ⟨Ax, cx, Bx, dx, hv2e⟩ := hx0.agg
  subst hv2e
  have hkx := (Kp.refl w10).alloc (.cells #[.slice Ax F0.op.length cx, .slice Bx F0.di.length dx] 30)
  obtain ⟨x0, x1⟩ := box2 w10 (.slice Ax F0.op.length cx) (.slice Bx F0.di.length dx) 30
  have Kx0 : Kp w10 w10 := Kp.refl _
  replace K0 := K0.trans hkx
  replace KB := KB.trans hkx
  replace Kx0 := Kx0.trans hkx
  have KX : Kp (w10.alloc (.cells #[.slice Ax F0.op.length cx, .slice Bx F0.di.length dx] 30)) (w10.alloc (.cells #[.slice Ax F0.op.length cx, .slice Bx F0.di.length dx] 30)) := Kp.refl _
  have qb0 := KB.get b0; have qb1 := KB.get b1
  have qx0 := KX.get x0; have qx1 := KX.get x1
  go_wp2_with fail
  have CC := Lib.hid (toIntS_any A1 xs1 m1 c1 _ (hx1.kp K0) Hn1.out (by omega))
  with_reducible refine Calls.mono CC.out ?_
  rintro e w11 ⟨gx1, rfl, hgx1, hx1r, hkc11⟩
  clear CC qb0 qb1 qx0 qx1
  replace K0 := K0.trans hkc11
  replace KB := KB.trans hkc11
  replace Kx0 := Kx0.trans hkc11
  replace KX := KX.trans hkc11
  have Kx1 : Kp w11 w11 := Kp.refl _
  have qb0 := KB.get b0; have qb1 := KB.get b1
  have qx0 := KX.get x0; have qx1 := KX.get x1
  go_wp2_with fail
  have CC := Lib.hid (toIntS_any A2 xs2 m2 c2 _ (hx2.kp K0) Hn2.out (by omega))
  with_reducible refine Calls.mono CC.out ?_
  rintro e w12 ⟨gx2, rfl, hgx2, hx2r, hkc12⟩
  clear CC qb0 qb1 qx0 qx1
  replace K0 := K0.trans hkc12
  replace KB := KB.trans hkc12
  replace Kx0 := Kx0.trans hkc12
  replace KX := KX.trans hkc12
  replace Kx1 := Kx1.trans hkc12
  have Kx2 : Kp w12 w12 := Kp.refl _
  have qb0 := KB.get b0; have qb1 := KB.get b1
  have qx0 := KX.get x0; have qx1 := KX.get x1
  go_wp2_with fail
  have CC := Lib.hid (toIntS_any A3 xs3 m3 c3 _ (hx3.kp K0) Hn3.out (by omega))
  with_reducible refine Calls.mono CC.out ?_
  rintro e w13 ⟨gx3, rfl, hgx3, hx3r, hkc13⟩
  clear CC qb0 qb1 qx0 qx1
  replace K0 := K0.trans hkc13
  replace KB := KB.trans hkc13
  replace Kx0 := Kx0.trans hkc13
  replace KX := KX.trans hkc13
  replace Kx1 := Kx1.trans hkc13
  replace Kx2 := Kx2.trans hkc13
  have Kx3 : Kp w13 w13 := Kp.refl _
  have qb0 := KB.get b0; have qb1 := KB.get b1
  have qx0 := KX.get x0; have qx1 := KX.get x1
  go_wp2_with fail
  have CC := Lib.hid (toIntSS_at B4 rs4 m4 c4 _ (hx4.kp K0) Hn4.out (by omega))
  with_reducible refine Calls.mono CC.out ?_
  rintro e w14 ⟨Ax4, cx4, rfl, hx4g, hkc14⟩
  clear CC qb0 qb1 qx0 qx1
  replace K0 := K0.trans hkc14
  replace KB := KB.trans hkc14
  replace Kx0 := Kx0.trans hkc14
  replace KX := KX.trans hkc14
  replace Kx1 := Kx1.trans hkc14
  replace Kx2 := Kx2.trans hkc14
  replace Kx3 := Kx3.trans hkc14
  have Kx4 : Kp w14 w14 := Kp.refl _
  have qb0 := KB.get b0; have qb1 := KB.get b1
  have qx0 := KX.get x0; have qx1 := KX.get x1
  go_wp2_with fail
  have CC := Lib.hid (toIntS_any A5 xs5 m5 c5 _ (hx5.kp K0) Hn5.out (by omega))
  with_reducible refine Calls.mono CC.out ?_
  rintro e w15 ⟨gx5, rfl, hgx5, hx5r, hkc15⟩
  clear CC qb0 qb1 qx0 qx1
  replace K0 := K0.trans hkc15
  replace KB := KB.trans hkc15
  replace Kx0 := Kx0.trans hkc15
  replace KX := KX.trans hkc15
  replace Kx1 := Kx1.trans hkc15
  replace Kx2 := Kx2.trans hkc15
  replace Kx3 := Kx3.trans hkc15
  replace Kx4 := Kx4.trans hkc15
  have Kx5 : Kp w15 w15 := Kp.refl _
  have qb0 := KB.get b0; have qb1 := KB.get b1
  have qx0 := KX.get x0; have qx1 := KX.get x1
  go_wp2_with fail
  have CC := Lib.hid (toIntS_any A6 xs6 m6 c6 _ (hx6.kp K0) Hn6.out (by omega))
  with_reducible refine Calls.mono CC.out ?_
  rintro e w16 ⟨gx6, rfl, hgx6, hx6r, hkc16⟩
  clear CC qb0 qb1 qx0 qx1
  replace K0 := K0.trans hkc16
  replace KB := KB.trans hkc16
  replace Kx0 := Kx0.trans hkc16
  replace KX := KX.trans hkc16
  replace Kx1 := Kx1.trans hkc16
  replace Kx2 := Kx2.trans hkc16
  replace Kx3 := Kx3.trans hkc16
  replace Kx4 := Kx4.trans hkc16
  replace Kx5 := Kx5.trans hkc16
  have Kx6 : Kp w16 w16 := Kp.refl _
  have qb0 := KB.get b0; have qb1 := KB.get b1
  have qx0 := KX.get x0; have qx1 := KX.get x1
  go_wp2_with fail
  have CC := Lib.hid (implIp_any _ F0 _ xs1 m1 m1 _ xs2 m2 m2 _ xs3 m3 m3 _ rs4 m4 cx4 _ xs5 m5 m5 _ xs6 m6 m6 _ ((hx0.small hb).kp Kx0) (hx1r.ats Hn1.out (by omega) Kx1) Hn1.out (hx2r.ats Hn2.out (by omega) Kx2) Hn2.out (hx3r.ats Hn3.out (by omega) Kx3) Hn3.out (hx4g.kp Kx4) Hn4.out (hx5r.ats Hn5.out (by omega) Kx5) Hn5.out (hx6r.ats Hn6.out (by omega) Kx6) Hn6.out)
  with_reducible refine Calls.mono CC.out ?_
  rintro e w17 ⟨rfl, hkc17⟩
  clear CC qb0 qb1 qx0 qx1
  replace K0 := K0.trans hkc17
  replace KB := KB.trans hkc17
  replace Kx0 := Kx0.trans hkc17
  replace KX := KX.trans hkc17
  replace Kx1 := Kx1.trans hkc17
  replace Kx2 := Kx2.trans hkc17
  replace Kx3 := Kx3.trans hkc17
  replace Kx4 := Kx4.trans hkc17
  replace Kx5 := Kx5.trans hkc17
  replace Kx6 := Kx6.trans hkc17
  have qb0 := KB.get b0; have qb1 := KB.get b1
  have qx0 := KX.get x0; have qx1 := KX.get x1
  go_wp2_with fail
  have hdk := (Kp.refl w17).drew
  have CC := Lib.hid (toField_any _ F0 _ ((hfk.kp KB).kp hdk) hb)
  have Hx := Lib.hid ((hx0.small hb).kp Kx0)
  have y0 := KX.get x0; have y1 := KX.get x1
  go_cut [107] (fun s wc => s = .bool false ∧ Kp w17 wc)
  case first =>
    go_region_with (first
      | (go_at_call 12; with_reducible refine Calls.mono CC.out ?_; rintro e wa ⟨va, rfl, hva, hka⟩; obtain ⟨Ay, cy, By, dy, hv3e⟩ := hva.agg; subst hv3e; have z0 := hka.get (hdk.get y0); have z1 := hka.get (hdk.get y1))
      | (go_at_call 16; with_reducible refine Calls.mono (eqField_any _ _ F0 _ ((Hx.out.kp hdk).kp hka) (hva.small hb)) ?_; rintro e wb ⟨rfl, hkb⟩))
    all_goals (go_wp2_with fail; go_meet; exact ⟨rfl, (hdk.trans hka).trans hkb⟩)
  case rest =>
    obtain ⟨rfl, hkc⟩ := hcut
    obtain ⟨w18, rfl⟩ : ∃ q : World, q = wc := ⟨_, rfl⟩
    clear CC Hx y0 y1 hdk qb0 qb1 qx0 qx1
    replace K0 := K0.trans hkc
    replace KB := KB.trans hkc
    replace Kx0 := Kx0.trans hkc
    replace KX := KX.trans hkc
    replace Kx1 := Kx1.trans hkc
    replace Kx2 := Kx2.trans hkc
    replace Kx3 := Kx3.trans hkc
    replace Kx4 := Kx4.trans hkc
    replace Kx5 := Kx5.trans hkc
    replace Kx6 := Kx6.trans hkc
    have qb0 := KB.get b0; have qb1 := KB.get b1
    have qx0 := KX.get x0; have qx1 := KX.get x1
    go_wp2_with fail
    have CC := Lib.hid (toIntS_any A1 xs1 m1 c1 _ (hx1.kp K0) Hn1.out (by omega))
    with_reducible refine Calls.mono CC.out ?_
    rintro e w19 ⟨gy1, rfl, hgy1, hy1, hkc19⟩
    clear CC qb0 qb1 qx0 qx1
    replace K0 := K0.trans hkc19
    replace KB := KB.trans hkc19
    replace Kx0 := Kx0.trans hkc19
    replace KX := KX.trans hkc19
    replace Kx1 := Kx1.trans hkc19
    replace Kx2 := Kx2.trans hkc19
    replace Kx3 := Kx3.trans hkc19
    replace Kx4 := Kx4.trans hkc19
    replace Kx5 := Kx5.trans hkc19
    replace Kx6 := Kx6.trans hkc19
    have qb0 := KB.get b0; have qb1 := KB.get b1
    have qx0 := KX.get x0; have qx1 := KX.get x1
    go_wp2_with fail
    have CC := Lib.hid (eqIntS_any _ _ xs1 xs1 m1 m1 m1 m1 _ (hx1r.ats Hn1.out (by omega) Kx1) (hy1.ats Hn1.out (by omega) (Kp.refl _)) Hn1.out Hn1.out)
    with_reducible refine Calls.mono CC.out ?_
    rintro e w20 ⟨rfl, hkc20⟩
    clear CC qb0 qb1 qx0 qx1
    replace K0 := K0.trans hkc20
    replace KB := KB.trans hkc20
    replace Kx0 := Kx0.trans hkc20
    replace KX := KX.trans hkc20
    replace Kx1 := Kx1.trans hkc20
    replace Kx2 := Kx2.trans hkc20
    replace Kx3 := Kx3.trans hkc20
    replace Kx4 := Kx4.trans hkc20
    replace Kx5 := Kx5.trans hkc20
    replace Kx6 := Kx6.trans hkc20
    simp only [decide_true]
    have qb0 := KB.get b0; have qb1 := KB.get b1
    have qx0 := KX.get x0; have qx1 := KX.get x1
    go_wp2_with fail
    have CC := Lib.hid (toIntS_any A2 xs2 m2 c2 _ (hx2.kp K0) Hn2.out (by omega))
    with_reducible refine Calls.mono CC.out ?_
    rintro e w21 ⟨gy2, rfl, hgy2, hy2, hkc21⟩
    clear CC qb0 qb1 qx0 qx1
    replace K0 := K0.trans hkc21
    replace KB := KB.trans hkc21
    replace Kx0 := Kx0.trans hkc21
    replace KX := KX.trans hkc21
    replace Kx1 := Kx1.trans hkc21
    replace Kx2 := Kx2.trans hkc21
    replace Kx3 := Kx3.trans hkc21
    replace Kx4 := Kx4.trans hkc21
    replace Kx5 := Kx5.trans hkc21
    replace Kx6 := Kx6.trans hkc21
    have qb0 := KB.get b0; have qb1 := KB.get b1
    have qx0 := KX.get x0; have qx1 := KX.get x1
    go_wp2_with fail
    have CC := Lib.hid (eqIntS_any _ _ xs2 xs2 m2 m2 m2 m2 _ (hx2r.ats Hn2.out (by omega) Kx2) (hy2.ats Hn2.out (by omega) (Kp.refl _)) Hn2.out Hn2.out)
    with_reducible refine Calls.mono CC.out ?_
    rintro e w22 ⟨rfl, hkc22⟩
    clear CC qb0 qb1 qx0 qx1
    replace K0 := K0.trans hkc22
    replace KB := KB.trans hkc22
    replace Kx0 := Kx0.trans hkc22
    replace KX := KX.trans hkc22
    replace Kx1 := Kx1.trans hkc22
    replace Kx2 := Kx2.trans hkc22
    replace Kx3 := Kx3.trans hkc22
    replace Kx4 := Kx4.trans hkc22
    replace Kx5 := Kx5.trans hkc22
    replace Kx6 := Kx6.trans hkc22
    simp only [decide_true]
    have qb0 := KB.get b0; have qb1 := KB.get b1
    have qx0 := KX.get x0; have qx1 := KX.get x1
    go_wp2_with fail
    have CC := Lib.hid (toIntS_any A3 xs3 m3 c3 _ (hx3.kp K0) Hn3.out (by omega))
    with_reducible refine Calls.mono CC.out ?_
    rintro e w23 ⟨gy3, rfl, hgy3, hy3, hkc23⟩
    clear CC qb0 qb1 qx0 qx1
    replace K0 := K0.trans hkc23
    replace KB := KB.trans hkc23
    replace Kx0 := Kx0.trans hkc23
    replace KX := KX.trans hkc23
    replace Kx1 := Kx1.trans hkc23
    replace Kx2 := Kx2.trans hkc23
    replace Kx3 := Kx3.trans hkc23
    replace Kx4 := Kx4.trans hkc23
    replace Kx5 := Kx5.trans hkc23
    replace Kx6 := Kx6.trans hkc23
    have qb0 := KB.get b0; have qb1 := KB.get b1
    have qx0 := KX.get x0; have qx1 := KX.get x1
    go_wp2_with fail
    have CC := Lib.hid (eqIntS_any _ _ xs3 xs3 m3 m3 m3 m3 _ (hx3r.ats Hn3.out (by omega) Kx3) (hy3.ats Hn3.out (by omega) (Kp.refl _)) Hn3.out Hn3.out)
    with_reducible refine Calls.mono CC.out ?_
    rintro e w24 ⟨rfl, hkc24⟩
    clear CC qb0 qb1 qx0 qx1
    replace K0 := K0.trans hkc24
    replace KB := KB.trans hkc24
    replace Kx0 := Kx0.trans hkc24
    replace KX := KX.trans hkc24
    replace Kx1 := Kx1.trans hkc24
    replace Kx2 := Kx2.trans hkc24
    replace Kx3 := Kx3.trans hkc24
    replace Kx4 := Kx4.trans hkc24
    replace Kx5 := Kx5.trans hkc24
    replace Kx6 := Kx6.trans hkc24
    simp only [decide_true]
    have qb0 := KB.get b0; have qb1 := KB.get b1
    have qx0 := KX.get x0; have qx1 := KX.get x1
    go_wp2_with fail
    have CC := Lib.hid (toIntSS_at B4 rs4 m4 c4 _ (hx4.kp K0) Hn4.out (by omega))
    with_reducible refine Calls.mono CC.out ?_
    rintro e w25 ⟨Ay4, cy4, rfl, hy4g, hkc25⟩
    clear CC qb0 qb1 qx0 qx1
    replace K0 := K0.trans hkc25
    replace KB := KB.trans hkc25
    replace Kx0 := Kx0.trans hkc25
    replace KX := KX.trans hkc25
    replace Kx1 := Kx1.trans hkc25
    replace Kx2 := Kx2.trans hkc25
    replace Kx3 := Kx3.trans hkc25
    replace Kx4 := Kx4.trans hkc25
    replace Kx5 := Kx5.trans hkc25
    replace Kx6 := Kx6.trans hkc25
    have qb0 := KB.get b0; have qb1 := KB.get b1
    have qx0 := KX.get x0; have qx1 := KX.get x1
    go_wp2_with fail
    have CC := Lib.hid (eqIntSS_any2 _ _ rs4 m4 cx4 cy4 _ (hx4g.kp Kx4) hy4g Hn4.out)
    with_reducible refine Calls.mono CC.out ?_
    rintro e w26 ⟨rfl, hkc26⟩
    clear CC qb0 qb1 qx0 qx1
    replace K0 := K0.trans hkc26
    replace KB := KB.trans hkc26
    replace Kx0 := Kx0.trans hkc26
    replace KX := KX.trans hkc26
    replace Kx1 := Kx1.trans hkc26
    replace Kx2 := Kx2.trans hkc26
    replace Kx3 := Kx3.trans hkc26
    replace Kx4 := Kx4.trans hkc26
    replace Kx5 := Kx5.trans hkc26
    replace Kx6 := Kx6.trans hkc26
    have qb0 := KB.get b0; have qb1 := KB.get b1
    have qx0 := KX.get x0; have qx1 := KX.get x1
    go_wp2_with fail
    have CC := Lib.hid (toIntS_any A5 xs5 m5 c5 _ (hx5.kp K0) Hn5.out (by omega))
    with_reducible refine Calls.mono CC.out ?_
    rintro e w27 ⟨gy5, rfl, hgy5, hy5, hkc27⟩
    clear CC qb0 qb1 qx0 qx1
    replace K0 := K0.trans hkc27
    replace KB := KB.trans hkc27
    replace Kx0 := Kx0.trans hkc27
    replace KX := KX.trans hkc27
    replace Kx1 := Kx1.trans hkc27
    replace Kx2 := Kx2.trans hkc27
    replace Kx3 := Kx3.trans hkc27
    replace Kx4 := Kx4.trans hkc27
    replace Kx5 := Kx5.trans hkc27
    replace Kx6 := Kx6.trans hkc27
    have qb0 := KB.get b0; have qb1 := KB.get b1
    have qx0 := KX.get x0; have qx1 := KX.get x1
    go_wp2_with fail
    have CC := Lib.hid (eqIntS_any _ _ xs5 xs5 m5 m5 m5 m5 _ (hx5r.ats Hn5.out (by omega) Kx5) (hy5.ats Hn5.out (by omega) (Kp.refl _)) Hn5.out Hn5.out)
    with_reducible refine Calls.mono CC.out ?_
    rintro e w28 ⟨rfl, hkc28⟩
    clear CC qb0 qb1 qx0 qx1
    replace K0 := K0.trans hkc28
    replace KB := KB.trans hkc28
    replace Kx0 := Kx0.trans hkc28
    replace KX := KX.trans hkc28
    replace Kx1 := Kx1.trans hkc28
    replace Kx2 := Kx2.trans hkc28
    replace Kx3 := Kx3.trans hkc28
    replace Kx4 := Kx4.trans hkc28
    replace Kx5 := Kx5.trans hkc28
    replace Kx6 := Kx6.trans hkc28
    simp only [decide_true]
    have qb0 := KB.get b0; have qb1 := KB.get b1
    have qx0 := KX.get x0; have qx1 := KX.get x1
    go_wp2_with fail
    have CC := Lib.hid (toIntS_any A6 xs6 m6 c6 _ (hx6.kp K0) Hn6.out (by omega))
    with_reducible refine Calls.mono CC.out ?_
    rintro e w29 ⟨gy6, rfl, hgy6, hy6, hkc29⟩
    clear CC qb0 qb1 qx0 qx1
    replace K0 := K0.trans hkc29
    replace KB := KB.trans hkc29
    replace Kx0 := Kx0.trans hkc29
    replace KX := KX.trans hkc29
    replace Kx1 := Kx1.trans hkc29
    replace Kx2 := Kx2.trans hkc29
    replace Kx3 := Kx3.trans hkc29
    replace Kx4 := Kx4.trans hkc29
    replace Kx5 := Kx5.trans hkc29
    replace Kx6 := Kx6.trans hkc29
    have qb0 := KB.get b0; have qb1 := KB.get b1
    have qx0 := KX.get x0; have qx1 := KX.get x1
    go_wp2_with fail
    have CC := Lib.hid (eqIntS_any _ _ xs6 xs6 m6 m6 m6 m6 _ (hx6r.ats Hn6.out (by omega) Kx6) (hy6.ats Hn6.out (by omega) (Kp.refl _)) Hn6.out Hn6.out)
    with_reducible refine Calls.mono CC.out ?_
    rintro e w30 ⟨rfl, hkc30⟩
    clear CC qb0 qb1 qx0 qx1
    replace K0 := K0.trans hkc30
    replace KB := KB.trans hkc30
    replace Kx0 := Kx0.trans hkc30
    replace KX := KX.trans hkc30
    replace Kx1 := Kx1.trans hkc30
    replace Kx2 := Kx2.trans hkc30
    replace Kx3 := Kx3.trans hkc30
    replace Kx4 := Kx4.trans hkc30
    replace Kx5 := Kx5.trans hkc30
    replace Kx6 := Kx6.trans hkc30
    simp only [decide_true]
    have qb0 := KB.get b0; have qb1 := KB.get b1
    have qx0 := KX.get x0; have qx1 := KX.get x1
    go_wp2_with fail
    go_ret
    exact ⟨rfl, K0⟩

set_option maxRecDepth 100000 in
theorem ip_lifted (os : Os) (started : os.Started) (H : Type) (enc : TypeId × Value → H) :
    ReturnsInHanded {} Try.checked os 4 .any (Rows.fnExactIsFlowProofSpec.pre6 enc Try.prog Try.f4 Rows.fnExactIsFlowProofRow.domain false) (Rows.fnExactIsFlowProofSpec.post enc Try.prog Try.f4 false true false false) := by
  refine returnsInHanded_of_change (C := Try.checked) ownKnobs started (by kernel_rfl) Try.func4
    (ChangeSpec.witness6 (enc := enc) (C := Try.checked) false ⟨#[], #[.agg #[.slice none 0 0, .slice none 0 0], .slice none 0 0, .slice none 0 0, .slice none 0 0, .slice none 0 0, .slice none 0 0, .slice none 0 0], []⟩ 8 (by kernel_rfl) (by kernel_rfl) (by kernel_rfl) (by kernel_rfl)) ?_
  intro W base args ds gs before hval hW _ _
  obtain ⟨p, q, hA0, hV, hbf, hz, hn⟩ := id hW
  have hA : DataW.TrodAll enc Try.prog W 0 (fun _ => true) true Try.f4.params.toList args.toList ds p := hA0
  have hval' : ∀ (j : Nat) t v, Try.f4.params[j]? = some t → args[j]? = some v → Value.okWide Try.prog W .any base t v := hval
  rw [Try.params4] at hA hval'
  obtain ⟨v0, v1, v2, v3, v4, v5, v6, d0, d1, d2, d3, d4, d5, d6, p0, p1, p2, p3, p4, p5, p6, rfl, rfl, rfl, h0, h1, h2, h3, h4, h5, h6⟩ := trodAll_seven hA
  obtain ⟨F0, hf0⟩ := open_fldAt (hval' 0 _ v0 rfl rfl) h0
  obtain ⟨A1, xs1, c1, rfl, hx1⟩ := open_intsAt Try.underlying22 Try.underlying3 cellsInt (hval' 1 _ v1 rfl rfl) h1
  obtain ⟨A2, xs2, c2, rfl, hx2⟩ := open_intsAt Try.underlying22 Try.underlying3 cellsInt (hval' 2 _ v2 rfl rfl) h2
  obtain ⟨A3, xs3, c3, rfl, hx3⟩ := open_intsAt Try.underlying22 Try.underlying3 cellsInt (hval' 3 _ v3 rfl rfl) h3
  obtain ⟨B4, rs4, c4, rfl, hx4⟩ := open_gridAt (hval' 4 _ v4 rfl rfl) h4
  obtain ⟨A5, xs5, c5, rfl, hx5⟩ := open_intsAt Try.underlying22 Try.underlying3 cellsInt (hval' 5 _ v5 rfl rfl) h5
  obtain ⟨A6, xs6, c6, rfl, hx6⟩ := open_intsAt Try.underlying22 Try.underlying3 cellsInt (hval' 6 _ v6 rfl rfl) h6
  refine (ip_law _ F0 A1 xs1 _ c1 A2 xs2 _ c2 A3 xs3 _ c3 B4 rs4 _ c4 A5 xs5 _ c5 A6 xs6 _ c6 W hf0 hx1 rfl hx2 rfl hx3 rfl hx4 rfl hx5 rfl hx6 rfl).mono fun e W' ⟨he, hk⟩ => ⟨_, he, ?_⟩
  exact post_of_kp laidOut rfl (by kernel_rfl) rfl Try.underlying4 (fun ds' hd => match ds', hd with | [_, _, _, _, _, _, _], _ => rfl) rfl hW hk

theorem FnExactIsFlowProof_holds : Rows.FnExactIsFlowProofSaid :=
  OpenClaim.holds_of_wide 4 Try.f4 rfl rfl rfl rfl rfl rfl rfl ⟨rfl, rfl, rfl, rfl, rfl⟩ rfl rfl rfl rfl rfl (by kernel_rfl) Try.func4 (by kernel_rfl)
    (of_decide_eq_true (by kernel_rfl)) (by unfold Func.isWrapper; first | (rw [if_pos (by decide +kernel)]; kernel_rfl) | (rw [if_neg (by decide +kernel)]; exact ⟨rfl, rfl⟩))
    (fun os started H enc _ => ip_lifted os started H enc)
end Go.Proofs.Yteaeedeaoddpcaa
