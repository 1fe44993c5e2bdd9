/- FnExactLeastFlow: for every input the program and the reference agree. No condition. -/
import Derived.Test.YtibbjgbbclmfnaaLsAb
import Derived.Test.YtibbjgbbclmfnaaLsAv
import Derived.Test.YtibbjgbbclmfnaaLsAt
namespace Go.Proofs.Ytibbjgbbclmfnaa
open Go.ChangeShapes Go.WideShapes Go.ChangeAt Go.RowKit

set_option maxRecDepth 100000 in
set_option maxHeartbeats 4000000 in
theorem ls_law (f0 : Value) (F0 : Fld) (A1 : Option Addr) (xs1 : List Int) (m1 c1 : Nat) (A2 : Option Addr) (xs2 : List Int) (m2 c2 : Nat) (A3 : Option Addr) (xs3 : List Int) (m3 c3 : Nat) (w : World) (hf0 : FldAt w f0 F0) (hx1 : IntsAt w A1 xs1) (hn1 : xs1.length = m1) (hx2 : IntsAt w A2 xs2) (hn2 : xs2.length = m2) (hx3 : IntsAt w A3 xs3) (hn3 : xs3.length = m3) :
    Calls Try.prog 4 #[f0, .slice A1 m1 c1, .slice A2 m2 c2, .slice A3 m3 c3] w fun e w' => e = .returned (.bool true) ∧ Kp w w' := by
  have Hn1 := Lib.hid hn1; clear hn1
  have Hn2 := Lib.hid hn2; clear hn2
  have Hn3 := Lib.hid hn3; clear hn3
  obtain ⟨A, c, B, d, rfl, hA, hB⟩ := id hf0
  have hk0 : Kp w (w.alloc (.cells #[.slice A F0.op.length c, .slice B F0.di.length d] 25)) := (Kp.refl w).alloc _
  obtain ⟨b0, b1⟩ := box2 w (.slice A F0.op.length c) (.slice B F0.di.length d) 25
  by_cases hm1 : 1048576 < m1
  · go_enter Try.func4, Try.ntmps4
    go_wp2_with fail
    go_ret
    exact ⟨rfl, hk0⟩
  by_cases hm2 : 1048576 < m2
  · go_enter Try.func4, Try.ntmps4
    go_wp2_with fail
    go_ret
    exact ⟨rfl, hk0⟩
  by_cases hm3 : 1048576 < m3
  · go_enter Try.func4, Try.ntmps4
    go_wp2_with fail
    go_ret
    exact ⟨rfl, hk0⟩
  by_cases hb : ¬ F0.bulk ≤ 1048576
  · have hs := Lib.hid (left_big hb)
    go_enter Try.func4, Try.ntmps4
    go_wp2_with fail
    have CC := Lib.hid (szField_any _ F0 _ (hf0.kp hk0))
    with_reducible refine Calls.mono CC.out ?_
    rintro e w1 ⟨rfl, hk1⟩
    rw [hs.out]
    go_wp2_with fail
    go_ret
    exact ⟨rfl, hk0.trans hk1⟩
  replace hb : F0.bulk ≤ 1048576 := Decidable.not_not.1 hb
  have hs := Lib.hid (left_small hb)
  have n1 : ((lfOk F0 xs1 xs2 xs3) != (lfOk F0 xs1 xs2 xs3)) = false := by simp
  have hfk := hf0.kp hk0
  have K0 : Kp w (w.alloc (.cells #[.slice A F0.op.length c, .slice B F0.di.length d] 25)) := hk0
  go_enter Try.func4, Try.ntmps4
  go_wp2_with fail
  generalize w.alloc (.cells #[.slice A F0.op.length c, .slice B F0.di.length d] 25) = w0 at *
  have KB : Kp w0 w0 := Kp.refl _
  have CC := Lib.hid (szField_any _ F0 _ hfk)
  with_reducible refine Calls.mono CC.out ?_
  rintro e w1 ⟨rfl, hkc1⟩
  clear CC
  replace K0 := K0.trans hkc1
  replace KB := KB.trans hkc1
  rw [hs.out]
  have qb0 := KB.get b0; have qb1 := KB.get b1
  go_wp2_with fail
  have CC := Lib.hid (toField_any _ F0 _ (hfk.kp KB) hb)
  with_reducible refine Calls.mono CC.out ?_
  rintro e w2 ⟨vs, rfl, hs0, hkc2⟩
  clear CC qb0 qb1
  replace K0 := K0.trans hkc2
  replace KB := KB.trans hkc2
  have Ks0 : Kp w2 w2 := Kp.refl _
  have qb0 := KB.get b0; have qb1 := KB.get b1
  go_wp2_with fail
  have CC := Lib.hid (toIntS_any A1 xs1 m1 c1 _ (hx1.kp K0) Hn1.out (by omega))
  with_reducible refine Calls.mono CC.out ?_
  rintro e w3 ⟨gs1, rfl, hgs1, hs1, hkc3⟩
  clear CC qb0 qb1
  replace K0 := K0.trans hkc3
  replace KB := KB.trans hkc3
  replace Ks0 := Ks0.trans hkc3
  have Ks1 : Kp w3 w3 := Kp.refl _
  have qb0 := KB.get b0; have qb1 := KB.get b1
  go_wp2_with fail
  have CC := Lib.hid (toIntS_any A2 xs2 m2 c2 _ (hx2.kp K0) Hn2.out (by omega))
  with_reducible refine Calls.mono CC.out ?_
  rintro e w4 ⟨gs2, rfl, hgs2, hs2, hkc4⟩
  clear CC qb0 qb1
  replace K0 := K0.trans hkc4
  replace KB := KB.trans hkc4
  replace Ks0 := Ks0.trans hkc4
  replace Ks1 := Ks1.trans hkc4
  have Ks2 : Kp w4 w4 := Kp.refl _
  have qb0 := KB.get b0; have qb1 := KB.get b1
  go_wp2_with fail
  have CC := Lib.hid (toIntS_any A3 xs3 m3 c3 _ (hx3.kp K0) Hn3.out (by omega))
  with_reducible refine Calls.mono CC.out ?_
  rintro e w5 ⟨gs3, rfl, hgs3, hs3, hkc5⟩
  clear CC qb0 qb1
  replace K0 := K0.trans hkc5
  replace KB := KB.trans hkc5
  replace Ks0 := Ks0.trans hkc5
  replace Ks1 := Ks1.trans hkc5
  replace Ks2 := Ks2.trans hkc5
  have Ks3 : Kp w5 w5 := Kp.refl _
  have qb0 := KB.get b0; have qb1 := KB.get b1
  go_wp2_with fail
  have CC := Lib.hid (specLs_any _ F0 _ xs1 m1 m1 _ xs2 m2 m2 _ xs3 m3 m3 _ ((hs0.small hb).kp Ks0) (hs1.ats Hn1.out (by omega) Ks1) Hn1.out (hs2.ats Hn2.out (by omega) Ks2) Hn2.out (hs3.ats Hn3.out (by omega) Ks3) Hn3.out)
  with_reducible refine Calls.mono CC.out ?_
  rintro e w6 ⟨vr0, rfl, hr0, hkc6⟩
  clear CC qb0 qb1
  replace K0 := K0.trans hkc6
  replace KB := KB.trans hkc6
  replace Ks0 := Ks0.trans hkc6
  replace Ks1 := Ks1.trans hkc6
  replace Ks2 := Ks2.trans hkc6
  replace Ks3 := Ks3.trans hkc6
  obtain ⟨Br0, ccr0, hvr0, hir0⟩ := hr0
  subst hvr0
  have zs0 := K0.le
  have zsb := KB.le
  have KS : Kp w6 w6 := Kp.refl _
  clear Ks0
  clear Ks1
  clear Ks2
  clear Ks3
  have qb0 := KB.get b0; have qb1 := KB.get b1
  go_wp2_with fail
  have CC := Lib.hid (toField_any _ F0 _ (hfk.kp KB) hb)
  with_reducible refine Calls.mono CC.out ?_
  rintro e w7 ⟨vx, rfl, hx0, hkc7⟩
  clear CC qb0 qb1
  replace K0 := K0.trans hkc7
  replace KB := KB.trans hkc7
  replace KS := KS.trans hkc7
  obtain ⟨Ax, cx, Bx, dx, hv2e⟩ := hx0.agg
  subst hv2e
  have hkx := (Kp.refl w7).alloc (.cells #[.slice Ax F0.op.length cx, .slice Bx F0.di.length dx] 29)
  obtain ⟨x0, x1⟩ := box2 w7 (.slice Ax F0.op.length cx) (.slice Bx F0.di.length dx) 29
  have Kx0 : Kp w7 w7 := Kp.refl _
  replace K0 := K0.trans hkx
  replace KB := KB.trans hkx
  replace KS := KS.trans hkx
  replace Kx0 := Kx0.trans hkx
  have KX : Kp (w7.alloc (.cells #[.slice Ax F0.op.length cx, .slice Bx F0.di.length dx] 29)) (w7.alloc (.cells #[.slice Ax F0.op.length cx, .slice Bx F0.di.length dx] 29)) := Kp.refl _
  have qb0 := KB.get b0; have qb1 := KB.get b1
  have qx0 := KX.get x0; have qx1 := KX.get x1
  go_wp2_with fail
  have zpK0_1 := K0.le
  have zpKB_1 := KB.le
  have zpKS_1 := KS.le
  have zpKx0_1 := Kx0.le
  have zpKX_1 := KX.le
  have CC := Lib.hid (toIntS_any A1 xs1 m1 c1 _ (hx1.kp K0) Hn1.out (by omega))
  with_reducible refine Calls.mono CC.out ?_
  rintro e w8 ⟨gx1, rfl, hgx1, hx1r, hkc8⟩
  clear CC qb0 qb1 qx0 qx1
  replace K0 := K0.trans hkc8
  replace KB := KB.trans hkc8
  replace KS := KS.trans hkc8
  replace Kx0 := Kx0.trans hkc8
  replace KX := KX.trans hkc8
  have Kx1 : Kp w8 w8 := Kp.refl _
  have qb0 := KB.get b0; have qb1 := KB.get b1
  have qx0 := KX.get x0; have qx1 := KX.get x1
  go_wp2_with fail
  have zpK0_2 := K0.le
  have zpKB_2 := KB.le
  have zpKS_2 := KS.le
  have zpKx0_2 := Kx0.le
  have zpKX_2 := KX.le
  have zpKx1_2 := Kx1.le
  have CC := Lib.hid (toIntS_any A2 xs2 m2 c2 _ (hx2.kp K0) Hn2.out (by omega))
  with_reducible refine Calls.mono CC.out ?_
  rintro e w9 ⟨gx2, rfl, hgx2, hx2r, hkc9⟩
  clear CC qb0 qb1 qx0 qx1
  replace K0 := K0.trans hkc9
  replace KB := KB.trans hkc9
  replace KS := KS.trans hkc9
  replace Kx0 := Kx0.trans hkc9
  replace KX := KX.trans hkc9
  replace Kx1 := Kx1.trans hkc9
  have Kx2 : Kp w9 w9 := Kp.refl _
  have qb0 := KB.get b0; have qb1 := KB.get b1
  have qx0 := KX.get x0; have qx1 := KX.get x1
  go_wp2_with fail
  have zpK0_3 := K0.le
  have zpKB_3 := KB.le
  have zpKS_3 := KS.le
  have zpKx0_3 := Kx0.le
  have zpKX_3 := KX.le
  have zpKx1_3 := Kx1.le
  have zpKx2_3 := Kx2.le
  have CC := Lib.hid (toIntS_any A3 xs3 m3 c3 _ (hx3.kp K0) Hn3.out (by omega))
  with_reducible refine Calls.mono CC.out ?_
  rintro e w10 ⟨gx3, rfl, hgx3, hx3r, hkc10⟩
  clear CC qb0 qb1 qx0 qx1
  replace K0 := K0.trans hkc10
  replace KB := KB.trans hkc10
  replace KS := KS.trans hkc10
  replace Kx0 := Kx0.trans hkc10
  replace KX := KX.trans hkc10
  replace Kx1 := Kx1.trans hkc10
  replace Kx2 := Kx2.trans hkc10
  have Kx3 : Kp w10 w10 := Kp.refl _
  have qb0 := KB.get b0; have qb1 := KB.get b1
  have qx0 := KX.get x0; have qx1 := KX.get x1
  go_wp2_with fail
  have zx0 := Kx0.le
  have zx1 := Kx1.le
  have zx2 := Kx2.le
  have zx3 := Kx3.le
  have zsp := KS.le
  have CC := Lib.hid (implLs_any _ F0 _ xs1 m1 m1 _ xs2 m2 m2 _ xs3 m3 m3 _ ((hx0.small hb).kp Kx0) (hx1r.ats Hn1.out (by omega) Kx1) Hn1.out (hx2r.ats Hn2.out (by omega) Kx2) Hn2.out (hx3r.ats Hn3.out (by omega) Kx3) Hn3.out)
  with_reducible refine Calls.mono CC.out ?_
  rintro e w11 ⟨vg0, rfl, hg0, hkc11⟩
  clear CC qb0 qb1 qx0 qx1
  replace K0 := K0.trans hkc11
  replace KB := KB.trans hkc11
  replace KS := KS.trans hkc11
  replace Kx0 := Kx0.trans hkc11
  replace KX := KX.trans hkc11
  replace Kx1 := Kx1.trans hkc11
  replace Kx2 := Kx2.trans hkc11
  replace Kx3 := Kx3.trans hkc11
  have hv_g0 := hg0.gridv (lsL_sm F0 xs1 xs2 xs3)
  obtain ⟨Bg0, ccg0, hvg0, hig0⟩ := hv_g0
  subst hvg0
  have KG : Kp w11 w11 := Kp.refl _
  have qb0 := KB.get b0; have qb1 := KB.get b1
  have qx0 := KX.get x0; have qx1 := KX.get x1
  go_wp2_with fail
  have CC := Lib.hid (eqIntSS_any2 _ _ (lsL F0 xs1 xs2 xs3) _ ccg0 ccr0 _ (hig0.kp KG) (hir0.kp KS) rfl)
  with_reducible refine Calls.mono CC.out ?_
  rintro e w12 ⟨rfl, hkc12⟩
  clear CC qb0 qb1 qx0 qx1
  replace K0 := K0.trans hkc12
  replace KB := KB.trans hkc12
  replace KS := KS.trans hkc12
  replace Kx0 := Kx0.trans hkc12
  replace KX := KX.trans hkc12
  replace Kx1 := Kx1.trans hkc12
  replace Kx2 := Kx2.trans hkc12
  replace Kx3 := Kx3.trans hkc12
  replace KG := KG.trans hkc12
  have qb0 := KB.get b0; have qb1 := KB.get b1
  have qx0 := KX.get x0; have qx1 := KX.get x1
  go_wp2_with fail
  have hdk := (Kp.refl w12).drew
  have CC := Lib.hid (toField_any _ F0 _ ((hfk.kp KB).kp hdk) hb)
  have Hx := Lib.hid ((hx0.small hb).kp Kx0)
  have y0 := KX.get x0; have y1 := KX.get x1
  go_cut [78] (fun s wc => s = .bool false ∧ Kp w12 wc)
  case first =>
    go_region_with (first
      | (go_at_call 7; with_reducible refine Calls.mono CC.out ?_; rintro e wa ⟨va, rfl, hva, hka⟩; obtain ⟨Ay, cy, By, dy, hv3e⟩ := hva.agg; subst hv3e; have z0 := hka.get (hdk.get y0); have z1 := hka.get (hdk.get y1))
      | (go_at_call 11; with_reducible refine Calls.mono (eqField_any _ _ F0 _ ((Hx.out.kp hdk).kp hka) (hva.small hb)) ?_; rintro e wb ⟨rfl, hkb⟩))
    all_goals (go_wp2_with fail; go_meet; exact ⟨rfl, (hdk.trans hka).trans hkb⟩)
  case rest =>
    obtain ⟨rfl, hkc⟩ := hcut
    obtain ⟨w13, rfl⟩ : ∃ q : World, q = wc := ⟨_, rfl⟩
    clear CC Hx y0 y1 hdk qb0 qb1 qx0 qx1
    replace K0 := K0.trans hkc
    replace KB := KB.trans hkc
    replace KS := KS.trans hkc
    replace Kx0 := Kx0.trans hkc
    replace KX := KX.trans hkc
    replace Kx1 := Kx1.trans hkc
    replace Kx2 := Kx2.trans hkc
    replace Kx3 := Kx3.trans hkc
    replace KG := KG.trans hkc
    have qb0 := KB.get b0; have qb1 := KB.get b1
    have qx0 := KX.get x0; have qx1 := KX.get x1
    go_wp2_with fail
    have CC := Lib.hid (toIntS_any A1 xs1 m1 c1 _ (hx1.kp K0) Hn1.out (by omega))
    with_reducible refine Calls.mono CC.out ?_
    rintro e w14 ⟨gy1, rfl, hgy1, hy1, hkc14⟩
    clear CC qb0 qb1 qx0 qx1
    replace K0 := K0.trans hkc14
    replace KB := KB.trans hkc14
    replace KS := KS.trans hkc14
    replace Kx0 := Kx0.trans hkc14
    replace KX := KX.trans hkc14
    replace Kx1 := Kx1.trans hkc14
    replace Kx2 := Kx2.trans hkc14
    replace Kx3 := Kx3.trans hkc14
    replace KG := KG.trans hkc14
    have qb0 := KB.get b0; have qb1 := KB.get b1
    have qx0 := KX.get x0; have qx1 := KX.get x1
    go_wp2_with fail
    have CC := Lib.hid (eqIntS_any _ _ xs1 xs1 m1 m1 m1 m1 _ (hx1r.ats Hn1.out (by omega) Kx1) (hy1.ats Hn1.out (by omega) (Kp.refl _)) Hn1.out Hn1.out)
    with_reducible refine Calls.mono CC.out ?_
    rintro e w15 ⟨rfl, hkc15⟩
    clear CC qb0 qb1 qx0 qx1
    replace K0 := K0.trans hkc15
    replace KB := KB.trans hkc15
    replace KS := KS.trans hkc15
    replace Kx0 := Kx0.trans hkc15
    replace KX := KX.trans hkc15
    replace Kx1 := Kx1.trans hkc15
    replace Kx2 := Kx2.trans hkc15
    replace Kx3 := Kx3.trans hkc15
    replace KG := KG.trans hkc15
    simp only [decide_true]
    have qb0 := KB.get b0; have qb1 := KB.get b1
    have qx0 := KX.get x0; have qx1 := KX.get x1
    go_wp2_with fail
    have CC := Lib.hid (toIntS_any A2 xs2 m2 c2 _ (hx2.kp K0) Hn2.out (by omega))
    with_reducible refine Calls.mono CC.out ?_
    rintro e w16 ⟨gy2, rfl, hgy2, hy2, hkc16⟩
    clear CC qb0 qb1 qx0 qx1
    replace K0 := K0.trans hkc16
    replace KB := KB.trans hkc16
    replace KS := KS.trans hkc16
    replace Kx0 := Kx0.trans hkc16
    replace KX := KX.trans hkc16
    replace Kx1 := Kx1.trans hkc16
    replace Kx2 := Kx2.trans hkc16
    replace Kx3 := Kx3.trans hkc16
    replace KG := KG.trans hkc16
    have qb0 := KB.get b0; have qb1 := KB.get b1
    have qx0 := KX.get x0; have qx1 := KX.get x1
    go_wp2_with fail
    have CC := Lib.hid (eqIntS_any _ _ xs2 xs2 m2 m2 m2 m2 _ (hx2r.ats Hn2.out (by omega) Kx2) (hy2.ats Hn2.out (by omega) (Kp.refl _)) Hn2.out Hn2.out)
    with_reducible refine Calls.mono CC.out ?_
    rintro e w17 ⟨rfl, hkc17⟩
    clear CC qb0 qb1 qx0 qx1
    replace K0 := K0.trans hkc17
    replace KB := KB.trans hkc17
    replace KS := KS.trans hkc17
    replace Kx0 := Kx0.trans hkc17
    replace KX := KX.trans hkc17
    replace Kx1 := Kx1.trans hkc17
    replace Kx2 := Kx2.trans hkc17
    replace Kx3 := Kx3.trans hkc17
    replace KG := KG.trans hkc17
    simp only [decide_true]
    have qb0 := KB.get b0; have qb1 := KB.get b1
    have qx0 := KX.get x0; have qx1 := KX.get x1
    go_wp2_with fail
    have CC := Lib.hid (toIntS_any A3 xs3 m3 c3 _ (hx3.kp K0) Hn3.out (by omega))
    with_reducible refine Calls.mono CC.out ?_
    rintro e w18 ⟨gy3, rfl, hgy3, hy3, hkc18⟩
    clear CC qb0 qb1 qx0 qx1
    replace K0 := K0.trans hkc18
    replace KB := KB.trans hkc18
    replace KS := KS.trans hkc18
    replace Kx0 := Kx0.trans hkc18
    replace KX := KX.trans hkc18
    replace Kx1 := Kx1.trans hkc18
    replace Kx2 := Kx2.trans hkc18
    replace Kx3 := Kx3.trans hkc18
    replace KG := KG.trans hkc18
    have qb0 := KB.get b0; have qb1 := KB.get b1
    have qx0 := KX.get x0; have qx1 := KX.get x1
    go_wp2_with fail
    have CC := Lib.hid (eqIntS_any _ _ xs3 xs3 m3 m3 m3 m3 _ (hx3r.ats Hn3.out (by omega) Kx3) (hy3.ats Hn3.out (by omega) (Kp.refl _)) Hn3.out Hn3.out)
    with_reducible refine Calls.mono CC.out ?_
    rintro e w19 ⟨rfl, hkc19⟩
    clear CC qb0 qb1 qx0 qx1
    replace K0 := K0.trans hkc19
    replace KB := KB.trans hkc19
    replace KS := KS.trans hkc19
    replace Kx0 := Kx0.trans hkc19
    replace KX := KX.trans hkc19
    replace Kx1 := Kx1.trans hkc19
    replace Kx2 := Kx2.trans hkc19
    replace Kx3 := Kx3.trans hkc19
    replace KG := KG.trans hkc19
    simp only [decide_true]
    have qb0 := KB.get b0; have qb1 := KB.get b1
    have qx0 := KX.get x0; have qx1 := KX.get x1
    go_wp2_with fail
    have og0 := hg0.kp KG
    clear KG
    have oi1 := Own.ofRow hx1r Hn1.out (by omega) hgx1
    have ol1 := oi1.lt
    have ox1 := oi1.kp Kx1
    clear oi1
    have oi2 := Own.ofRow hx2r Hn2.out (by omega) hgx2
    have ol2 := oi2.lt
    have ox2 := oi2.kp Kx2
    clear oi2
    have oi3 := Own.ofRow hx3r Hn3.out (by omega) hgx3
    have ol3 := oi3.lt
    have ox3 := oi3.kp Kx3
    clear oi3
    have CC := Lib.hid (markField_any _ F0 1 _ _ w19 hx0 Kx0 (by omega) (by omega) hb)
    with_reducible refine Calls.mono CC.out ?_
    rintro e w20 ⟨mk0, rfl, hmk0, hT⟩
    clear CC qb0 qb1 qx0 qx1
    replace K0 := K0.turn hT (fun i hi => by have h1 := hi.1; omega)
    replace KB := KB.turn hT (fun i hi => by have h1 := hi.1; omega)
    replace KS := KS.turn hT (fun i hi => by have h1 := hi.1; omega)
    replace og0 := og0.turn hT (fun i hb2 _ hi => by have h1 := hi.2; omega)
    replace ox1 := ox1.turn hT (fun g hg hi => by have h1 := hi.2; have h2 := (ol1 g hg).1; omega)
    replace ox2 := ox2.turn hT (fun g hg hi => by have h1 := hi.2; have h2 := (ol2 g hg).1; omega)
    replace ox3 := ox3.turn hT (fun g hg hi => by have h1 := hi.2; have h2 := (ol3 g hg).1; omega)
    clear hT
    have qb0 := KB.get b0; have qb1 := KB.get b1
    go_wp2_with fail
    have CC := Lib.hid (markIntS_any _ xs1 (mk0 : Int) _ w20 ox1 (by omega) (by have h1 := Hn1.out; omega))
    with_reducible refine Calls.mono CC.out ?_
    rintro e w21 ⟨rfl, _, hT⟩
    clear CC qb0 qb1
    replace K0 := K0.turn hT (fun i hi => by have h1 := (ol1 _ hi).1; omega)
    replace KB := KB.turn hT (fun i hi => by have h1 := (ol1 _ hi).1; omega)
    replace KS := KS.turn hT (fun i hi => by have h1 := (ol1 _ hi).1; omega)
    replace og0 := og0.turn hT (fun i hb2 _ hi => by have h1 := (ol1 _ hi).2; omega)
    replace ox2 := ox2.turn hT (fun g hg hi => by have h1 := (ol1 _ hi).2; have h2 := (ol2 g hg).1; omega)
    replace ox3 := ox3.turn hT (fun g hg hi => by have h1 := (ol1 _ hi).2; have h2 := (ol3 g hg).1; omega)
    clear hT
    have qb0 := KB.get b0; have qb1 := KB.get b1
    go_wp2_with fail
    have CC := Lib.hid (markIntS_any _ xs2 ((mk0 : Int) + (xs1.length : Int)) _ w21 ox2 (by omega) (by have h1 := Hn1.out; have h2 := Hn2.out; omega))
    with_reducible refine Calls.mono CC.out ?_
    rintro e w22 ⟨rfl, _, hT⟩
    clear CC qb0 qb1
    replace K0 := K0.turn hT (fun i hi => by have h1 := (ol2 _ hi).1; omega)
    replace KB := KB.turn hT (fun i hi => by have h1 := (ol2 _ hi).1; omega)
    replace KS := KS.turn hT (fun i hi => by have h1 := (ol2 _ hi).1; omega)
    replace og0 := og0.turn hT (fun i hb2 _ hi => by have h1 := (ol2 _ hi).2; omega)
    replace ox3 := ox3.turn hT (fun g hg hi => by have h1 := (ol2 _ hi).2; have h2 := (ol3 g hg).1; omega)
    clear hT
    have qb0 := KB.get b0; have qb1 := KB.get b1
    go_wp2_with fail
    have CC := Lib.hid (markIntS_any _ xs3 (((mk0 : Int) + (xs1.length : Int)) + (xs2.length : Int)) _ w22 ox3 (by omega) (by have h1 := Hn1.out; have h2 := Hn2.out; have h3 := Hn3.out; omega))
    with_reducible refine Calls.mono CC.out ?_
    rintro e w23 ⟨rfl, _, hT⟩
    clear CC qb0 qb1
    replace K0 := K0.turn hT (fun i hi => by have h1 := (ol3 _ hi).1; omega)
    replace KB := KB.turn hT (fun i hi => by have h1 := (ol3 _ hi).1; omega)
    replace KS := KS.turn hT (fun i hi => by have h1 := (ol3 _ hi).1; omega)
    replace og0 := og0.turn hT (fun i hb2 _ hi => by have h1 := (ol3 _ hi).2; omega)
    clear hT
    have hng : ¬ (((((mk0 : Int) + (xs1.length : Int)) + (xs2.length : Int)) + (xs3.length : Int)) < 0) := by omega
    have qb0 := KB.get b0; have qb1 := KB.get b1
    go_wp2_with fail
    have CC := Lib.hid (eqIntSS_any2 _ _ (lsL F0 xs1 xs2 xs3) _ ccg0 ccr0 _ (og0.gridOf (lsL_sm F0 xs1 xs2 xs3)) (hir0.kp KS) rfl)
    with_reducible refine Calls.mono CC.out ?_
    rintro e w24 ⟨rfl, hkc24⟩
    clear CC qb0 qb1
    replace K0 := K0.trans hkc24
    replace KB := KB.trans hkc24
    replace KS := KS.trans hkc24
    replace og0 := og0.kp hkc24
    have qb0 := KB.get b0; have qb1 := KB.get b1
    go_wp2_with fail
    have CC := Lib.hid (markG_any _ (lsL F0 xs1 xs2 xs3) _ w24 og0 (lsL_sm F0 xs1 xs2 xs3))
    with_reducible refine Calls.mono CC.out ?_
    rintro e w25 ⟨rfl, om0, hT⟩
    clear CC qb0 qb1
    replace K0 := K0.turn hT (fun i hi => by have h2 := hi.1; omega)
    replace KB := KB.turn hT (fun i hi => by have h2 := hi.1; omega)
    replace KS := KS.turn hT (fun i hi => by have h2 := hi.1; omega)
    clear hT
    have KM0 : Kp w25 w25 := Kp.refl _
    have qb0 := KB.get b0; have qb1 := KB.get b1
    go_wp2_with fail
    have nq : ((1 + (startAt (rowAt ((lsL F0 xs1 xs2 xs3))) ((lsL F0 xs1 xs2 xs3)).length : Int)) != (1 + (startAt (rowAt ((lsL F0 xs1 xs2 xs3))) ((lsL F0 xs1 xs2 xs3)).length : Int))) = false := by simp
    have CC := Lib.hid (heldG_any _ (lsL F0 xs1 xs2 xs3) ((lsL F0 xs1 xs2 xs3)).length ccg0 _ (marked_grid (om0.kp KM0) (lsL_sm F0 xs1 xs2 xs3)) (lsL_sm F0 xs1 xs2 xs3) rfl)
    with_reducible refine Calls.mono CC.out ?_
    rintro e w26 ⟨rfl, hdr26⟩
    have hkc26 := hdr26.kp
    clear CC hdr26 qb0 qb1
    replace K0 := K0.trans hkc26
    replace KB := KB.trans hkc26
    replace KS := KS.trans hkc26
    replace KM0 := KM0.trans hkc26
    have qb0 := KB.get b0; have qb1 := KB.get b1
    go_wp2_with fail
    have CC := Lib.hid (toField_any _ F0 _ (hfk.kp KB) hb)
    with_reducible refine Calls.mono CC.out ?_
    rintro e w27 ⟨vh, rfl, hh0, hkc27⟩
    clear CC qb0 qb1
    replace K0 := K0.trans hkc27
    replace KB := KB.trans hkc27
    replace KS := KS.trans hkc27
    replace KM0 := KM0.trans hkc27
    have Kh0 : Kp w27 w27 := Kp.refl _
    have qb0 := KB.get b0; have qb1 := KB.get b1
    go_wp2_with fail
    have CC := Lib.hid (toIntS_any A1 xs1 m1 c1 _ (hx1.kp K0) Hn1.out (by omega))
    with_reducible refine Calls.mono CC.out ?_
    rintro e w28 ⟨gh1, rfl, hgh1, hh1, hkc28⟩
    clear CC qb0 qb1
    replace K0 := K0.trans hkc28
    replace KB := KB.trans hkc28
    replace KS := KS.trans hkc28
    replace KM0 := KM0.trans hkc28
    replace Kh0 := Kh0.trans hkc28
    have Kh1 : Kp w28 w28 := Kp.refl _
    have qb0 := KB.get b0; have qb1 := KB.get b1
    go_wp2_with fail
    have CC := Lib.hid (toIntS_any A2 xs2 m2 c2 _ (hx2.kp K0) Hn2.out (by omega))
    with_reducible refine Calls.mono CC.out ?_
    rintro e w29 ⟨gh2, rfl, hgh2, hh2, hkc29⟩
    clear CC qb0 qb1
    replace K0 := K0.trans hkc29
    replace KB := KB.trans hkc29
    replace KS := KS.trans hkc29
    replace KM0 := KM0.trans hkc29
    replace Kh0 := Kh0.trans hkc29
    replace Kh1 := Kh1.trans hkc29
    have Kh2 : Kp w29 w29 := Kp.refl _
    have qb0 := KB.get b0; have qb1 := KB.get b1
    go_wp2_with fail
    have CC := Lib.hid (toIntS_any A3 xs3 m3 c3 _ (hx3.kp K0) Hn3.out (by omega))
    with_reducible refine Calls.mono CC.out ?_
    rintro e w30 ⟨gh3, rfl, hgh3, hh3, hkc30⟩
    clear CC qb0 qb1
    replace K0 := K0.trans hkc30
    replace KB := KB.trans hkc30
    replace KS := KS.trans hkc30
    replace KM0 := KM0.trans hkc30
    replace Kh0 := Kh0.trans hkc30
    replace Kh1 := Kh1.trans hkc30
    replace Kh2 := Kh2.trans hkc30
    have Kh3 : Kp w30 w30 := Kp.refl _
    have qb0 := KB.get b0; have qb1 := KB.get b1
    go_wp2_with fail
    have CC := Lib.hid (implLs_any _ F0 _ xs1 m1 m1 _ xs2 m2 m2 _ xs3 m3 m3 _ ((hh0.small hb).kp Kh0) (hh1.ats Hn1.out (by omega) Kh1) Hn1.out (hh2.ats Hn2.out (by omega) Kh2) Hn2.out (hh3.ats Hn3.out (by omega) Kh3) Hn3.out)
    with_reducible refine Calls.mono CC.out ?_
    rintro e w31 ⟨vt0, rfl, ht0, hkc31⟩
    clear CC qb0 qb1
    replace K0 := K0.trans hkc31
    replace KB := KB.trans hkc31
    replace KS := KS.trans hkc31
    replace KM0 := KM0.trans hkc31
    replace Kh0 := Kh0.trans hkc31
    replace Kh1 := Kh1.trans hkc31
    replace Kh2 := Kh2.trans hkc31
    replace Kh3 := Kh3.trans hkc31
    have hv_t0 := ht0.gridv (lsL_sm F0 xs1 xs2 xs3)
    obtain ⟨Bt0, cct0, hvt0, hit0⟩ := hv_t0
    subst hvt0
    clear Kh0
    clear Kh1
    clear Kh2
    clear Kh3
    have KT : Kp w31 w31 := Kp.refl _
    have qb0 := KB.get b0; have qb1 := KB.get b1
    go_wp2_with fail
    have CC := Lib.hid (eqIntSS_any2 _ _ (lsL F0 xs1 xs2 xs3) _ cct0 ccr0 _ (hit0.kp KT) (hir0.kp KS) rfl)
    with_reducible refine Calls.mono CC.out ?_
    rintro e w32 ⟨rfl, hkc32⟩
    clear CC qb0 qb1
    replace K0 := K0.trans hkc32
    replace KB := KB.trans hkc32
    replace KS := KS.trans hkc32
    replace KM0 := KM0.trans hkc32
    replace KT := KT.trans hkc32
    have qb0 := KB.get b0; have qb1 := KB.get b1
    go_wp2_with fail
    have CC := Lib.hid (heldG_any _ (lsL F0 xs1 xs2 xs3) ((lsL F0 xs1 xs2 xs3)).length ccg0 _ (marked_grid (om0.kp KM0) (lsL_sm F0 xs1 xs2 xs3)) (lsL_sm F0 xs1 xs2 xs3) rfl)
    with_reducible refine Calls.mono CC.out ?_
    rintro e w33 ⟨rfl, hdr33⟩
    have hkc33 := hdr33.kp
    clear CC hdr33 qb0 qb1
    replace K0 := K0.trans hkc33
    replace KB := KB.trans hkc33
    replace KS := KS.trans hkc33
    replace KM0 := KM0.trans hkc33
    replace KT := KT.trans hkc33
    have qb0 := KB.get b0; have qb1 := KB.get b1
    go_wp2_with fail
    go_ret
    exact ⟨rfl, K0⟩

set_option maxRecDepth 100000 in
theorem ls_lifted (os : Os) (started : os.Started) (H : Type) (enc : TypeId × Value → H) :
    ReturnsInHanded {} Try.checked os 4 .any (Rows.fnExactLeastFlowSpec.pre6 enc Try.prog Try.f4 Rows.fnExactLeastFlowRow.domain false) (Rows.fnExactLeastFlowSpec.post enc Try.prog Try.f4 false true false false) := by
  refine returnsInHanded_of_change (C := Try.checked) ownKnobs started (by kernel_rfl) Try.func4
    (ChangeSpec.witness6 (enc := enc) (C := Try.checked) false ⟨#[], #[.agg #[.slice none 0 0, .slice none 0 0], .slice none 0 0, .slice none 0 0, .slice none 0 0], []⟩ 8 (by kernel_rfl) (by kernel_rfl) (by kernel_rfl) (by kernel_rfl)) ?_
  intro W base args ds gs before hval hW _ _
  obtain ⟨p, q, hA0, hV, hbf, hz, hn⟩ := id hW
  have hA : DataW.TrodAll enc Try.prog W 0 (fun _ => true) true Try.f4.params.toList args.toList ds p := hA0
  have hval' : ∀ (j : Nat) t v, Try.f4.params[j]? = some t → args[j]? = some v → Value.okWide Try.prog W .any base t v := hval
  rw [Try.params4] at hA hval'
  obtain ⟨v0, v1, v2, v3, d0, d1, d2, d3, p0, p1, p2, p3, rfl, rfl, rfl, h0, h1, h2, h3⟩ := trodAll_four hA
  obtain ⟨F0, hf0⟩ := open_fldAt (hval' 0 _ v0 rfl rfl) h0
  obtain ⟨A1, xs1, c1, rfl, hx1⟩ := open_intsAt Try.underlying22 Try.underlying3 cellsInt (hval' 1 _ v1 rfl rfl) h1
  obtain ⟨A2, xs2, c2, rfl, hx2⟩ := open_intsAt Try.underlying22 Try.underlying3 cellsInt (hval' 2 _ v2 rfl rfl) h2
  obtain ⟨A3, xs3, c3, rfl, hx3⟩ := open_intsAt Try.underlying22 Try.underlying3 cellsInt (hval' 3 _ v3 rfl rfl) h3
  refine (ls_law _ F0 A1 xs1 _ c1 A2 xs2 _ c2 A3 xs3 _ c3 W hf0 hx1 rfl hx2 rfl hx3 rfl).mono fun e W' ⟨he, hk⟩ => ⟨_, he, ?_⟩
  exact post_of_kp laidOut rfl (by kernel_rfl) rfl Try.underlying4 (fun ds' hd => match ds', hd with | [_, _, _, _], _ => rfl) rfl hW hk

theorem FnExactLeastFlow_holds : Rows.FnExactLeastFlowSaid :=
  OpenClaim.holds_of_wide 4 Try.f4 rfl rfl rfl rfl rfl rfl rfl ⟨rfl, rfl, rfl, rfl, rfl⟩ rfl rfl rfl rfl rfl (by kernel_rfl) Try.func4 (by kernel_rfl)
    (of_decide_eq_true (by kernel_rfl)) (by unfold Func.isWrapper; first | (rw [if_pos (by decide +kernel)]; kernel_rfl) | (rw [if_neg (by decide +kernel)]; exact ⟨rfl, rfl⟩))
    (fun os started H enc _ => ls_lifted os started H enc)
end Go.Proofs.Ytibbjgbbclmfnaa
