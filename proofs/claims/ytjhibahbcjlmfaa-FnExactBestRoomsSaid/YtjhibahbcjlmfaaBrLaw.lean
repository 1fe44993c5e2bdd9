/- FnExactBestRooms: for every input the program and the reference agree. No condition. -/
import Derived.Test.YtjhibahbcjlmfaaBrAb
import Derived.Test.YtjhibahbcjlmfaaBrAv
namespace Go.Proofs.Ytjhibahbcjlmfaa
open Go.ChangeShapes Go.WideShapes Go.ChangeAt Go.RowKit

set_option maxRecDepth 100000 in
set_option maxHeartbeats 4000000 in
theorem br_law (f0 : Value) (F0 : Fld) (A1 : Option Addr) (xs1 : List Int) (m1 c1 : Nat) (A2 : Option Addr) (xs2 : List Int) (m2 c2 : Nat) (w : World) (hf0 : FldAt w f0 F0) (hx1 : IntsAt w A1 xs1) (hn1 : xs1.length = m1) (hx2 : IntsAt w A2 xs2) (hn2 : xs2.length = m2) :
    Calls Try.prog 3 #[f0, .slice A1 m1 c1, .slice A2 m2 c2] w fun e w' => e = .returned (.bool true) ∧ Kp w w' := by
  have Hn1 := Lib.hid hn1; clear hn1
  have Hn2 := Lib.hid hn2; clear hn2
  obtain ⟨A, c, B, d, rfl, hA, hB⟩ := id hf0
  have hk0 : Kp w (w.alloc (.cells #[.slice A F0.op.length c, .slice B F0.di.length d] 25)) := (Kp.refl w).alloc _
  obtain ⟨b0, b1⟩ := box2 w (.slice A F0.op.length c) (.slice B F0.di.length d) 25
  by_cases hm1 : 1048576 < m1
  · go_enter Try.func3, Try.ntmps3
    go_wp2_with fail
    go_ret
    exact ⟨rfl, hk0⟩
  by_cases hm2 : 1048576 < m2
  · go_enter Try.func3, Try.ntmps3
    go_wp2_with fail
    go_ret
    exact ⟨rfl, hk0⟩
  by_cases hb : ¬ F0.bulk ≤ 1048576
  · have hs := Lib.hid (left_big hb)
    go_enter Try.func3, Try.ntmps3
    go_wp2_with fail
    have CC := Lib.hid (szField_any _ F0 _ (hf0.kp hk0))
    with_reducible refine Calls.mono CC.out ?_
    rintro e w1 ⟨rfl, hk1⟩
    rw [hs.out]
    go_wp2_with fail
    go_ret
    exact ⟨rfl, hk0.trans hk1⟩
  replace hb : F0.bulk ≤ 1048576 := Decidable.not_not.1 hb
  have hs := Lib.hid (left_small hb)
  have n1 : ((brVal F0 xs1 xs2) != (brVal F0 xs1 xs2)) = false := by simp
  have n2 : ((brOk F0 xs1 xs2) != (brOk F0 xs1 xs2)) = false := by simp
  have hfk := hf0.kp hk0
  have K0 : Kp w (w.alloc (.cells #[.slice A F0.op.length c, .slice B F0.di.length d] 25)) := hk0
  go_enter Try.func3, Try.ntmps3
  go_wp2_with fail
  generalize w.alloc (.cells #[.slice A F0.op.length c, .slice B F0.di.length d] 25) = w0 at *
  have KB : Kp w0 w0 := Kp.refl _
  have CC := Lib.hid (szField_any _ F0 _ hfk)
  with_reducible refine Calls.mono CC.out ?_
  rintro e w1 ⟨rfl, hkc1⟩
  clear CC
  replace K0 := K0.trans hkc1
  replace KB := KB.trans hkc1
  rw [hs.out]
  have qb0 := KB.get b0; have qb1 := KB.get b1
  go_wp2_with fail
  have CC := Lib.hid (toField_any _ F0 _ (hfk.kp KB) hb)
  with_reducible refine Calls.mono CC.out ?_
  rintro e w2 ⟨vs, rfl, hs0, hkc2⟩
  clear CC qb0 qb1
  replace K0 := K0.trans hkc2
  replace KB := KB.trans hkc2
  have Ks0 : Kp w2 w2 := Kp.refl _
  have qb0 := KB.get b0; have qb1 := KB.get b1
  go_wp2_with fail
  have CC := Lib.hid (toIntS_any A1 xs1 m1 c1 _ (hx1.kp K0) Hn1.out (by omega))
  with_reducible refine Calls.mono CC.out ?_
  rintro e w3 ⟨gs1, rfl, hgs1, hs1, hkc3⟩
  clear CC qb0 qb1
  replace K0 := K0.trans hkc3
  replace KB := KB.trans hkc3
  replace Ks0 := Ks0.trans hkc3
  have Ks1 : Kp w3 w3 := Kp.refl _
  have qb0 := KB.get b0; have qb1 := KB.get b1
  go_wp2_with fail
  have CC := Lib.hid (toIntS_any A2 xs2 m2 c2 _ (hx2.kp K0) Hn2.out (by omega))
  with_reducible refine Calls.mono CC.out ?_
  rintro e w4 ⟨gs2, rfl, hgs2, hs2, hkc4⟩
  clear CC qb0 qb1
  replace K0 := K0.trans hkc4
  replace KB := KB.trans hkc4
  replace Ks0 := Ks0.trans hkc4
  replace Ks1 := Ks1.trans hkc4
  have Ks2 : Kp w4 w4 := Kp.refl _
  have qb0 := KB.get b0; have qb1 := KB.get b1
  go_wp2_with fail
  have CC := Lib.hid (specBr_any _ F0 _ xs1 m1 m1 _ xs2 m2 m2 _ ((hs0.small hb).kp Ks0) (hs1.ats Hn1.out (by omega) Ks1) Hn1.out (hs2.ats Hn2.out (by omega) Ks2) Hn2.out)
  with_reducible refine Calls.mono CC.out ?_
  rintro e w5 ⟨vr0, rfl, hr0, hkc5⟩
  clear CC qb0 qb1
  replace K0 := K0.trans hkc5
  replace KB := KB.trans hkc5
  replace Ks0 := Ks0.trans hkc5
  replace Ks1 := Ks1.trans hkc5
  replace Ks2 := Ks2.trans hkc5
  obtain ⟨Br0, ccr0, hvr0, hir0⟩ := hr0.ints (by have := brL_len F0 xs1 xs2; omega)
  subst hvr0
  have zs0 := K0.le
  have zsb := KB.le
  have KS : Kp w5 w5 := Kp.refl _
  clear Ks0
  clear Ks1
  clear Ks2
  have qb0 := KB.get b0; have qb1 := KB.get b1
  go_wp2_with fail
  have CC := Lib.hid (toField_any _ F0 _ (hfk.kp KB) hb)
  with_reducible refine Calls.mono CC.out ?_
  rintro e w6 ⟨vx, rfl, hx0, hkc6⟩
  clear CC qb0 qb1
  replace K0 := K0.trans hkc6
  replace KB := KB.trans hkc6
  replace KS := KS.trans hkc6
  obtain ⟨Ax, cx, Bx, dx, hv2e⟩ := hx0.agg
  subst hv2e
  have hkx := (Kp.refl w6).alloc (.cells #[.slice Ax F0.op.length cx, .slice Bx F0.di.length dx] 29)
  obtain ⟨x0, x1⟩ := box2 w6 (.slice Ax F0.op.length cx) (.slice Bx F0.di.length dx) 29
  have Kx0 : Kp w6 w6 := Kp.refl _
  replace K0 := K0.trans hkx
  replace KB := KB.trans hkx
  replace KS := KS.trans hkx
  replace Kx0 := Kx0.trans hkx
  have KX : Kp (w6.alloc (.cells #[.slice Ax F0.op.length cx, .slice Bx F0.di.length dx] 29)) (w6.alloc (.cells #[.slice Ax F0.op.length cx, .slice Bx F0.di.length dx] 29)) := Kp.refl _
  have qb0 := KB.get b0; have qb1 := KB.get b1
  have qx0 := KX.get x0; have qx1 := KX.get x1
  go_wp2_with fail
  have zpK0_1 := K0.le
  have zpKB_1 := KB.le
  have zpKS_1 := KS.le
  have zpKx0_1 := Kx0.le
  have zpKX_1 := KX.le
  have CC := Lib.hid (toIntS_any A1 xs1 m1 c1 _ (hx1.kp K0) Hn1.out (by omega))
  with_reducible refine Calls.mono CC.out ?_
  rintro e w7 ⟨gx1, rfl, hgx1, hx1r, hkc7⟩
  clear CC qb0 qb1 qx0 qx1
  replace K0 := K0.trans hkc7
  replace KB := KB.trans hkc7
  replace KS := KS.trans hkc7
  replace Kx0 := Kx0.trans hkc7
  replace KX := KX.trans hkc7
  have Kx1 : Kp w7 w7 := Kp.refl _
  have qb0 := KB.get b0; have qb1 := KB.get b1
  have qx0 := KX.get x0; have qx1 := KX.get x1
  go_wp2_with fail
  have zpK0_2 := K0.le
  have zpKB_2 := KB.le
  have zpKS_2 := KS.le
  have zpKx0_2 := Kx0.le
  have zpKX_2 := KX.le
  have zpKx1_2 := Kx1.le
  have CC := Lib.hid (toIntS_any A2 xs2 m2 c2 _ (hx2.kp K0) Hn2.out (by omega))
  with_reducible refine Calls.mono CC.out ?_
  rintro e w8 ⟨gx2, rfl, hgx2, hx2r, hkc8⟩
  clear CC qb0 qb1 qx0 qx1
  replace K0 := K0.trans hkc8
  replace KB := KB.trans hkc8
  replace KS := KS.trans hkc8
  replace Kx0 := Kx0.trans hkc8
  replace KX := KX.trans hkc8
  replace Kx1 := Kx1.trans hkc8
  have Kx2 : Kp w8 w8 := Kp.refl _
  have qb0 := KB.get b0; have qb1 := KB.get b1
  have qx0 := KX.get x0; have qx1 := KX.get x1
  go_wp2_with fail
  have zx0 := Kx0.le
  have zx1 := Kx1.le
  have zx2 := Kx2.le
  have zsp := KS.le
  have CC := Lib.hid (implBr_any _ F0 _ xs1 m1 m1 _ xs2 m2 m2 _ ((hx0.small hb).kp Kx0) (hx1r.ats Hn1.out (by omega) Kx1) Hn1.out (hx2r.ats Hn2.out (by omega) Kx2) Hn2.out)
  with_reducible refine Calls.mono CC.out ?_
  rintro e w9 ⟨vg0, rfl, hg0, hkc9⟩
  clear CC qb0 qb1 qx0 qx1
  replace K0 := K0.trans hkc9
  replace KB := KB.trans hkc9
  replace KS := KS.trans hkc9
  replace Kx0 := Kx0.trans hkc9
  replace KX := KX.trans hkc9
  replace Kx1 := Kx1.trans hkc9
  replace Kx2 := Kx2.trans hkc9
  obtain ⟨Bg0, ccg0, hvg0, hig0⟩ := hg0.ints (by have := brL_len F0 xs1 xs2; omega)
  subst hvg0
  have KG : Kp w9 w9 := Kp.refl _
  have qb0 := KB.get b0; have qb1 := KB.get b1
  have qx0 := KX.get x0; have qx1 := KX.get x1
  go_wp2_with fail
  have CC := Lib.hid (eqIntS_any _ _ (brL F0 xs1 xs2) (brL F0 xs1 xs2) _ _ ccg0 ccr0 _ (hig0.kp KG) (hir0.kp KS) rfl rfl)
  with_reducible refine Calls.mono CC.out ?_
  rintro e w10 ⟨rfl, hkc10⟩
  clear CC qb0 qb1 qx0 qx1
  replace K0 := K0.trans hkc10
  replace KB := KB.trans hkc10
  replace KS := KS.trans hkc10
  replace Kx0 := Kx0.trans hkc10
  replace KX := KX.trans hkc10
  replace Kx1 := Kx1.trans hkc10
  replace Kx2 := Kx2.trans hkc10
  replace KG := KG.trans hkc10
  simp only [decide_true]
  have qb0 := KB.get b0; have qb1 := KB.get b1
  have qx0 := KX.get x0; have qx1 := KX.get x1
  go_wp2_with fail
  have hdk := (Kp.refl w10).drew
  have CC := Lib.hid (toField_any _ F0 _ ((hfk.kp KB).kp hdk) hb)
  have Hx := Lib.hid ((hx0.small hb).kp Kx0)
  have y0 := KX.get x0; have y1 := KX.get x1
  go_cut [77] (fun s wc => s = .bool false ∧ Kp w10 wc)
  case first =>
    go_region_with (first
      | (go_at_call 6; with_reducible refine Calls.mono CC.out ?_; rintro e wa ⟨va, rfl, hva, hka⟩; obtain ⟨Ay, cy, By, dy, hv3e⟩ := hva.agg; subst hv3e; have z0 := hka.get (hdk.get y0); have z1 := hka.get (hdk.get y1))
      | (go_at_call 10; with_reducible refine Calls.mono (eqField_any _ _ F0 _ ((Hx.out.kp hdk).kp hka) (hva.small hb)) ?_; rintro e wb ⟨rfl, hkb⟩))
    all_goals (go_wp2_with fail; go_meet; exact ⟨rfl, (hdk.trans hka).trans hkb⟩)
  case rest =>
    obtain ⟨rfl, hkc⟩ := hcut
    obtain ⟨w11, rfl⟩ : ∃ q : World, q = wc := ⟨_, rfl⟩
    clear CC Hx y0 y1 hdk qb0 qb1 qx0 qx1
    replace K0 := K0.trans hkc
    replace KB := KB.trans hkc
    replace KS := KS.trans hkc
    replace Kx0 := Kx0.trans hkc
    replace KX := KX.trans hkc
    replace Kx1 := Kx1.trans hkc
    replace Kx2 := Kx2.trans hkc
    replace KG := KG.trans hkc
    have qb0 := KB.get b0; have qb1 := KB.get b1
    have qx0 := KX.get x0; have qx1 := KX.get x1
    go_wp2_with fail
    have CC := Lib.hid (toIntS_any A1 xs1 m1 c1 _ (hx1.kp K0) Hn1.out (by omega))
    with_reducible refine Calls.mono CC.out ?_
    rintro e w12 ⟨gy1, rfl, hgy1, hy1, hkc12⟩
    clear CC qb0 qb1 qx0 qx1
    replace K0 := K0.trans hkc12
    replace KB := KB.trans hkc12
    replace KS := KS.trans hkc12
    replace Kx0 := Kx0.trans hkc12
    replace KX := KX.trans hkc12
    replace Kx1 := Kx1.trans hkc12
    replace Kx2 := Kx2.trans hkc12
    replace KG := KG.trans hkc12
    have qb0 := KB.get b0; have qb1 := KB.get b1
    have qx0 := KX.get x0; have qx1 := KX.get x1
    go_wp2_with fail
    have CC := Lib.hid (eqIntS_any _ _ xs1 xs1 m1 m1 m1 m1 _ (hx1r.ats Hn1.out (by omega) Kx1) (hy1.ats Hn1.out (by omega) (Kp.refl _)) Hn1.out Hn1.out)
    with_reducible refine Calls.mono CC.out ?_
    rintro e w13 ⟨rfl, hkc13⟩
    clear CC qb0 qb1 qx0 qx1
    replace K0 := K0.trans hkc13
    replace KB := KB.trans hkc13
    replace KS := KS.trans hkc13
    replace Kx0 := Kx0.trans hkc13
    replace KX := KX.trans hkc13
    replace Kx1 := Kx1.trans hkc13
    replace Kx2 := Kx2.trans hkc13
    replace KG := KG.trans hkc13
    simp only [decide_true]
    have qb0 := KB.get b0; have qb1 := KB.get b1
    have qx0 := KX.get x0; have qx1 := KX.get x1
    go_wp2_with fail
    have CC := Lib.hid (toIntS_any A2 xs2 m2 c2 _ (hx2.kp K0) Hn2.out (by omega))
    with_reducible refine Calls.mono CC.out ?_
    rintro e w14 ⟨gy2, rfl, hgy2, hy2, hkc14⟩
    clear CC qb0 qb1 qx0 qx1
    replace K0 := K0.trans hkc14
    replace KB := KB.trans hkc14
    replace KS := KS.trans hkc14
    replace Kx0 := Kx0.trans hkc14
    replace KX := KX.trans hkc14
    replace Kx1 := Kx1.trans hkc14
    replace Kx2 := Kx2.trans hkc14
    replace KG := KG.trans hkc14
    have qb0 := KB.get b0; have qb1 := KB.get b1
    have qx0 := KX.get x0; have qx1 := KX.get x1
    go_wp2_with fail
    have CC := Lib.hid (eqIntS_any _ _ xs2 xs2 m2 m2 m2 m2 _ (hx2r.ats Hn2.out (by omega) Kx2) (hy2.ats Hn2.out (by omega) (Kp.refl _)) Hn2.out Hn2.out)
    with_reducible refine Calls.mono CC.out ?_
    rintro e w15 ⟨rfl, hkc15⟩
    clear CC qb0 qb1 qx0 qx1
    replace K0 := K0.trans hkc15
    replace KB := KB.trans hkc15
    replace KS := KS.trans hkc15
    replace Kx0 := Kx0.trans hkc15
    replace KX := KX.trans hkc15
    replace Kx1 := Kx1.trans hkc15
    replace Kx2 := Kx2.trans hkc15
    replace KG := KG.trans hkc15
    simp only [decide_true]
    have qb0 := KB.get b0; have qb1 := KB.get b1
    have qx0 := KX.get x0; have qx1 := KX.get x1
    go_wp2_with fail
    have og0 := hg0.kp KG
    clear KG
    have oi1 := Own.ofRow hx1r Hn1.out (by omega) hgx1
    have ol1 := oi1.lt
    have ox1 := oi1.kp Kx1
    clear oi1
    have oi2 := Own.ofRow hx2r Hn2.out (by omega) hgx2
    have ol2 := oi2.lt
    have ox2 := oi2.kp Kx2
    clear oi2
    have CC := Lib.hid (markField_any _ F0 1 _ _ w15 hx0 Kx0 (by omega) (by omega) hb)
    with_reducible refine Calls.mono CC.out ?_
    rintro e w16 ⟨mk0, rfl, hmk0, hT⟩
    clear CC qb0 qb1 qx0 qx1
    replace K0 := K0.turn hT (fun i hi => by have h1 := hi.1; omega)
    replace KB := KB.turn hT (fun i hi => by have h1 := hi.1; omega)
    replace KS := KS.turn hT (fun i hi => by have h1 := hi.1; omega)
    replace og0 := og0.turn hT (fun g hg hi => by have h1 := hi.2; have h2 := (hg0.lt g hg).1; omega)
    replace ox1 := ox1.turn hT (fun g hg hi => by have h1 := hi.2; have h2 := (ol1 g hg).1; omega)
    replace ox2 := ox2.turn hT (fun g hg hi => by have h1 := hi.2; have h2 := (ol2 g hg).1; omega)
    clear hT
    have qb0 := KB.get b0; have qb1 := KB.get b1
    go_wp2_with fail
    have CC := Lib.hid (markIntS_any _ xs1 (mk0 : Int) _ w16 ox1 (by omega) (by have h1 := Hn1.out; omega))
    with_reducible refine Calls.mono CC.out ?_
    rintro e w17 ⟨rfl, _, hT⟩
    clear CC qb0 qb1
    replace K0 := K0.turn hT (fun i hi => by have h1 := (ol1 _ hi).1; omega)
    replace KB := KB.turn hT (fun i hi => by have h1 := (ol1 _ hi).1; omega)
    replace KS := KS.turn hT (fun i hi => by have h1 := (ol1 _ hi).1; omega)
    replace og0 := og0.turn hT (fun g hg hi => by have h1 := (ol1 _ hi).2; have h2 := (hg0.lt g hg).1; omega)
    replace ox2 := ox2.turn hT (fun g hg hi => by have h1 := (ol1 _ hi).2; have h2 := (ol2 g hg).1; omega)
    clear hT
    have qb0 := KB.get b0; have qb1 := KB.get b1
    go_wp2_with fail
    have CC := Lib.hid (markIntS_any _ xs2 ((mk0 : Int) + (xs1.length : Int)) _ w17 ox2 (by omega) (by have h1 := Hn1.out; have h2 := Hn2.out; omega))
    with_reducible refine Calls.mono CC.out ?_
    rintro e w18 ⟨rfl, _, hT⟩
    clear CC qb0 qb1
    replace K0 := K0.turn hT (fun i hi => by have h1 := (ol2 _ hi).1; omega)
    replace KB := KB.turn hT (fun i hi => by have h1 := (ol2 _ hi).1; omega)
    replace KS := KS.turn hT (fun i hi => by have h1 := (ol2 _ hi).1; omega)
    replace og0 := og0.turn hT (fun g hg hi => by have h1 := (ol2 _ hi).2; have h2 := (hg0.lt g hg).1; omega)
    clear hT
    have hng : ¬ ((((mk0 : Int) + (xs1.length : Int)) + (xs2.length : Int)) < 0) := by omega
    have qb0 := KB.get b0; have qb1 := KB.get b1
    go_wp2_with fail
    have CC := Lib.hid (eqIntS_any _ _ (brL F0 xs1 xs2) (brL F0 xs1 xs2) _ _ ccg0 ccr0 _ (og0.intsOf (by have := brL_len F0 xs1 xs2; omega)) (hir0.kp KS) rfl rfl)
    with_reducible refine Calls.mono CC.out ?_
    rintro e w19 ⟨rfl, hkc19⟩
    clear CC qb0 qb1
    replace K0 := K0.trans hkc19
    replace KB := KB.trans hkc19
    replace KS := KS.trans hkc19
    replace og0 := og0.kp hkc19
    simp only [decide_true]
    have qb0 := KB.get b0; have qb1 := KB.get b1
    go_wp2_with fail
    have CC := Lib.hid (markIntS_any _ (brL F0 xs1 xs2) 1 _ w19 og0 (by omega) (by have := brL_len F0 xs1 xs2; omega))
    with_reducible refine Calls.mono CC.out ?_
    rintro e w20 ⟨rfl, om0, hT⟩
    clear CC qb0 qb1
    replace K0 := K0.turn hT (fun i hi => by have h2 := (hg0.lt i hi).1; omega)
    replace KB := KB.turn hT (fun i hi => by have h2 := (hg0.lt i hi).1; omega)
    replace KS := KS.turn hT (fun i hi => by have h2 := (hg0.lt i hi).1; omega)
    clear hT
    have KM0 : Kp w20 w20 := Kp.refl _
    have qb0 := KB.get b0; have qb1 := KB.get b1
    go_wp2_with fail
    have nq : ((1 + ((brL F0 xs1 xs2).length : Int)) != (1 + ((brL F0 xs1 xs2).length : Int))) = false := by simp
    have CC := Lib.hid (heldIntS_any _ (brL F0 xs1 xs2).length ccg0 1 _ ((om0.kp KM0).intsOf (by rw [seqF_len]; have := brL_len F0 xs1 xs2; omega)) (by omega) (by have := brL_len F0 xs1 xs2; omega))
    with_reducible refine Calls.mono CC.out ?_
    rintro e w21 ⟨rfl, hdr21⟩
    have hkc21 := hdr21.kp
    clear CC hdr21 qb0 qb1
    replace K0 := K0.trans hkc21
    replace KB := KB.trans hkc21
    replace KS := KS.trans hkc21
    replace KM0 := KM0.trans hkc21
    have qb0 := KB.get b0; have qb1 := KB.get b1
    go_wp2_with fail
    have CC := Lib.hid (toField_any _ F0 _ (hfk.kp KB) hb)
    with_reducible refine Calls.mono CC.out ?_
    rintro e w22 ⟨vh, rfl, hh0, hkc22⟩
    clear CC qb0 qb1
    replace K0 := K0.trans hkc22
    replace KB := KB.trans hkc22
    replace KS := KS.trans hkc22
    replace KM0 := KM0.trans hkc22
    have Kh0 : Kp w22 w22 := Kp.refl _
    have qb0 := KB.get b0; have qb1 := KB.get b1
    go_wp2_with fail
    have CC := Lib.hid (toIntS_any A1 xs1 m1 c1 _ (hx1.kp K0) Hn1.out (by omega))
    with_reducible refine Calls.mono CC.out ?_
    rintro e w23 ⟨gh1, rfl, hgh1, hh1, hkc23⟩
    clear CC qb0 qb1
    replace K0 := K0.trans hkc23
    replace KB := KB.trans hkc23
    replace KS := KS.trans hkc23
    replace KM0 := KM0.trans hkc23
    replace Kh0 := Kh0.trans hkc23
    have Kh1 : Kp w23 w23 := Kp.refl _
    have qb0 := KB.get b0; have qb1 := KB.get b1
    go_wp2_with fail
    have CC := Lib.hid (toIntS_any A2 xs2 m2 c2 _ (hx2.kp K0) Hn2.out (by omega))
    with_reducible refine Calls.mono CC.out ?_
    rintro e w24 ⟨gh2, rfl, hgh2, hh2, hkc24⟩
    clear CC qb0 qb1
    replace K0 := K0.trans hkc24
    replace KB := KB.trans hkc24
    replace KS := KS.trans hkc24
    replace KM0 := KM0.trans hkc24
    replace Kh0 := Kh0.trans hkc24
    replace Kh1 := Kh1.trans hkc24
    have Kh2 : Kp w24 w24 := Kp.refl _
    have qb0 := KB.get b0; have qb1 := KB.get b1
    go_wp2_with fail
    have CC := Lib.hid (implBr_any _ F0 _ xs1 m1 m1 _ xs2 m2 m2 _ ((hh0.small hb).kp Kh0) (hh1.ats Hn1.out (by omega) Kh1) Hn1.out (hh2.ats Hn2.out (by omega) Kh2) Hn2.out)
    with_reducible refine Calls.mono CC.out ?_
    rintro e w25 ⟨vt0, rfl, ht0, hkc25⟩
    clear CC qb0 qb1
    replace K0 := K0.trans hkc25
    replace KB := KB.trans hkc25
    replace KS := KS.trans hkc25
    replace KM0 := KM0.trans hkc25
    replace Kh0 := Kh0.trans hkc25
    replace Kh1 := Kh1.trans hkc25
    replace Kh2 := Kh2.trans hkc25
    obtain ⟨Bt0, cct0, hvt0, hit0⟩ := ht0.ints (by have := brL_len F0 xs1 xs2; omega)
    subst hvt0
    clear Kh0
    clear Kh1
    clear Kh2
    have KT : Kp w25 w25 := Kp.refl _
    have qb0 := KB.get b0; have qb1 := KB.get b1
    go_wp2_with fail
    have CC := Lib.hid (eqIntS_any _ _ (brL F0 xs1 xs2) (brL F0 xs1 xs2) _ _ cct0 ccr0 _ (hit0.kp KT) (hir0.kp KS) rfl rfl)
    with_reducible refine Calls.mono CC.out ?_
    rintro e w26 ⟨rfl, hkc26⟩
    clear CC qb0 qb1
    replace K0 := K0.trans hkc26
    replace KB := KB.trans hkc26
    replace KS := KS.trans hkc26
    replace KM0 := KM0.trans hkc26
    replace KT := KT.trans hkc26
    simp only [decide_true]
    have qb0 := KB.get b0; have qb1 := KB.get b1
    go_wp2_with fail
    have CC := Lib.hid (heldIntS_any _ (brL F0 xs1 xs2).length ccg0 1 _ ((om0.kp KM0).intsOf (by rw [seqF_len]; have := brL_len F0 xs1 xs2; omega)) (by omega) (by have := brL_len F0 xs1 xs2; omega))
    with_reducible refine Calls.mono CC.out ?_
    rintro e w27 ⟨rfl, hdr27⟩
    have hkc27 := hdr27.kp
    clear CC hdr27 qb0 qb1
    replace K0 := K0.trans hkc27
    replace KB := KB.trans hkc27
    replace KS := KS.trans hkc27
    replace KM0 := KM0.trans hkc27
    replace KT := KT.trans hkc27
    have qb0 := KB.get b0; have qb1 := KB.get b1
    go_wp2_with fail
    go_ret
    exact ⟨rfl, K0⟩

set_option maxRecDepth 100000 in
theorem br_lifted (os : Os) (started : os.Started) (H : Type) (enc : TypeId × Value → H) :
    ReturnsInHanded {} Try.checked os 3 .any (Rows.fnExactBestRoomsSpec.pre6 enc Try.prog Try.f3 Rows.fnExactBestRoomsRow.domain false) (Rows.fnExactBestRoomsSpec.post enc Try.prog Try.f3 false true false false) := by
  refine returnsInHanded_of_change (C := Try.checked) ownKnobs started (by kernel_rfl) Try.func3
    (ChangeSpec.witness6 (enc := enc) (C := Try.checked) false ⟨#[], #[.agg #[.slice none 0 0, .slice none 0 0], .slice none 0 0, .slice none 0 0], []⟩ 8 (by kernel_rfl) (by kernel_rfl) (by kernel_rfl) (by kernel_rfl)) ?_
  intro W base args ds gs before hval hW _ _
  obtain ⟨p, q, hA0, hV, hbf, hz, hn⟩ := id hW
  have hA : DataW.TrodAll enc Try.prog W 0 (fun _ => true) true Try.f3.params.toList args.toList ds p := hA0
  have hval' : ∀ (j : Nat) t v, Try.f3.params[j]? = some t → args[j]? = some v → Value.okWide Try.prog W .any base t v := hval
  rw [Try.params3] at hA hval'
  obtain ⟨v0, v1, v2, d0, d1, d2, p0, p1, p2, rfl, rfl, rfl, h0, h1, h2⟩ := trodAll_three hA
  obtain ⟨F0, hf0⟩ := open_fldAt (hval' 0 _ v0 rfl rfl) h0
  obtain ⟨A1, xs1, c1, rfl, hx1⟩ := open_intsAt Try.underlying22 Try.underlying3 cellsInt (hval' 1 _ v1 rfl rfl) h1
  obtain ⟨A2, xs2, c2, rfl, hx2⟩ := open_intsAt Try.underlying22 Try.underlying3 cellsInt (hval' 2 _ v2 rfl rfl) h2
  refine (br_law _ F0 A1 xs1 _ c1 A2 xs2 _ c2 W hf0 hx1 rfl hx2 rfl).mono fun e W' ⟨he, hk⟩ => ⟨_, he, ?_⟩
  exact post_of_kp laidOut rfl (by kernel_rfl) rfl Try.underlying4 (fun ds' hd => match ds', hd with | [_, _, _], _ => rfl) rfl hW hk

theorem FnExactBestRooms_holds : Rows.FnExactBestRoomsSaid :=
  OpenClaim.holds_of_wide 3 Try.f3 rfl rfl rfl rfl rfl rfl rfl ⟨rfl, rfl, rfl, rfl, rfl⟩ rfl rfl rfl rfl rfl (by kernel_rfl) Try.func3 (by kernel_rfl)
    (of_decide_eq_true (by kernel_rfl)) (by unfold Func.isWrapper; first | (rw [if_pos (by decide +kernel)]; kernel_rfl) | (rw [if_neg (by decide +kernel)]; exact ⟨rfl, rfl⟩))
    (fun os started H enc _ => br_lifted os started H enc)
end Go.Proofs.Ytjhibahbcjlmfaa
