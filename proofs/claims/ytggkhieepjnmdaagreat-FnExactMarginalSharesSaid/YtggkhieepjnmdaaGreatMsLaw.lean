/- FnExactMarginalShares: for every input the program and the reference agree. No condition. -/
import Derived.Test.YtggkhieepjnmdaaGreatMsAb
import Derived.Test.YtggkhieepjnmdaaGreatMsAh
namespace Go.Proofs.YtggkhieepjnmdaaGreat
open Go.ChangeShapes Go.WideShapes Go.ChangeAt Go.RowKit

set_option maxRecDepth 100000 in
set_option maxHeartbeats 4000000 in
theorem ms_law (f0 : Value) (F0 : Fld) (A1 : Option Addr) (xs1 : List Int) (m1 c1 : Nat) (w : World) (hf0 : FldAt w f0 F0) (hx1 : IntsAt w A1 xs1) (hn1 : xs1.length = m1) :
    Calls Tryz.prog 3 #[f0, .slice A1 m1 c1] w fun e w' => e = .returned (.bool true) ∧ Kp w w' := by
  have Hn1 := Lib.hid hn1; clear hn1
  obtain ⟨A, c, B, d, rfl, hA, hB⟩ := id hf0
  have hk0 : Kp w (w.alloc (.cells #[.slice A F0.op.length c, .slice B F0.di.length d] 25)) := (Kp.refl w).alloc _
  obtain ⟨b0, b1⟩ := box2 w (.slice A F0.op.length c) (.slice B F0.di.length d) 25
  by_cases hm1 : 1048576 < m1
  · go_enter Tryz.func3, Tryz.ntmps3
    go_wp2_with fail
    go_ret
    exact ⟨rfl, hk0⟩
  by_cases hb : ¬ F0.bulk ≤ 1048576
  · have hs := Lib.hid (left_big hb)
    go_enter Tryz.func3, Tryz.ntmps3
    go_wp2_with fail
    have CC := Lib.hid (szField_any _ F0 _ (hf0.kp hk0))
    with_reducible refine Calls.mono CC.out ?_
    rintro e w1 ⟨rfl, hk1⟩
    rw [hs.out]
    go_wp2_with fail
    go_ret
    exact ⟨rfl, hk0.trans hk1⟩
  replace hb : F0.bulk ≤ 1048576 := Decidable.not_not.1 hb
  have hs := Lib.hid (left_small hb)
  have n1 : ((msOk F0 xs1) != (msOk F0 xs1)) = false := by simp
  have hfk := hf0.kp hk0
  have K0 : Kp w (w.alloc (.cells #[.slice A F0.op.length c, .slice B F0.di.length d] 25)) := hk0
  go_enter Tryz.func3, Tryz.ntmps3
  go_wp2_with fail
  generalize w.alloc (.cells #[.slice A F0.op.length c, .slice B F0.di.length d] 25) = w0 at *
  have KB : Kp w0 w0 := Kp.refl _
  have CC := Lib.hid (szField_any _ F0 _ hfk)
  with_reducible refine Calls.mono CC.out ?_
  rintro e w1 ⟨rfl, hkc1⟩
  clear CC
  replace K0 := K0.trans hkc1
  replace KB := KB.trans hkc1
  rw [hs.out]
  have qb0 := KB.get b0; have qb1 := KB.get b1
  go_wp2_with fail
  have CC := Lib.hid (toField_any _ F0 _ (hfk.kp KB) hb)
  with_reducible refine Calls.mono CC.out ?_
  rintro e w2 ⟨vs, rfl, hs0, hkc2⟩
  clear CC qb0 qb1
  replace K0 := K0.trans hkc2
  replace KB := KB.trans hkc2
  have Ks0 : Kp w2 w2 := Kp.refl _
  have qb0 := KB.get b0; have qb1 := KB.get b1
  go_wp2_with fail
  have CC := Lib.hid (toIntS_any A1 xs1 m1 c1 _ (hx1.kp K0) Hn1.out (by omega))
  with_reducible refine Calls.mono CC.out ?_
  rintro e w3 ⟨gs1, rfl, hgs1, hs1, hkc3⟩
  clear CC qb0 qb1
  replace K0 := K0.trans hkc3
  replace KB := KB.trans hkc3
  replace Ks0 := Ks0.trans hkc3
  have Ks1 : Kp w3 w3 := Kp.refl _
  have qb0 := KB.get b0; have qb1 := KB.get b1
  go_wp2_with fail
  have CC := Lib.hid (specMs_any _ F0 _ xs1 m1 m1 _ ((hs0.small hb).kp Ks0) (hs1.ats Hn1.out (by omega) Ks1) Hn1.out)
  with_reducible refine Calls.mono CC.out ?_
  rintro e w4 ⟨vr0, rfl, hr0, hkc4⟩
  clear CC qb0 qb1
  replace K0 := K0.trans hkc4
  replace KB := KB.trans hkc4
  replace Ks0 := Ks0.trans hkc4
  replace Ks1 := Ks1.trans hkc4
  obtain ⟨Br0, ccr0, hvr0, hir0⟩ := hr0.ints (by have := msL_len F0 xs1; omega)
  subst hvr0
  have zs0 := K0.le
  have zsb := KB.le
  have KS : Kp w4 w4 := Kp.refl _
  clear Ks0
  clear Ks1
  have qb0 := KB.get b0; have qb1 := KB.get b1
  go_wp2_with fail
  have CC := Lib.hid (toField_any _ F0 _ (hfk.kp KB) hb)
  with_reducible refine Calls.mono CC.out ?_
  rintro e w5 ⟨vx, rfl, hx0, hkc5⟩
  clear CC qb0 qb1
  replace K0 := K0.trans hkc5
  replace KB := KB.trans hkc5
  replace KS := KS.trans hkc5
  obtain ⟨Ax, cx, Bx, dx, hv2e⟩ := hx0.agg
  subst hv2e
  have hkx := (Kp.refl w5).alloc (.cells #[.slice Ax F0.op.length cx, .slice Bx F0.di.length dx] 29)
  obtain ⟨x0, x1⟩ := box2 w5 (.slice Ax F0.op.length cx) (.slice Bx F0.di.length dx) 29
  have Kx0 : Kp w5 w5 := Kp.refl _
  replace K0 := K0.trans hkx
  replace KB := KB.trans hkx
  replace KS := KS.trans hkx
  replace Kx0 := Kx0.trans hkx
  have KX : Kp (w5.alloc (.cells #[.slice Ax F0.op.length cx, .slice Bx F0.di.length dx] 29)) (w5.alloc (.cells #[.slice Ax F0.op.length cx, .slice Bx F0.di.length dx] 29)) := Kp.refl _
  have qb0 := KB.get b0; have qb1 := KB.get b1
  have qx0 := KX.get x0; have qx1 := KX.get x1
  go_wp2_with fail
  have zpK0_1 := K0.le
  have zpKB_1 := KB.le
  have zpKS_1 := KS.le
  have zpKx0_1 := Kx0.le
  have zpKX_1 := KX.le
  have CC := Lib.hid (toIntS_any A1 xs1 m1 c1 _ (hx1.kp K0) Hn1.out (by omega))
  with_reducible refine Calls.mono CC.out ?_
  rintro e w6 ⟨gx1, rfl, hgx1, hx1r, hkc6⟩
  clear CC qb0 qb1 qx0 qx1
  replace K0 := K0.trans hkc6
  replace KB := KB.trans hkc6
  replace KS := KS.trans hkc6
  replace Kx0 := Kx0.trans hkc6
  replace KX := KX.trans hkc6
  have Kx1 : Kp w6 w6 := Kp.refl _
  have qb0 := KB.get b0; have qb1 := KB.get b1
  have qx0 := KX.get x0; have qx1 := KX.get x1
  go_wp2_with fail
  have zx0 := Kx0.le
  have zx1 := Kx1.le
  have zsp := KS.le
  have CC := Lib.hid (implMs_any _ F0 _ xs1 m1 m1 _ ((hx0.small hb).kp Kx0) (hx1r.ats Hn1.out (by omega) Kx1) Hn1.out)
  with_reducible refine Calls.mono CC.out ?_
  rintro e w7 ⟨vg0, rfl, hg0, hkc7⟩
  clear CC qb0 qb1 qx0 qx1
  replace K0 := K0.trans hkc7
  replace KB := KB.trans hkc7
  replace KS := KS.trans hkc7
  replace Kx0 := Kx0.trans hkc7
  replace KX := KX.trans hkc7
  replace Kx1 := Kx1.trans hkc7
  obtain ⟨Bg0, ccg0, hvg0, hig0⟩ := hg0.ints (by have := msL_len F0 xs1; omega)
  subst hvg0
  have KG : Kp w7 w7 := Kp.refl _
  have qb0 := KB.get b0; have qb1 := KB.get b1
  have qx0 := KX.get x0; have qx1 := KX.get x1
  go_wp2_with fail
  have CC := Lib.hid (eqIntS_any _ _ (msL F0 xs1) (msL F0 xs1) _ _ ccg0 ccr0 _ (hig0.kp KG) (hir0.kp KS) rfl rfl)
  with_reducible refine Calls.mono CC.out ?_
  rintro e w8 ⟨rfl, hkc8⟩
  clear CC qb0 qb1 qx0 qx1
  replace K0 := K0.trans hkc8
  replace KB := KB.trans hkc8
  replace KS := KS.trans hkc8
  replace Kx0 := Kx0.trans hkc8
  replace KX := KX.trans hkc8
  replace Kx1 := Kx1.trans hkc8
  replace KG := KG.trans hkc8
  simp only [decide_true]
  have qb0 := KB.get b0; have qb1 := KB.get b1
  have qx0 := KX.get x0; have qx1 := KX.get x1
  go_wp2_with fail
  have hdk := (Kp.refl w8).drew
  have CC := Lib.hid (toField_any _ F0 _ ((hfk.kp KB).kp hdk) hb)
  have Hx := Lib.hid ((hx0.small hb).kp Kx0)
  have y0 := KX.get x0; have y1 := KX.get x1
  go_cut [56] (fun s wc => s = .bool false ∧ Kp w8 wc)
  case first =>
    go_region_with (first
      | (go_at_call 6; with_reducible refine Calls.mono CC.out ?_; rintro e wa ⟨va, rfl, hva, hka⟩; obtain ⟨Ay, cy, By, dy, hv3e⟩ := hva.agg; subst hv3e; have z0 := hka.get (hdk.get y0); have z1 := hka.get (hdk.get y1))
      | (go_at_call 10; with_reducible refine Calls.mono (eqField_any _ _ F0 _ ((Hx.out.kp hdk).kp hka) (hva.small hb)) ?_; rintro e wb ⟨rfl, hkb⟩))
    all_goals (go_wp2_with fail; go_meet; exact ⟨rfl, (hdk.trans hka).trans hkb⟩)
  case rest =>
    obtain ⟨rfl, hkc⟩ := hcut
    obtain ⟨w9, rfl⟩ : ∃ q : World, q = wc := ⟨_, rfl⟩
    clear CC Hx y0 y1 hdk qb0 qb1 qx0 qx1
    replace K0 := K0.trans hkc
    replace KB := KB.trans hkc
    replace KS := KS.trans hkc
    replace Kx0 := Kx0.trans hkc
    replace KX := KX.trans hkc
    replace Kx1 := Kx1.trans hkc
    replace KG := KG.trans hkc
    have qb0 := KB.get b0; have qb1 := KB.get b1
    have qx0 := KX.get x0; have qx1 := KX.get x1
    go_wp2_with fail
    have CC := Lib.hid (toIntS_any A1 xs1 m1 c1 _ (hx1.kp K0) Hn1.out (by omega))
    with_reducible refine Calls.mono CC.out ?_
    rintro e w10 ⟨gy1, rfl, hgy1, hy1, hkc10⟩
    clear CC qb0 qb1 qx0 qx1
    replace K0 := K0.trans hkc10
    replace KB := KB.trans hkc10
    replace KS := KS.trans hkc10
    replace Kx0 := Kx0.trans hkc10
    replace KX := KX.trans hkc10
    replace Kx1 := Kx1.trans hkc10
    replace KG := KG.trans hkc10
    have qb0 := KB.get b0; have qb1 := KB.get b1
    have qx0 := KX.get x0; have qx1 := KX.get x1
    go_wp2_with fail
    have CC := Lib.hid (eqIntS_any _ _ xs1 xs1 m1 m1 m1 m1 _ (hx1r.ats Hn1.out (by omega) Kx1) (hy1.ats Hn1.out (by omega) (Kp.refl _)) Hn1.out Hn1.out)
    with_reducible refine Calls.mono CC.out ?_
    rintro e w11 ⟨rfl, hkc11⟩
    clear CC qb0 qb1 qx0 qx1
    replace K0 := K0.trans hkc11
    replace KB := KB.trans hkc11
    replace KS := KS.trans hkc11
    replace Kx0 := Kx0.trans hkc11
    replace KX := KX.trans hkc11
    replace Kx1 := Kx1.trans hkc11
    replace KG := KG.trans hkc11
    simp only [decide_true]
    have qb0 := KB.get b0; have qb1 := KB.get b1
    have qx0 := KX.get x0; have qx1 := KX.get x1
    go_wp2_with fail
    have og0 := hg0.kp KG
    clear KG
    have oi1 := Own.ofRow hx1r Hn1.out (by omega) hgx1
    have ol1 := oi1.lt
    have ox1 := oi1.kp Kx1
    clear oi1
    have CC := Lib.hid (markField_any _ F0 1 _ _ w11 hx0 Kx0 (by omega) (by omega) hb)
    with_reducible refine Calls.mono CC.out ?_
    rintro e w12 ⟨mk0, rfl, hmk0, hT⟩
    clear CC qb0 qb1 qx0 qx1
    replace K0 := K0.turn hT (fun i hi => by have h1 := hi.1; omega)
    replace KB := KB.turn hT (fun i hi => by have h1 := hi.1; omega)
    replace KS := KS.turn hT (fun i hi => by have h1 := hi.1; omega)
    replace og0 := og0.turn hT (fun g hg hi => by have h1 := hi.2; have h2 := (hg0.lt g hg).1; omega)
    replace ox1 := ox1.turn hT (fun g hg hi => by have h1 := hi.2; have h2 := (ol1 g hg).1; omega)
    clear hT
    have qb0 := KB.get b0; have qb1 := KB.get b1
    go_wp2_with fail
    have CC := Lib.hid (markIntS_any _ xs1 (mk0 : Int) _ w12 ox1 (by omega) (by have h1 := Hn1.out; omega))
    with_reducible refine Calls.mono CC.out ?_
    rintro e w13 ⟨rfl, _, hT⟩
    clear CC qb0 qb1
    replace K0 := K0.turn hT (fun i hi => by have h1 := (ol1 _ hi).1; omega)
    replace KB := KB.turn hT (fun i hi => by have h1 := (ol1 _ hi).1; omega)
    replace KS := KS.turn hT (fun i hi => by have h1 := (ol1 _ hi).1; omega)
    replace og0 := og0.turn hT (fun g hg hi => by have h1 := (ol1 _ hi).2; have h2 := (hg0.lt g hg).1; omega)
    clear hT
    have hng : ¬ (((mk0 : Int) + (xs1.length : Int)) < 0) := by omega
    have qb0 := KB.get b0; have qb1 := KB.get b1
    go_wp2_with fail
    have CC := Lib.hid (eqIntS_any _ _ (msL F0 xs1) (msL F0 xs1) _ _ ccg0 ccr0 _ (og0.intsOf (by have := msL_len F0 xs1; omega)) (hir0.kp KS) rfl rfl)
    with_reducible refine Calls.mono CC.out ?_
    rintro e w14 ⟨rfl, hkc14⟩
    clear CC qb0 qb1
    replace K0 := K0.trans hkc14
    replace KB := KB.trans hkc14
    replace KS := KS.trans hkc14
    replace og0 := og0.kp hkc14
    simp only [decide_true]
    have qb0 := KB.get b0; have qb1 := KB.get b1
    go_wp2_with fail
    have CC := Lib.hid (markIntS_any _ (msL F0 xs1) 1 _ w14 og0 (by omega) (by have := msL_len F0 xs1; omega))
    with_reducible refine Calls.mono CC.out ?_
    rintro e w15 ⟨rfl, om0, hT⟩
    clear CC qb0 qb1
    replace K0 := K0.turn hT (fun i hi => by have h2 := (hg0.lt i hi).1; omega)
    replace KB := KB.turn hT (fun i hi => by have h2 := (hg0.lt i hi).1; omega)
    replace KS := KS.turn hT (fun i hi => by have h2 := (hg0.lt i hi).1; omega)
    clear hT
    have KM0 : Kp w15 w15 := Kp.refl _
    have qb0 := KB.get b0; have qb1 := KB.get b1
    go_wp2_with fail
    have nq : ((1 + ((msL F0 xs1).length : Int)) != (1 + ((msL F0 xs1).length : Int))) = false := by simp
    have CC := Lib.hid (heldIntS_any _ (msL F0 xs1).length ccg0 1 _ ((om0.kp KM0).intsOf (by rw [seqF_len]; have := msL_len F0 xs1; omega)) (by omega) (by have := msL_len F0 xs1; omega))
    with_reducible refine Calls.mono CC.out ?_
    rintro e w16 ⟨rfl, hdr16⟩
    have hkc16 := hdr16.kp
    clear CC hdr16 qb0 qb1
    replace K0 := K0.trans hkc16
    replace KB := KB.trans hkc16
    replace KS := KS.trans hkc16
    replace KM0 := KM0.trans hkc16
    have qb0 := KB.get b0; have qb1 := KB.get b1
    go_wp2_with fail
    have CC := Lib.hid (toField_any _ F0 _ (hfk.kp KB) hb)
    with_reducible refine Calls.mono CC.out ?_
    rintro e w17 ⟨vh, rfl, hh0, hkc17⟩
    clear CC qb0 qb1
    replace K0 := K0.trans hkc17
    replace KB := KB.trans hkc17
    replace KS := KS.trans hkc17
    replace KM0 := KM0.trans hkc17
    have Kh0 : Kp w17 w17 := Kp.refl _
    have qb0 := KB.get b0; have qb1 := KB.get b1
    go_wp2_with fail
    have CC := Lib.hid (toIntS_any A1 xs1 m1 c1 _ (hx1.kp K0) Hn1.out (by omega))
    with_reducible refine Calls.mono CC.out ?_
    rintro e w18 ⟨gh1, rfl, hgh1, hh1, hkc18⟩
    clear CC qb0 qb1
    replace K0 := K0.trans hkc18
    replace KB := KB.trans hkc18
    replace KS := KS.trans hkc18
    replace KM0 := KM0.trans hkc18
    replace Kh0 := Kh0.trans hkc18
    have Kh1 : Kp w18 w18 := Kp.refl _
    have qb0 := KB.get b0; have qb1 := KB.get b1
    go_wp2_with fail
    have CC := Lib.hid (implMs_any _ F0 _ xs1 m1 m1 _ ((hh0.small hb).kp Kh0) (hh1.ats Hn1.out (by omega) Kh1) Hn1.out)
    with_reducible refine Calls.mono CC.out ?_
    rintro e w19 ⟨vt0, rfl, ht0, hkc19⟩
    clear CC qb0 qb1
    replace K0 := K0.trans hkc19
    replace KB := KB.trans hkc19
    replace KS := KS.trans hkc19
    replace KM0 := KM0.trans hkc19
    replace Kh0 := Kh0.trans hkc19
    replace Kh1 := Kh1.trans hkc19
    obtain ⟨Bt0, cct0, hvt0, hit0⟩ := ht0.ints (by have := msL_len F0 xs1; omega)
    subst hvt0
    clear Kh0
    clear Kh1
    have KT : Kp w19 w19 := Kp.refl _
    have qb0 := KB.get b0; have qb1 := KB.get b1
    go_wp2_with fail
    have CC := Lib.hid (eqIntS_any _ _ (msL F0 xs1) (msL F0 xs1) _ _ cct0 ccr0 _ (hit0.kp KT) (hir0.kp KS) rfl rfl)
    with_reducible refine Calls.mono CC.out ?_
    rintro e w20 ⟨rfl, hkc20⟩
    clear CC qb0 qb1
    replace K0 := K0.trans hkc20
    replace KB := KB.trans hkc20
    replace KS := KS.trans hkc20
    replace KM0 := KM0.trans hkc20
    replace KT := KT.trans hkc20
    simp only [decide_true]
    have qb0 := KB.get b0; have qb1 := KB.get b1
    go_wp2_with fail
    have CC := Lib.hid (heldIntS_any _ (msL F0 xs1).length ccg0 1 _ ((om0.kp KM0).intsOf (by rw [seqF_len]; have := msL_len F0 xs1; omega)) (by omega) (by have := msL_len F0 xs1; omega))
    with_reducible refine Calls.mono CC.out ?_
    rintro e w21 ⟨rfl, hdr21⟩
    have hkc21 := hdr21.kp
    clear CC hdr21 qb0 qb1
    replace K0 := K0.trans hkc21
    replace KB := KB.trans hkc21
    replace KS := KS.trans hkc21
    replace KM0 := KM0.trans hkc21
    replace KT := KT.trans hkc21
    have qb0 := KB.get b0; have qb1 := KB.get b1
    go_wp2_with fail
    go_ret
    exact ⟨rfl, K0⟩

set_option maxRecDepth 100000 in
theorem ms_lifted (os : Os) (started : os.Started) (H : Type) (enc : TypeId × Value → H) :
    ReturnsInHanded {} Tryz.checked os 3 .any (Rows.fnExactMarginalSharesSpec.pre6 enc Tryz.prog Tryz.f3 Rows.fnExactMarginalSharesRow.domain false) (Rows.fnExactMarginalSharesSpec.post enc Tryz.prog Tryz.f3 false true false false) := by
  refine returnsInHanded_of_change (C := Tryz.checked) ownKnobs started (by kernel_rfl) Tryz.func3
    (ChangeSpec.witness6 (enc := enc) (C := Tryz.checked) false ⟨#[], #[.agg #[.slice none 0 0, .slice none 0 0], .slice none 0 0], []⟩ 8 (by kernel_rfl) (by kernel_rfl) (by kernel_rfl) (by kernel_rfl)) ?_
  intro W base args ds gs before hval hW _ _
  obtain ⟨p, q, hA0, hV, hbf, hz, hn⟩ := id hW
  have hA : DataW.TrodAll enc Tryz.prog W 0 (fun _ => true) true Tryz.f3.params.toList args.toList ds p := hA0
  have hval' : ∀ (j : Nat) t v, Tryz.f3.params[j]? = some t → args[j]? = some v → Value.okWide Tryz.prog W .any base t v := hval
  rw [Tryz.params3] at hA hval'
  obtain ⟨v0, v1, d0, d1, p0, p1, rfl, rfl, rfl, h0, h1⟩ := trodAll_two hA
  obtain ⟨F0, hf0⟩ := open_fldAt (hval' 0 _ v0 rfl rfl) h0
  obtain ⟨A1, xs1, c1, rfl, hx1⟩ := open_intsAt Tryz.underlying22 Tryz.underlying3 cellsInt (hval' 1 _ v1 rfl rfl) h1
  refine (ms_law _ F0 A1 xs1 _ c1 W hf0 hx1 rfl).mono fun e W' ⟨he, hk⟩ => ⟨_, he, ?_⟩
  exact post_of_kp laidOut rfl (by kernel_rfl) rfl Tryz.underlying4 (fun ds' hd => match ds', hd with | [_, _], _ => rfl) rfl hW hk

theorem FnExactMarginalShares_holds : Rows.FnExactMarginalSharesSaid :=
  OpenClaim.holds_of_wide 3 Tryz.f3 rfl rfl rfl rfl rfl rfl rfl ⟨rfl, rfl, rfl, rfl, rfl⟩ rfl rfl rfl rfl rfl (by kernel_rfl) Tryz.func3 (by kernel_rfl)
    (of_decide_eq_true (by kernel_rfl)) (by unfold Func.isWrapper; first | (rw [if_pos (by decide +kernel)]; kernel_rfl) | (rw [if_neg (by decide +kernel)]; exact ⟨rfl, rfl⟩))
    (fun os started H enc _ => ms_lifted os started H enc)
end Go.Proofs.YtggkhieepjnmdaaGreat
