/- FnExactFairShares: for every input the program and the reference agree. No condition. -/
import Derived.Test.YtggkhieepjnmdaaQAb
import Derived.Test.YtggkhieepjnmdaaQAk
import Derived.Test.YtggkhieepjnmdaaQAl
namespace Go.Proofs.Ytggkhieepjnmdaa
open Go.ChangeShapes Go.WideShapes Go.ChangeAt Go.RowKit

set_option maxRecDepth 100000 in
set_option maxHeartbeats 4000000 in
theorem fr_law (f0 : Value) (F0 : Fld) (w : World) (hf0 : FldAt w f0 F0) :
    Calls Try.prog 3 #[f0] w fun e w' => e = .returned (.bool true) ∧ Kp w w' := by
  obtain ⟨A, c, B, d, rfl, hA, hB⟩ := id hf0
  have hk0 : Kp w (w.alloc (.cells #[.slice A F0.op.length c, .slice B F0.di.length d] 25)) := (Kp.refl w).alloc _
  obtain ⟨b0, b1⟩ := box2 w (.slice A F0.op.length c) (.slice B F0.di.length d) 25
  by_cases hb : ¬ F0.bulk ≤ 1048576
  · have hs := Lib.hid (left_big hb)
    go_enter Try.func3, Try.ntmps3
    go_wp2_with fail
    have CC := Lib.hid (szField_any _ F0 _ (hf0.kp hk0))
    with_reducible refine Calls.mono CC.out ?_
    rintro e w1 ⟨rfl, hk1⟩
    rw [hs.out]
    go_wp2_with fail
    go_ret
    exact ⟨rfl, hk0.trans hk1⟩
  replace hb : F0.bulk ≤ 1048576 := Decidable.not_not.1 hb
  have hs := Lib.hid (left_small hb)
  have n1 : ((frM F0) != (frM F0)) = false := by simp
  have n2 : ((goodF F0) != (goodF F0)) = false := by simp
  have hfk := hf0.kp hk0
  have K0 : Kp w (w.alloc (.cells #[.slice A F0.op.length c, .slice B F0.di.length d] 25)) := hk0
  go_enter Try.func3, Try.ntmps3
  go_wp2_with fail
  generalize w.alloc (.cells #[.slice A F0.op.length c, .slice B F0.di.length d] 25) = w0 at *
  have KB : Kp w0 w0 := Kp.refl _
  have CC := Lib.hid (szField_any _ F0 _ hfk)
  with_reducible refine Calls.mono CC.out ?_
  rintro e w1 ⟨rfl, hkc1⟩
  clear CC
  replace K0 := K0.trans hkc1
  replace KB := KB.trans hkc1
  rw [hs.out]
  have qb0 := KB.get b0; have qb1 := KB.get b1
  go_wp2_with fail
  have CC := Lib.hid (toField_any _ F0 _ (hfk.kp KB) hb)
  with_reducible refine Calls.mono CC.out ?_
  rintro e w2 ⟨vs, rfl, hs0, hkc2⟩
  clear CC qb0 qb1
  replace K0 := K0.trans hkc2
  replace KB := KB.trans hkc2
  have Ks0 : Kp w2 w2 := Kp.refl _
  have qb0 := KB.get b0; have qb1 := KB.get b1
  go_wp2_with fail
  have CC := Lib.hid (specFr_any _ F0 _ ((hs0.small hb).kp Ks0))
  with_reducible refine Calls.mono CC.out ?_
  rintro e w3 ⟨vr0, rfl, hr0, hkc3⟩
  clear CC qb0 qb1
  replace K0 := K0.trans hkc3
  replace KB := KB.trans hkc3
  replace Ks0 := Ks0.trans hkc3
  obtain ⟨Br0, ccr0, hvr0, hir0⟩ := hr0.ints (by have := frL_len F0; omega)
  subst hvr0
  have zs0 := K0.le
  have zsb := KB.le
  have KS : Kp w3 w3 := Kp.refl _
  clear Ks0
  have qb0 := KB.get b0; have qb1 := KB.get b1
  go_wp2_with fail
  have CC := Lib.hid (toField_any _ F0 _ (hfk.kp KB) hb)
  with_reducible refine Calls.mono CC.out ?_
  rintro e w4 ⟨vx, rfl, hx0, hkc4⟩
  clear CC qb0 qb1
  replace K0 := K0.trans hkc4
  replace KB := KB.trans hkc4
  replace KS := KS.trans hkc4
  obtain ⟨Ax, cx, Bx, dx, hv2e⟩ := hx0.agg
  subst hv2e
  have hkx := (Kp.refl w4).alloc (.cells #[.slice Ax F0.op.length cx, .slice Bx F0.di.length dx] 29)
  obtain ⟨x0, x1⟩ := box2 w4 (.slice Ax F0.op.length cx) (.slice Bx F0.di.length dx) 29
  have Kx0 : Kp w4 w4 := Kp.refl _
  replace K0 := K0.trans hkx
  replace KB := KB.trans hkx
  replace KS := KS.trans hkx
  replace Kx0 := Kx0.trans hkx
  have KX : Kp (w4.alloc (.cells #[.slice Ax F0.op.length cx, .slice Bx F0.di.length dx] 29)) (w4.alloc (.cells #[.slice Ax F0.op.length cx, .slice Bx F0.di.length dx] 29)) := Kp.refl _
  have qb0 := KB.get b0; have qb1 := KB.get b1
  have qx0 := KX.get x0; have qx1 := KX.get x1
  go_wp2_with fail
  have zx0 := Kx0.le
  have zsp := KS.le
  have CC := Lib.hid (implFr_any _ F0 _ ((hx0.small hb).kp Kx0))
  with_reducible refine Calls.mono CC.out ?_
  rintro e w5 ⟨vg0, rfl, hg0, hkc5⟩
  clear CC qb0 qb1 qx0 qx1
  replace K0 := K0.trans hkc5
  replace KB := KB.trans hkc5
  replace KS := KS.trans hkc5
  replace Kx0 := Kx0.trans hkc5
  replace KX := KX.trans hkc5
  obtain ⟨Bg0, ccg0, hvg0, hig0⟩ := hg0.ints (by have := frL_len F0; omega)
  subst hvg0
  have KG : Kp w5 w5 := Kp.refl _
  have qb0 := KB.get b0; have qb1 := KB.get b1
  have qx0 := KX.get x0; have qx1 := KX.get x1
  go_wp2_with fail
  have CC := Lib.hid (eqIntS_any _ _ (frL F0) (frL F0) _ _ ccg0 ccr0 _ (hig0.kp KG) (hir0.kp KS) rfl rfl)
  with_reducible refine Calls.mono CC.out ?_
  rintro e w6 ⟨rfl, hkc6⟩
  clear CC qb0 qb1 qx0 qx1
  replace K0 := K0.trans hkc6
  replace KB := KB.trans hkc6
  replace KS := KS.trans hkc6
  replace Kx0 := Kx0.trans hkc6
  replace KX := KX.trans hkc6
  replace KG := KG.trans hkc6
  simp only [decide_true]
  have qb0 := KB.get b0; have qb1 := KB.get b1
  have qx0 := KX.get x0; have qx1 := KX.get x1
  go_wp2_with fail
  have hdk := (Kp.refl w6).drew
  have CC := Lib.hid (toField_any _ F0 _ ((hfk.kp KB).kp hdk) hb)
  have Hx := Lib.hid ((hx0.small hb).kp Kx0)
  have y0 := KX.get x0; have y1 := KX.get x1
  go_cut [55] (fun s wc => s = .bool false ∧ Kp w6 wc)
  case first =>
    go_region_with (first
      | (go_at_call 6; with_reducible refine Calls.mono CC.out ?_; rintro e wa ⟨va, rfl, hva, hka⟩; obtain ⟨Ay, cy, By, dy, hv3e⟩ := hva.agg; subst hv3e; have z0 := hka.get (hdk.get y0); have z1 := hka.get (hdk.get y1))
      | (go_at_call 9; with_reducible refine Calls.mono (eqField_any _ _ F0 _ ((Hx.out.kp hdk).kp hka) (hva.small hb)) ?_; rintro e wb ⟨rfl, hkb⟩))
    all_goals (go_wp2_with fail; go_meet; exact ⟨rfl, (hdk.trans hka).trans hkb⟩)
  case rest =>
    obtain ⟨rfl, hkc⟩ := hcut
    obtain ⟨w7, rfl⟩ : ∃ q : World, q = wc := ⟨_, rfl⟩
    clear CC Hx y0 y1 hdk qb0 qb1 qx0 qx1
    replace K0 := K0.trans hkc
    replace KB := KB.trans hkc
    replace KS := KS.trans hkc
    replace Kx0 := Kx0.trans hkc
    replace KX := KX.trans hkc
    replace KG := KG.trans hkc
    have qb0 := KB.get b0; have qb1 := KB.get b1
    have qx0 := KX.get x0; have qx1 := KX.get x1
    go_wp2_with fail
    have og0 := hg0.kp KG
    clear KG
    have CC := Lib.hid (markField_any _ F0 1 _ _ w7 hx0 Kx0 (by omega) (by omega) hb)
    with_reducible refine Calls.mono CC.out ?_
    rintro e w8 ⟨mk0, rfl, hmk0, hT⟩
    clear CC qb0 qb1 qx0 qx1
    replace K0 := K0.turn hT (fun i hi => by have h1 := hi.1; omega)
    replace KB := KB.turn hT (fun i hi => by have h1 := hi.1; omega)
    replace KS := KS.turn hT (fun i hi => by have h1 := hi.1; omega)
    replace og0 := og0.turn hT (fun g hg hi => by have h1 := hi.2; have h2 := (hg0.lt g hg).1; omega)
    clear hT
    have hng : ¬ ((mk0 : Int) < 0) := by omega
    have qb0 := KB.get b0; have qb1 := KB.get b1
    go_wp2_with fail
    have CC := Lib.hid (eqIntS_any _ _ (frL F0) (frL F0) _ _ ccg0 ccr0 _ (og0.intsOf (by have := frL_len F0; omega)) (hir0.kp KS) rfl rfl)
    with_reducible refine Calls.mono CC.out ?_
    rintro e w9 ⟨rfl, hkc9⟩
    clear CC qb0 qb1
    replace K0 := K0.trans hkc9
    replace KB := KB.trans hkc9
    replace KS := KS.trans hkc9
    replace og0 := og0.kp hkc9
    simp only [decide_true]
    have qb0 := KB.get b0; have qb1 := KB.get b1
    go_wp2_with fail
    have CC := Lib.hid (markIntS_any _ (frL F0) 1 _ w9 og0 (by omega) (by have := frL_len F0; omega))
    with_reducible refine Calls.mono CC.out ?_
    rintro e w10 ⟨rfl, om0, hT⟩
    clear CC qb0 qb1
    replace K0 := K0.turn hT (fun i hi => by have h2 := (hg0.lt i hi).1; omega)
    replace KB := KB.turn hT (fun i hi => by have h2 := (hg0.lt i hi).1; omega)
    replace KS := KS.turn hT (fun i hi => by have h2 := (hg0.lt i hi).1; omega)
    clear hT
    have KM0 : Kp w10 w10 := Kp.refl _
    have qb0 := KB.get b0; have qb1 := KB.get b1
    go_wp2_with fail
    have nq : ((1 + ((frL F0).length : Int)) != (1 + ((frL F0).length : Int))) = false := by simp
    have CC := Lib.hid (heldIntS_any _ (frL F0).length ccg0 1 _ ((om0.kp KM0).intsOf (by rw [seqF_len]; have := frL_len F0; omega)) (by omega) (by have := frL_len F0; omega))
    with_reducible refine Calls.mono CC.out ?_
    rintro e w11 ⟨rfl, hdr11⟩
    have hkc11 := hdr11.kp
    clear CC hdr11 qb0 qb1
    replace K0 := K0.trans hkc11
    replace KB := KB.trans hkc11
    replace KS := KS.trans hkc11
    replace KM0 := KM0.trans hkc11
    have qb0 := KB.get b0; have qb1 := KB.get b1
    go_wp2_with fail
    have CC := Lib.hid (toField_any _ F0 _ (hfk.kp KB) hb)
    with_reducible refine Calls.mono CC.out ?_
    rintro e w12 ⟨vh, rfl, hh0, hkc12⟩
    clear CC qb0 qb1
    replace K0 := K0.trans hkc12
    replace KB := KB.trans hkc12
    replace KS := KS.trans hkc12
    replace KM0 := KM0.trans hkc12
    have Kh0 : Kp w12 w12 := Kp.refl _
    have qb0 := KB.get b0; have qb1 := KB.get b1
    go_wp2_with fail
    have CC := Lib.hid (implFr_any _ F0 _ ((hh0.small hb).kp Kh0))
    with_reducible refine Calls.mono CC.out ?_
    rintro e w13 ⟨vt0, rfl, ht0, hkc13⟩
    clear CC qb0 qb1
    replace K0 := K0.trans hkc13
    replace KB := KB.trans hkc13
    replace KS := KS.trans hkc13
    replace KM0 := KM0.trans hkc13
    replace Kh0 := Kh0.trans hkc13
    obtain ⟨Bt0, cct0, hvt0, hit0⟩ := ht0.ints (by have := frL_len F0; omega)
    subst hvt0
    clear Kh0
    have KT : Kp w13 w13 := Kp.refl _
    have qb0 := KB.get b0; have qb1 := KB.get b1
    go_wp2_with fail
    have CC := Lib.hid (eqIntS_any _ _ (frL F0) (frL F0) _ _ cct0 ccr0 _ (hit0.kp KT) (hir0.kp KS) rfl rfl)
    with_reducible refine Calls.mono CC.out ?_
    rintro e w14 ⟨rfl, hkc14⟩
    clear CC qb0 qb1
    replace K0 := K0.trans hkc14
    replace KB := KB.trans hkc14
    replace KS := KS.trans hkc14
    replace KM0 := KM0.trans hkc14
    replace KT := KT.trans hkc14
    simp only [decide_true]
    have qb0 := KB.get b0; have qb1 := KB.get b1
    go_wp2_with fail
    have CC := Lib.hid (heldIntS_any _ (frL F0).length ccg0 1 _ ((om0.kp KM0).intsOf (by rw [seqF_len]; have := frL_len F0; omega)) (by omega) (by have := frL_len F0; omega))
    with_reducible refine Calls.mono CC.out ?_
    rintro e w15 ⟨rfl, hdr15⟩
    have hkc15 := hdr15.kp
    clear CC hdr15 qb0 qb1
    replace K0 := K0.trans hkc15
    replace KB := KB.trans hkc15
    replace KS := KS.trans hkc15
    replace KM0 := KM0.trans hkc15
    replace KT := KT.trans hkc15
    have qb0 := KB.get b0; have qb1 := KB.get b1
    go_wp2_with fail
    go_ret
    exact ⟨rfl, K0⟩

set_option maxRecDepth 100000 in
theorem fr_lifted (os : Os) (started : os.Started) (H : Type) (enc : TypeId × Value → H) :
    ReturnsInHanded {} Try.checked os 3 .any (Rows.fnExactFairSharesSpec.pre6 enc Try.prog Try.f3 Rows.fnExactFairSharesRow.domain false) (Rows.fnExactFairSharesSpec.post enc Try.prog Try.f3 false true false false) := by
  refine returnsInHanded_of_change (C := Try.checked) ownKnobs started (by kernel_rfl) Try.func3
    (ChangeSpec.witness6 (enc := enc) (C := Try.checked) false ⟨#[], #[.agg #[.slice none 0 0, .slice none 0 0]], []⟩ 8 (by kernel_rfl) (by kernel_rfl) (by kernel_rfl) (by kernel_rfl)) ?_
  intro W base args ds gs before hval hW _ _
  obtain ⟨p, q, hA0, hV, hbf, hz, hn⟩ := id hW
  have hA : DataW.TrodAll enc Try.prog W 0 (fun _ => true) true Try.f3.params.toList args.toList ds p := hA0
  have hval' : ∀ (j : Nat) t v, Try.f3.params[j]? = some t → args[j]? = some v → Value.okWide Try.prog W .any base t v := hval
  rw [Try.params3] at hA hval'
  obtain ⟨v0, d0, rfl, rfl, h0⟩ := trodAll_one hA
  obtain ⟨F0, hf0⟩ := open_fldAt (hval' 0 _ v0 rfl rfl) h0
  refine (fr_law _ F0 W hf0).mono fun e W' ⟨he, hk⟩ => ⟨_, he, ?_⟩
  exact post_of_kp laidOut rfl (by kernel_rfl) rfl Try.underlying4 (fun ds' hd => match ds', hd with | [_], _ => rfl) rfl hW hk

theorem FnExactFairShares_holds : Rows.FnExactFairSharesSaid :=
  OpenClaim.holds_of_wide 3 Try.f3 rfl rfl rfl rfl rfl rfl rfl ⟨rfl, rfl, rfl, rfl, rfl⟩ rfl rfl rfl rfl rfl (by kernel_rfl) Try.func3 (by kernel_rfl)
    (of_decide_eq_true (by kernel_rfl)) (by unfold Func.isWrapper; first | (rw [if_pos (by decide +kernel)]; kernel_rfl) | (rw [if_neg (by decide +kernel)]; exact ⟨rfl, rfl⟩))
    (fun os started H enc _ => fr_lifted os started H enc)
end Go.Proofs.Ytggkhieepjnmdaa
