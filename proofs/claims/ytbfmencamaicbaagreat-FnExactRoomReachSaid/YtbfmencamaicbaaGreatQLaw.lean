/- FnExactRoomReach: for every input the program and the reference agree. No condition. -/
import Derived.Test.YtbfmencamaicbaaGreatQAb
import Derived.Test.YtbfmencamaicbaaGreatQAu
namespace Go.Proofs.YtbfmencamaicbaaGreat
open Go.ChangeShapes Go.WideShapes Go.ChangeAt Go.RowKit

set_option maxRecDepth 100000 in
set_option maxHeartbeats 4000000 in
theorem rr_law (f0 : Value) (F0 : Fld) (A1 : Option Addr) (xs1 : List Int) (m1 c1 : Nat) (A2 : Option Addr) (xs2 : List Int) (m2 c2 : Nat) (a3 : Int) (w : World) (hf0 : FldAt w f0 F0) (hx1 : IntsAt w A1 xs1) (hn1 : xs1.length = m1) (hx2 : IntsAt w A2 xs2) (hn2 : xs2.length = m2) (wf3 : (Lit.int .i64 a3).wf = true) :
    Calls Tryz.prog 3 #[f0, .slice A1 m1 c1, .slice A2 m2 c2, .int .i64 a3] w fun e w' => e = .returned (.bool true) ∧ Kp w w' := by
  have Hn1 := Lib.hid hn1; clear hn1
  have Hn2 := Lib.hid hn2; clear hn2
  have Wf3 := Lib.hid wf3; clear wf3
  obtain ⟨A, c, B, d, rfl, hA, hB⟩ := id hf0
  have hk0 : Kp w (w.alloc (.cells #[.slice A F0.op.length c, .slice B F0.di.length d] 25)) := (Kp.refl w).alloc _
  obtain ⟨b0, b1⟩ := box2 w (.slice A F0.op.length c) (.slice B F0.di.length d) 25
  by_cases hm1 : 1048576 < m1
  · go_enter Tryz.func3, Tryz.ntmps3
    go_wp2_with fail
    go_ret
    exact ⟨rfl, hk0⟩
  by_cases hm2 : 1048576 < m2
  · go_enter Tryz.func3, Tryz.ntmps3
    go_wp2_with fail
    go_ret
    exact ⟨rfl, hk0⟩
  by_cases hb : ¬ F0.bulk ≤ 1048576
  · have hs := Lib.hid (left_big hb)
    go_enter Tryz.func3, Tryz.ntmps3
    go_wp2_with fail
    have CC := Lib.hid (szField_any _ F0 _ (hf0.kp hk0))
    with_reducible refine Calls.mono CC.out ?_
    rintro e w1 ⟨rfl, hk1⟩
    rw [hs.out]
    go_wp2_with fail
    go_ret
    exact ⟨rfl, hk0.trans hk1⟩
  replace hb : F0.bulk ≤ 1048576 := Decidable.not_not.1 hb
  have hs := Lib.hid (left_small hb)
  have n0 : ((rrV F0 xs1 xs2 a3) != (rrV F0 xs1 xs2 a3)) = false := by simp
  have n1 : ((rrB F0 xs1 xs2 a3) != (rrB F0 xs1 xs2 a3)) = false := by simp
  have hfk := hf0.kp hk0
  have K0 : Kp w (w.alloc (.cells #[.slice A F0.op.length c, .slice B F0.di.length d] 25)) := hk0
  go_enter Tryz.func3, Tryz.ntmps3
  go_wp2_with fail
  generalize w.alloc (.cells #[.slice A F0.op.length c, .slice B F0.di.length d] 25) = w0 at *
  have KB : Kp w0 w0 := Kp.refl _
  have CC := Lib.hid (szField_any _ F0 _ hfk)
  with_reducible refine Calls.mono CC.out ?_
  rintro e w1 ⟨rfl, hkc1⟩
  clear CC
  replace K0 := K0.trans hkc1
  replace KB := KB.trans hkc1
  rw [hs.out]
  have qb0 := KB.get b0; have qb1 := KB.get b1
  go_wp2_with fail
  have CC := Lib.hid (toField_any _ F0 _ (hfk.kp KB) hb)
  with_reducible refine Calls.mono CC.out ?_
  rintro e w2 ⟨vs, rfl, hs0, hkc2⟩
  clear CC qb0 qb1
  replace K0 := K0.trans hkc2
  replace KB := KB.trans hkc2
  have Ks0 : Kp w2 w2 := Kp.refl _
  have qb0 := KB.get b0; have qb1 := KB.get b1
  go_wp2_with fail
  have CC := Lib.hid (toIntS_any A1 xs1 m1 c1 _ (hx1.kp K0) Hn1.out (by omega))
  with_reducible refine Calls.mono CC.out ?_
  rintro e w3 ⟨gs1, rfl, hgs1, hs1, hkc3⟩
  clear CC qb0 qb1
  replace K0 := K0.trans hkc3
  replace KB := KB.trans hkc3
  replace Ks0 := Ks0.trans hkc3
  have Ks1 : Kp w3 w3 := Kp.refl _
  have qb0 := KB.get b0; have qb1 := KB.get b1
  go_wp2_with fail
  have CC := Lib.hid (toIntS_any A2 xs2 m2 c2 _ (hx2.kp K0) Hn2.out (by omega))
  with_reducible refine Calls.mono CC.out ?_
  rintro e w4 ⟨gs2, rfl, hgs2, hs2, hkc4⟩
  clear CC qb0 qb1
  replace K0 := K0.trans hkc4
  replace KB := KB.trans hkc4
  replace Ks0 := Ks0.trans hkc4
  replace Ks1 := Ks1.trans hkc4
  have Ks2 : Kp w4 w4 := Kp.refl _
  have qb0 := KB.get b0; have qb1 := KB.get b1
  go_wp2_with fail
  have CC := Lib.hid (specRr_any _ F0 _ xs1 m1 m1 _ xs2 m2 m2 a3 _ ((hs0.small hb).kp Ks0) (hs1.ats Hn1.out (by omega) Ks1) Hn1.out (hs2.ats Hn2.out (by omega) Ks2) Hn2.out)
  with_reducible refine Calls.mono CC.out ?_
  rintro e w5 ⟨rfl, hkc5⟩
  clear CC qb0 qb1
  replace K0 := K0.trans hkc5
  replace KB := KB.trans hkc5
  replace Ks0 := Ks0.trans hkc5
  replace Ks1 := Ks1.trans hkc5
  replace Ks2 := Ks2.trans hkc5
  clear Ks0
  clear Ks1
  clear Ks2
  have qb0 := KB.get b0; have qb1 := KB.get b1
  go_wp2_with fail
  have CC := Lib.hid (toField_any _ F0 _ (hfk.kp KB) hb)
  with_reducible refine Calls.mono CC.out ?_
  rintro e w6 ⟨vx, rfl, hx0, hkc6⟩
  clear CC qb0 qb1
  replace K0 := K0.trans hkc6
  replace KB := KB.trans hkc6
  obtain ⟨Ax, cx, Bx, dx, hv2e⟩ := hx0.agg
  subst hv2e
  have hkx := (Kp.refl w6).alloc (.cells #[.slice Ax F0.op.length cx, .slice Bx F0.di.length dx] 29)
  obtain ⟨x0, x1⟩ := box2 w6 (.slice Ax F0.op.length cx) (.slice Bx F0.di.length dx) 29
  have Kx0 : Kp w6 w6 := Kp.refl _
  replace K0 := K0.trans hkx
  replace KB := KB.trans hkx
  replace Kx0 := Kx0.trans hkx
  have KX : Kp (w6.alloc (.cells #[.slice Ax F0.op.length cx, .slice Bx F0.di.length dx] 29)) (w6.alloc (.cells #[.slice Ax F0.op.length cx, .slice Bx F0.di.length dx] 29)) := Kp.refl _
  have qb0 := KB.get b0; have qb1 := KB.get b1
  have qx0 := KX.get x0; have qx1 := KX.get x1
  go_wp2_with fail
  have CC := Lib.hid (toIntS_any A1 xs1 m1 c1 _ (hx1.kp K0) Hn1.out (by omega))
  with_reducible refine Calls.mono CC.out ?_
  rintro e w7 ⟨gx1, rfl, hgx1, hx1r, hkc7⟩
  clear CC qb0 qb1 qx0 qx1
  replace K0 := K0.trans hkc7
  replace KB := KB.trans hkc7
  replace Kx0 := Kx0.trans hkc7
  replace KX := KX.trans hkc7
  have Kx1 : Kp w7 w7 := Kp.refl _
  have qb0 := KB.get b0; have qb1 := KB.get b1
  have qx0 := KX.get x0; have qx1 := KX.get x1
  go_wp2_with fail
  have CC := Lib.hid (toIntS_any A2 xs2 m2 c2 _ (hx2.kp K0) Hn2.out (by omega))
  with_reducible refine Calls.mono CC.out ?_
  rintro e w8 ⟨gx2, rfl, hgx2, hx2r, hkc8⟩
  clear CC qb0 qb1 qx0 qx1
  replace K0 := K0.trans hkc8
  replace KB := KB.trans hkc8
  replace Kx0 := Kx0.trans hkc8
  replace KX := KX.trans hkc8
  replace Kx1 := Kx1.trans hkc8
  have Kx2 : Kp w8 w8 := Kp.refl _
  have qb0 := KB.get b0; have qb1 := KB.get b1
  have qx0 := KX.get x0; have qx1 := KX.get x1
  go_wp2_with fail
  have CC := Lib.hid (implRr_any _ F0 _ xs1 m1 m1 _ xs2 m2 m2 a3 _ ((hx0.small hb).kp Kx0) (hx1r.ats Hn1.out (by omega) Kx1) Hn1.out (hx2r.ats Hn2.out (by omega) Kx2) Hn2.out)
  with_reducible refine Calls.mono CC.out ?_
  rintro e w9 ⟨rfl, hkc9⟩
  clear CC qb0 qb1 qx0 qx1
  replace K0 := K0.trans hkc9
  replace KB := KB.trans hkc9
  replace Kx0 := Kx0.trans hkc9
  replace KX := KX.trans hkc9
  replace Kx1 := Kx1.trans hkc9
  replace Kx2 := Kx2.trans hkc9
  have qb0 := KB.get b0; have qb1 := KB.get b1
  have qx0 := KX.get x0; have qx1 := KX.get x1
  go_wp2_with fail
  have hdk := (Kp.refl w9).drew
  have CC := Lib.hid (toField_any _ F0 _ ((hfk.kp KB).kp hdk) hb)
  have Hx := Lib.hid ((hx0.small hb).kp Kx0)
  have y0 := KX.get x0; have y1 := KX.get x1
  go_cut [65] (fun s wc => s = .bool false ∧ Kp w9 wc)
  case first =>
    go_region_with (first
      | (go_at_call 6; with_reducible refine Calls.mono CC.out ?_; rintro e wa ⟨va, rfl, hva, hka⟩; obtain ⟨Ay, cy, By, dy, hv3e⟩ := hva.agg; subst hv3e; have z0 := hka.get (hdk.get y0); have z1 := hka.get (hdk.get y1))
      | (go_at_call 9; with_reducible refine Calls.mono (eqField_any _ _ F0 _ ((Hx.out.kp hdk).kp hka) (hva.small hb)) ?_; rintro e wb ⟨rfl, hkb⟩))
    all_goals (go_wp2_with fail; go_meet; exact ⟨rfl, (hdk.trans hka).trans hkb⟩)
  case rest =>
    obtain ⟨rfl, hkc⟩ := hcut
    obtain ⟨w10, rfl⟩ : ∃ q : World, q = wc := ⟨_, rfl⟩
    clear CC Hx y0 y1 hdk qb0 qb1 qx0 qx1
    replace K0 := K0.trans hkc
    replace KB := KB.trans hkc
    replace Kx0 := Kx0.trans hkc
    replace KX := KX.trans hkc
    replace Kx1 := Kx1.trans hkc
    replace Kx2 := Kx2.trans hkc
    have qb0 := KB.get b0; have qb1 := KB.get b1
    have qx0 := KX.get x0; have qx1 := KX.get x1
    go_wp2_with fail
    have CC := Lib.hid (toIntS_any A1 xs1 m1 c1 _ (hx1.kp K0) Hn1.out (by omega))
    with_reducible refine Calls.mono CC.out ?_
    rintro e w11 ⟨gy1, rfl, hgy1, hy1, hkc11⟩
    clear CC qb0 qb1 qx0 qx1
    replace K0 := K0.trans hkc11
    replace KB := KB.trans hkc11
    replace Kx0 := Kx0.trans hkc11
    replace KX := KX.trans hkc11
    replace Kx1 := Kx1.trans hkc11
    replace Kx2 := Kx2.trans hkc11
    have qb0 := KB.get b0; have qb1 := KB.get b1
    have qx0 := KX.get x0; have qx1 := KX.get x1
    go_wp2_with fail
    have CC := Lib.hid (eqIntS_any _ _ xs1 xs1 m1 m1 m1 m1 _ (hx1r.ats Hn1.out (by omega) Kx1) (hy1.ats Hn1.out (by omega) (Kp.refl _)) Hn1.out Hn1.out)
    with_reducible refine Calls.mono CC.out ?_
    rintro e w12 ⟨rfl, hkc12⟩
    clear CC qb0 qb1 qx0 qx1
    replace K0 := K0.trans hkc12
    replace KB := KB.trans hkc12
    replace Kx0 := Kx0.trans hkc12
    replace KX := KX.trans hkc12
    replace Kx1 := Kx1.trans hkc12
    replace Kx2 := Kx2.trans hkc12
    simp only [decide_true]
    have qb0 := KB.get b0; have qb1 := KB.get b1
    have qx0 := KX.get x0; have qx1 := KX.get x1
    go_wp2_with fail
    have CC := Lib.hid (toIntS_any A2 xs2 m2 c2 _ (hx2.kp K0) Hn2.out (by omega))
    with_reducible refine Calls.mono CC.out ?_
    rintro e w13 ⟨gy2, rfl, hgy2, hy2, hkc13⟩
    clear CC qb0 qb1 qx0 qx1
    replace K0 := K0.trans hkc13
    replace KB := KB.trans hkc13
    replace Kx0 := Kx0.trans hkc13
    replace KX := KX.trans hkc13
    replace Kx1 := Kx1.trans hkc13
    replace Kx2 := Kx2.trans hkc13
    have qb0 := KB.get b0; have qb1 := KB.get b1
    have qx0 := KX.get x0; have qx1 := KX.get x1
    go_wp2_with fail
    have CC := Lib.hid (eqIntS_any _ _ xs2 xs2 m2 m2 m2 m2 _ (hx2r.ats Hn2.out (by omega) Kx2) (hy2.ats Hn2.out (by omega) (Kp.refl _)) Hn2.out Hn2.out)
    with_reducible refine Calls.mono CC.out ?_
    rintro e w14 ⟨rfl, hkc14⟩
    clear CC qb0 qb1 qx0 qx1
    replace K0 := K0.trans hkc14
    replace KB := KB.trans hkc14
    replace Kx0 := Kx0.trans hkc14
    replace KX := KX.trans hkc14
    replace Kx1 := Kx1.trans hkc14
    replace Kx2 := Kx2.trans hkc14
    simp only [decide_true]
    have qb0 := KB.get b0; have qb1 := KB.get b1
    have qx0 := KX.get x0; have qx1 := KX.get x1
    go_wp2_with fail
    go_ret
    exact ⟨rfl, K0⟩

set_option maxRecDepth 100000 in
theorem rr_lifted (os : Os) (started : os.Started) (H : Type) (enc : TypeId × Value → H) :
    ReturnsInHanded {} Tryz.checked os 3 .any (Rows.fnExactRoomReachSpec.pre6 enc Tryz.prog Tryz.f3 Rows.fnExactRoomReachRow.domain false) (Rows.fnExactRoomReachSpec.post enc Tryz.prog Tryz.f3 false true false false) := by
  refine returnsInHanded_of_change (C := Tryz.checked) ownKnobs started (by kernel_rfl) Tryz.func3
    (ChangeSpec.witness6 (enc := enc) (C := Tryz.checked) false ⟨#[], #[.agg #[.slice none 0 0, .slice none 0 0], .slice none 0 0, .slice none 0 0, .int .i64 0], []⟩ 8 (by kernel_rfl) (by kernel_rfl) (by kernel_rfl) (by kernel_rfl)) ?_
  intro W base args ds gs before hval hW _ _
  obtain ⟨p, q, hA0, hV, hbf, hz, hn⟩ := id hW
  have hA : DataW.TrodAll enc Tryz.prog W 0 (fun _ => true) true Tryz.f3.params.toList args.toList ds p := hA0
  have hval' : ∀ (j : Nat) t v, Tryz.f3.params[j]? = some t → args[j]? = some v → Value.okWide Tryz.prog W .any base t v := hval
  rw [Tryz.params3] at hA hval'
  obtain ⟨v0, v1, v2, v3, d0, d1, d2, d3, p0, p1, p2, p3, rfl, rfl, rfl, h0, h1, h2, h3⟩ := trodAll_four hA
  obtain ⟨F0, hf0⟩ := open_fldAt (hval' 0 _ v0 rfl rfl) h0
  obtain ⟨A1, xs1, c1, rfl, hx1⟩ := open_intsAt Tryz.underlying22 Tryz.underlying3 cellsInt (hval' 1 _ v1 rfl rfl) h1
  obtain ⟨A2, xs2, c2, rfl, hx2⟩ := open_intsAt Tryz.underlying22 Tryz.underlying3 cellsInt (hval' 2 _ v2 rfl rfl) h2
  obtain ⟨a3, rfl, rfl, rfl, w3⟩ := open_int Tryz.underlying3 (hval' 3 _ v3 rfl rfl) h3
  refine (rr_law _ F0 A1 xs1 _ c1 A2 xs2 _ c2 a3 W hf0 hx1 rfl hx2 rfl w3).mono fun e W' ⟨he, hk⟩ => ⟨_, he, ?_⟩
  exact post_of_kp laidOut rfl (by kernel_rfl) rfl Tryz.underlying4 (fun ds' hd => match ds', hd with | [_, _, _, _], _ => rfl) rfl hW hk

theorem FnExactRoomReach_holds : Rows.FnExactRoomReachSaid :=
  OpenClaim.holds_of_wide 3 Tryz.f3 rfl rfl rfl rfl rfl rfl rfl ⟨rfl, rfl, rfl, rfl, rfl⟩ rfl rfl rfl rfl rfl (by kernel_rfl) Tryz.func3 (by kernel_rfl)
    (of_decide_eq_true (by kernel_rfl)) (by unfold Func.isWrapper; first | (rw [if_pos (by decide +kernel)]; kernel_rfl) | (rw [if_neg (by decide +kernel)]; exact ⟨rfl, rfl⟩))
    (fun os started H enc _ => rr_lifted os started H enc)
end Go.Proofs.YtbfmencamaicbaaGreat
