/- FnExactPlanCost: for every input the program and the reference agree. No condition. -/
import Derived.Test.YtpifeplcmfcheaaFrame2
import Derived.Test.YtpifeplcmfcheaaLawU
import Derived.Test.YtpifeplcmfcheaaSea2
import Derived.Test.YtpifeplcmfcheaaSeaLaw
import Derived.Test.YtpifeplcmfcheaaMoves
namespace Go.Proofs.Ytpifeplcmfcheaa
open Go.ChangeShapes Go.WideShapes Go.ChangeAt Go.RowKit

set_option maxRecDepth 100000 in
set_option maxHeartbeats 4000000 in
theorem plCost_law (f0 : Value) (S0 : Sea) (B1 : Option Addr) (rs1 : List (List Int)) (m1 c1 : Nat) (w : World) (hf0 : SeaAt w f0 S0) (hx1 : GridAt w B1 rs1) (hn1 : rs1.length = m1) :
    Calls Try.prog 8 #[f0, .slice B1 m1 c1] w fun e w' => e = .returned (.bool true) ∧ Kp w w' := by
  have Hn1 := Lib.hid hn1; clear hn1
  obtain ⟨A, a, B, b, C, c, D, d, rfl, hA, hB, hC, hD⟩ := id hf0
  clear hA hB hC hD
  have hk0 : Kp w (w.alloc (.cells #[.slice A S0.op.length a, .slice B S0.cl.length b, .slice C S0.ke.length c, .slice D S0.ro.length d] 25)) := (Kp.refl w).alloc _
  obtain ⟨b0, b1, b2, b3⟩ := box4 w (.slice A S0.op.length a) (.slice B S0.cl.length b) (.slice C S0.ke.length c) (.slice D S0.ro.length d) 25
  by_cases hb : ¬ S0.bulk ≤ 1048576
  · have hs := Lib.hid (left_big hb)
    go_enter Try.func8, Try.ntmps8
    go_wp2_with fail
    have CC := Lib.hid (szSeason_any _ S0 _ (hf0.kp hk0))
    with_reducible refine Calls.mono CC.out ?_
    rintro e w1 ⟨rfl, hk1⟩
    rw [hs.out]
    go_wp2_with fail
    go_ret
    exact ⟨rfl, hk0.trans hk1⟩
  replace hb : S0.bulk ≤ 1048576 := Decidable.not_not.1 hb
  have hs := Lib.hid (left_small hb)
  have n0 : ((plC S0 rs1) != (plC S0 rs1)) = false := by simp
  have n1 : ((plOk S0 rs1) != (plOk S0 rs1)) = false := by simp
  have hfk := hf0.kp hk0
  have K0 : Kp w (w.alloc (.cells #[.slice A S0.op.length a, .slice B S0.cl.length b, .slice C S0.ke.length c, .slice D S0.ro.length d] 25)) := hk0
  go_enter Try.func8, Try.ntmps8
  go_wp2_with fail
  generalize w.alloc (.cells #[.slice A S0.op.length a, .slice B S0.cl.length b, .slice C S0.ke.length c, .slice D S0.ro.length d] 25) = w0 at *
  have KB : Kp w0 w0 := Kp.refl _
  have hz0 := hk0.le
  have CC := Lib.hid (szSeason_any _ S0 _ hfk)
  with_reducible refine Calls.mono CC.out ?_
  rintro e w1 ⟨rfl, hkc1⟩
  clear CC
  replace K0 := K0.trans hkc1
  replace KB := KB.trans hkc1
  rw [hs.out]
  rw [show ((1048576 : Int) - (S0.bulk : Nat)) = 1048576 - (S0.bulk : Int) from rfl]
  have qb0 := KB.get b0
  have qb1 := KB.get b1
  have qb2 := KB.get b2
  have qb3 := KB.get b3
  go_wp2_with fail
  have CC := Lib.hid (szIntSS_any B1 rs1 m1 c1 (1048576 - (S0.bulk : Int)) _ (hx1.kp K0) Hn1.out (by omega) (by omega))
  with_reducible refine Calls.mono CC.out ?_
  rintro e wz ⟨rfl, hw⟩
  obtain rfl := hw
  clear CC qb0 qb1 qb2 qb3
  by_cases hg1 : ¬ ((m1 + rowSum rs1 : Nat) : Int) ≤ (1048576 - (S0.bulk : Int))
  · rw [left1_no hg1]
    have qb0 := KB.get b0
    have qb1 := KB.get b1
    have qb2 := KB.get b2
    have qb3 := KB.get b3
    go_wp2_with fail
    go_ret
    exact ⟨rfl, K0⟩
  replace hg1 := Decidable.not_not.1 hg1
  rw [left1_pos hg1]
  have qb0 := KB.get b0
  have qb1 := KB.get b1
  have qb2 := KB.get b2
  have qb3 := KB.get b3
  go_wp2_with fail
  have CC := Lib.hid (toSeason_any _ S0 _ (hfk.kp KB) hb)
  with_reducible refine Calls.mono CC.out ?_
  rintro e w2 ⟨vs, rfl, hs0, hkc2⟩
  clear CC qb0 qb1 qb2 qb3
  replace K0 := K0.trans hkc2
  replace KB := KB.trans hkc2
  have Ks0 : Kp w2 w2 := Kp.refl _
  have qb0 := KB.get b0
  have qb1 := KB.get b1
  have qb2 := KB.get b2
  have qb3 := KB.get b3
  go_wp2_with fail
  have CC := Lib.hid (toIntSS_at B1 rs1 m1 c1 _ (hx1.kp K0) Hn1.out (by omega))
  with_reducible refine Calls.mono CC.out ?_
  rintro e w3 ⟨As1, cs1, rfl, hs1, hkc3⟩
  clear CC qb0 qb1 qb2 qb3
  replace K0 := K0.trans hkc3
  replace KB := KB.trans hkc3
  replace Ks0 := Ks0.trans hkc3
  have Ks1 : Kp w3 w3 := Kp.refl _
  have qb0 := KB.get b0
  have qb1 := KB.get b1
  have qb2 := KB.get b2
  have qb3 := KB.get b3
  go_wp2_with fail
  have CC := Lib.hid (specPlanCost_any _ S0 _ rs1 m1 cs1 _ (hs0.kp Ks0) (hs1.kp Ks1) Hn1.out)
  with_reducible refine Calls.mono CC.out ?_
  rintro e w4 ⟨rfl, hkc4⟩
  clear CC qb0 qb1 qb2 qb3
  replace K0 := K0.trans hkc4
  replace KB := KB.trans hkc4
  replace Ks0 := Ks0.trans hkc4
  replace Ks1 := Ks1.trans hkc4
  clear Ks0
  clear Ks1
  have qb0 := KB.get b0
  have qb1 := KB.get b1
  have qb2 := KB.get b2
  have qb3 := KB.get b3
  go_wp2_with fail
  have CC := Lib.hid (toSeason_any _ S0 _ (hfk.kp KB) hb)
  with_reducible refine Calls.mono CC.out ?_
  rintro e w5 ⟨vx, rfl, hx0s, hkc5⟩
  clear CC qb0 qb1 qb2 qb3
  replace K0 := K0.trans hkc5
  replace KB := KB.trans hkc5
  obtain ⟨Ax, ax, Bx, bx, Cx, cx, Dx, dx, hv2e, hq1, hq2, hq3, hq4⟩ := id hx0s
  clear hq1 hq2 hq3 hq4
  subst hv2e
  have hkx := (Kp.refl w5).alloc (.cells #[.slice Ax S0.op.length ax, .slice Bx S0.cl.length bx, .slice Cx S0.ke.length cx, .slice Dx S0.ro.length dx] 28)
  obtain ⟨x0, x1, x2, x3⟩ := box4 w5 (.slice Ax S0.op.length ax) (.slice Bx S0.cl.length bx) (.slice Cx S0.ke.length cx) (.slice Dx S0.ro.length dx) 28
  have Kx0 : Kp w5 w5 := Kp.refl _
  replace K0 := K0.trans hkx
  replace KB := KB.trans hkx
  replace Kx0 := Kx0.trans hkx
  have KX : Kp (w5.alloc (.cells #[.slice Ax S0.op.length ax, .slice Bx S0.cl.length bx, .slice Cx S0.ke.length cx, .slice Dx S0.ro.length dx] 28)) (w5.alloc (.cells #[.slice Ax S0.op.length ax, .slice Bx S0.cl.length bx, .slice Cx S0.ke.length cx, .slice Dx S0.ro.length dx] 28)) := Kp.refl _
  have qb0 := KB.get b0
  have qb1 := KB.get b1
  have qb2 := KB.get b2
  have qb3 := KB.get b3
  have qx0 := KX.get x0
  have qx1 := KX.get x1
  have qx2 := KX.get x2
  have qx3 := KX.get x3
  go_wp2_with fail
  have CC := Lib.hid (toIntSS_at B1 rs1 m1 c1 _ (hx1.kp K0) Hn1.out (by omega))
  with_reducible refine Calls.mono CC.out ?_
  rintro e w6 ⟨Ax1, cx1, rfl, hx1g, hkc6⟩
  clear CC qb0 qb1 qb2 qb3 qx0 qx1 qx2 qx3
  replace K0 := K0.trans hkc6
  replace KB := KB.trans hkc6
  replace Kx0 := Kx0.trans hkc6
  replace KX := KX.trans hkc6
  have Kx1 : Kp w6 w6 := Kp.refl _
  have qb0 := KB.get b0
  have qb1 := KB.get b1
  have qb2 := KB.get b2
  have qb3 := KB.get b3
  have qx0 := KX.get x0
  have qx1 := KX.get x1
  have qx2 := KX.get x2
  have qx3 := KX.get x3
  go_wp2_with fail
  have CC := Lib.hid (implPlanCost_any _ S0 _ rs1 m1 cx1 _ (hx0s.kp Kx0) (hx1g.kp Kx1) Hn1.out)
  with_reducible refine Calls.mono CC.out ?_
  rintro e w7 ⟨rfl, hkc7⟩
  clear CC qb0 qb1 qb2 qb3 qx0 qx1 qx2 qx3
  replace K0 := K0.trans hkc7
  replace KB := KB.trans hkc7
  replace Kx0 := Kx0.trans hkc7
  replace KX := KX.trans hkc7
  replace Kx1 := Kx1.trans hkc7
  have qb0 := KB.get b0
  have qb1 := KB.get b1
  have qb2 := KB.get b2
  have qb3 := KB.get b3
  have qx0 := KX.get x0
  have qx1 := KX.get x1
  have qx2 := KX.get x2
  have qx3 := KX.get x3
  go_wp2_with fail
  have HS1 := Lib.hid (fun (wq : World) (hq : Kp w7 wq) => toSeason_any _ S0 wq ((hfk.kp KB).kp hq) hb)
  have HS2 := Lib.hid (fun (wq : World) (hq : Kp w7 wq) (va : Value) (hv : SeaAt wq va S0) => eqSeason_any _ va S0 wq ((hx0s.kp Kx0).kp hq) hv)
  have tok1 : True := trivial
  have hk_ : Kp w7 w7 := Kp.refl _
  go_cut [52] (fun s wc => s = .bool false ∧ Kp w7 wc)
  case first =>
    go_region_held3 (fun w' => w'.cell? ⟨w.heap.size, 0, none⟩ = some (.slice A S0.op.length a) ∧ w'.cell? ⟨w.heap.size, 1, none⟩ = some (.slice B S0.cl.length b) ∧ w'.cell? ⟨w.heap.size, 2, none⟩ = some (.slice C S0.ke.length c) ∧ w'.cell? ⟨w.heap.size, 3, none⟩ = some (.slice D S0.ro.length d) ∧ w'.cell? ⟨w5.heap.size, 0, none⟩ = some (.slice Ax S0.op.length ax) ∧ w'.cell? ⟨w5.heap.size, 1, none⟩ = some (.slice Bx S0.cl.length bx) ∧ w'.cell? ⟨w5.heap.size, 2, none⟩ = some (.slice Cx S0.ke.length cx) ∧ w'.cell? ⟨w5.heap.size, 3, none⟩ = some (.slice Dx S0.ro.length dx) ∧ Kp w7 w')
      (first | (refine keepc8 qb0 qb1 qb2 qb3 qx0 qx1 qx2 qx3 ?_; exact (by repeat (first | with_reducible assumption | with_reducible exact Kp.refl _ | with_reducible refine Kp.drew ?_ | with_reducible refine Kp.alloc ?_ _ | with_reducible refine Kp.drewN ?_ _))) | fail)
      (first
        | (have _t := tok1; go_at_call 12; with_reducible refine Calls.mono (HS1.out _ (by repeat (first | with_reducible assumption | with_reducible exact Kp.refl _ | with_reducible refine Kp.drew ?_ | with_reducible refine Kp.alloc ?_ _ | with_reducible refine Kp.drewN ?_ _))) ?_; rintro e wa ⟨va, rfl, hva, hka⟩; obtain ⟨Ay, ay, By, byy, Cy, cy, Dy, dy, hv3e⟩ := hva.agg; subst hv3e; have hr1 : Kp w7 wa := Kp.trans (by repeat (first | with_reducible assumption | with_reducible exact Kp.refl _ | with_reducible refine Kp.drew ?_ | with_reducible refine Kp.alloc ?_ _ | with_reducible refine Kp.drewN ?_ _)) hka; have tok2 : True := trivial; clear tok1 _t)
        | (have _t := tok2; go_at_call 14; with_reducible refine Calls.mono (HS2.out _ (by repeat (first | with_reducible assumption | with_reducible exact Kp.refl _ | with_reducible refine Kp.drew ?_ | with_reducible refine Kp.alloc ?_ _ | with_reducible refine Kp.drewN ?_ _)) _ (hva.kp (by repeat (first | with_reducible assumption | with_reducible exact Kp.refl _ | with_reducible refine Kp.drew ?_ | with_reducible refine Kp.alloc ?_ _ | with_reducible refine Kp.drewN ?_ _)))) ?_; rintro e wb ⟨rfl, hkb⟩; have hr2 : Kp w7 wb := Kp.trans (by repeat (first | with_reducible assumption | with_reducible exact Kp.refl _ | with_reducible refine Kp.drew ?_ | with_reducible refine Kp.alloc ?_ _ | with_reducible refine Kp.drewN ?_ _)) hkb; clear tok2 _t)
        | fail)
    all_goals (go_wp2_with fail; go_meet; exact ⟨rfl, hr2⟩)
  case rest =>
    obtain ⟨rfl, hkc⟩ := hcut
    obtain ⟨w8, rfl⟩ : ∃ q : World, q = wc := ⟨_, rfl⟩
    clear HS1 HS2 tok1 hk_ qb0 qb1 qb2 qb3 qx0 qx1 qx2 qx3
    replace K0 := K0.trans hkc
    replace KB := KB.trans hkc
    replace Kx0 := Kx0.trans hkc
    replace KX := KX.trans hkc
    replace Kx1 := Kx1.trans hkc
    have qb0 := KB.get b0
    have qb1 := KB.get b1
    have qb2 := KB.get b2
    have qb3 := KB.get b3
    have qx0 := KX.get x0
    have qx1 := KX.get x1
    have qx2 := KX.get x2
    have qx3 := KX.get x3
    go_wp2_with fail
    have CC := Lib.hid (toIntSS_at B1 rs1 m1 c1 _ (hx1.kp K0) Hn1.out (by omega))
    with_reducible refine Calls.mono CC.out ?_
    rintro e w9 ⟨Ay1, cy1, rfl, hy1g, hkc9⟩
    clear CC qb0 qb1 qb2 qb3 qx0 qx1 qx2 qx3
    replace K0 := K0.trans hkc9
    replace KB := KB.trans hkc9
    replace Kx0 := Kx0.trans hkc9
    replace KX := KX.trans hkc9
    replace Kx1 := Kx1.trans hkc9
    have qb0 := KB.get b0
    have qb1 := KB.get b1
    have qb2 := KB.get b2
    have qb3 := KB.get b3
    have qx0 := KX.get x0
    have qx1 := KX.get x1
    have qx2 := KX.get x2
    have qx3 := KX.get x3
    go_wp2_with fail
    have CC := Lib.hid (eqIntSS_any2 _ _ rs1 m1 cx1 cy1 _ (hx1g.kp Kx1) hy1g Hn1.out)
    with_reducible refine Calls.mono CC.out ?_
    rintro e w10 ⟨rfl, hkc10⟩
    clear CC qb0 qb1 qb2 qb3 qx0 qx1 qx2 qx3
    replace K0 := K0.trans hkc10
    replace KB := KB.trans hkc10
    replace Kx0 := Kx0.trans hkc10
    replace KX := KX.trans hkc10
    replace Kx1 := Kx1.trans hkc10
    have qb0 := KB.get b0
    have qb1 := KB.get b1
    have qb2 := KB.get b2
    have qb3 := KB.get b3
    have qx0 := KX.get x0
    have qx1 := KX.get x1
    have qx2 := KX.get x2
    have qx3 := KX.get x3
    go_wp2_with fail
    go_ret
    exact ⟨rfl, K0⟩

set_option maxRecDepth 100000 in
theorem plCost_lifted (os : Os) (started : os.Started) (H : Type) (enc : TypeId × Value → H) :
    ReturnsInHanded {} Try.checked os 8 .any (Rows.fnExactPlanCostSpec.pre6 enc Try.prog Try.f8 Rows.fnExactPlanCostRow.domain false) (Rows.fnExactPlanCostSpec.post enc Try.prog Try.f8 false true false false) := by
  refine returnsInHanded_of_change (C := Try.checked) ownKnobs started (by kernel_rfl) Try.func8
    (ChangeSpec.witness6 (enc := enc) (C := Try.checked) false ⟨#[], #[.agg #[.slice none 0 0, .slice none 0 0, .slice none 0 0, .slice none 0 0], .slice none 0 0], []⟩ 8 (by kernel_rfl) (by kernel_rfl) (by kernel_rfl) (by kernel_rfl)) ?_
  intro W base args ds gs before hval hW _ _
  obtain ⟨p, q, hA0, hV, hbf, hz, hn⟩ := id hW
  have hA : DataW.TrodAll enc Try.prog W 0 (fun _ => true) true Try.f8.params.toList args.toList ds p := hA0
  have hval' : ∀ (j : Nat) t v, Try.f8.params[j]? = some t → args[j]? = some v → Value.okWide Try.prog W .any base t v := hval
  rw [Try.params8] at hA hval'
  obtain ⟨v0, v1, d0, d1, p0, p1, rfl, rfl, rfl, h0, h1⟩ := trodAll_two hA
  obtain ⟨F0, hf0⟩ := open_seasonAt (hval' 0 _ v0 rfl rfl) h0
  obtain ⟨B1, rs1, c1, rfl, hx1⟩ := open_gridAt (hval' 1 _ v1 rfl rfl) h1
  refine (plCost_law _ F0 B1 rs1 _ c1 W hf0 hx1 rfl).mono fun e W' ⟨he, hk⟩ => ⟨_, he, ?_⟩
  exact post_of_kp laidOut rfl (by kernel_rfl) rfl Try.underlying4 (fun ds' hd => match ds', hd with | [_, _], _ => rfl) rfl hW hk

theorem FnExactPlanCost_holds : Rows.FnExactPlanCostSaid :=
  OpenClaim.holds_of_wide 8 Try.f8 rfl rfl rfl rfl rfl rfl rfl ⟨rfl, rfl, rfl, rfl, rfl⟩ rfl rfl rfl rfl rfl (by kernel_rfl) Try.func8 (by kernel_rfl)
    (of_decide_eq_true (by kernel_rfl)) (by unfold Func.isWrapper; first | (rw [if_pos (by decide +kernel)]; kernel_rfl) | (rw [if_neg (by decide +kernel)]; exact ⟨rfl, rfl⟩))
    (fun os started H enc _ => plCost_lifted os started H enc)
end Go.Proofs.Ytpifeplcmfcheaa
