/- FnExactIsSeason: for every input the program and the reference agree. No condition. -/
import Derived.Test.YtghpkjllcapbpaaFrame2
import Derived.Test.YtghpkjllcapbpaaLawU
import Derived.Test.YtghpkjllcapbpaaSea2
import Derived.Test.YtghpkjllcapbpaaSeaLaw
import Derived.Test.YtghpkjllcapbpaaSea7
namespace Go.Proofs.Ytghpkjllcapbpaa
open Go.ChangeShapes Go.WideShapes Go.ChangeAt Go.RowKit

set_option maxRecDepth 100000 in
set_option maxHeartbeats 4000000 in
theorem isSea_law (f0 : Value) (S0 : Sea) (w : World) (hf0 : SeaAt w f0 S0) :
    Calls Try.prog 3 #[f0] w fun e w' => e = .returned (.bool true) ∧ Kp w w' := by
  obtain ⟨A, a, B, b, C, c, D, d, rfl, hA, hB, hC, hD⟩ := id hf0
  clear hA hB hC hD
  have hk0 : Kp w (w.alloc (.cells #[.slice A S0.op.length a, .slice B S0.cl.length b, .slice C S0.ke.length c, .slice D S0.ro.length d] 25)) := (Kp.refl w).alloc _
  obtain ⟨b0, b1, b2, b3⟩ := box4 w (.slice A S0.op.length a) (.slice B S0.cl.length b) (.slice C S0.ke.length c) (.slice D S0.ro.length d) 25
  by_cases hb : ¬ S0.bulk ≤ 1048576
  · have hs := Lib.hid (left_big hb)
    go_enter Try.func3, Try.ntmps3
    go_wp2_with fail
    have CC := Lib.hid (szSeason_any _ S0 _ (hf0.kp hk0))
    with_reducible refine Calls.mono CC.out ?_
    rintro e w1 ⟨rfl, hk1⟩
    rw [hs.out]
    go_wp2_with fail
    go_ret
    exact ⟨rfl, hk0.trans hk1⟩
  replace hb : S0.bulk ≤ 1048576 := Decidable.not_not.1 hb
  have hs := Lib.hid (left_small hb)
  have n0 : ((goodS S0) != (goodS S0)) = false := by simp
  have hfk := hf0.kp hk0
  have K0 : Kp w (w.alloc (.cells #[.slice A S0.op.length a, .slice B S0.cl.length b, .slice C S0.ke.length c, .slice D S0.ro.length d] 25)) := hk0
  go_enter Try.func3, Try.ntmps3
  go_wp2_with fail
  generalize w.alloc (.cells #[.slice A S0.op.length a, .slice B S0.cl.length b, .slice C S0.ke.length c, .slice D S0.ro.length d] 25) = w0 at *
  have KB : Kp w0 w0 := Kp.refl _
  have hz0 := hk0.le
  have CC := Lib.hid (szSeason_any _ S0 _ hfk)
  with_reducible refine Calls.mono CC.out ?_
  rintro e w1 ⟨rfl, hkc1⟩
  clear CC
  replace K0 := K0.trans hkc1
  replace KB := KB.trans hkc1
  rw [hs.out]
  rw [show ((1048576 : Int) - (S0.bulk : Nat)) = 1048576 - (S0.bulk : Int) from rfl]
  have qb0 := KB.get b0
  have qb1 := KB.get b1
  have qb2 := KB.get b2
  have qb3 := KB.get b3
  go_wp2_with fail
  have CC := Lib.hid (toSeason_any _ S0 _ (hfk.kp KB) hb)
  with_reducible refine Calls.mono CC.out ?_
  rintro e w2 ⟨vs, rfl, hs0, hkc2⟩
  clear CC qb0 qb1 qb2 qb3
  replace K0 := K0.trans hkc2
  replace KB := KB.trans hkc2
  have Ks0 : Kp w2 w2 := Kp.refl _
  have qb0 := KB.get b0
  have qb1 := KB.get b1
  have qb2 := KB.get b2
  have qb3 := KB.get b3
  go_wp2_with fail
  have CC := Lib.hid (specIsSeason_any _ S0 _ (hs0.kp Ks0))
  with_reducible refine Calls.mono CC.out ?_
  rintro e w3 ⟨rfl, hkc3⟩
  clear CC qb0 qb1 qb2 qb3
  replace K0 := K0.trans hkc3
  replace KB := KB.trans hkc3
  replace Ks0 := Ks0.trans hkc3
  clear Ks0
  have qb0 := KB.get b0
  have qb1 := KB.get b1
  have qb2 := KB.get b2
  have qb3 := KB.get b3
  go_wp2_with fail
  have CC := Lib.hid (toSeason_any _ S0 _ (hfk.kp KB) hb)
  with_reducible refine Calls.mono CC.out ?_
  rintro e w4 ⟨vx, rfl, hx0s, hkc4⟩
  clear CC qb0 qb1 qb2 qb3
  replace K0 := K0.trans hkc4
  replace KB := KB.trans hkc4
  obtain ⟨Ax, ax, Bx, bx, Cx, cx, Dx, dx, hv2e, hq1, hq2, hq3, hq4⟩ := id hx0s
  clear hq1 hq2 hq3 hq4
  subst hv2e
  have hkx := (Kp.refl w4).alloc (.cells #[.slice Ax S0.op.length ax, .slice Bx S0.cl.length bx, .slice Cx S0.ke.length cx, .slice Dx S0.ro.length dx] 28)
  obtain ⟨x0, x1, x2, x3⟩ := box4 w4 (.slice Ax S0.op.length ax) (.slice Bx S0.cl.length bx) (.slice Cx S0.ke.length cx) (.slice Dx S0.ro.length dx) 28
  have Kx0 : Kp w4 w4 := Kp.refl _
  replace K0 := K0.trans hkx
  replace KB := KB.trans hkx
  replace Kx0 := Kx0.trans hkx
  have KX : Kp (w4.alloc (.cells #[.slice Ax S0.op.length ax, .slice Bx S0.cl.length bx, .slice Cx S0.ke.length cx, .slice Dx S0.ro.length dx] 28)) (w4.alloc (.cells #[.slice Ax S0.op.length ax, .slice Bx S0.cl.length bx, .slice Cx S0.ke.length cx, .slice Dx S0.ro.length dx] 28)) := Kp.refl _
  have qb0 := KB.get b0
  have qb1 := KB.get b1
  have qb2 := KB.get b2
  have qb3 := KB.get b3
  have qx0 := KX.get x0
  have qx1 := KX.get x1
  have qx2 := KX.get x2
  have qx3 := KX.get x3
  go_wp2_with fail
  have CC := Lib.hid (implIsSeason_any _ S0 _ (hx0s.kp Kx0))
  with_reducible refine Calls.mono CC.out ?_
  rintro e w5 ⟨rfl, hkc5⟩
  clear CC qb0 qb1 qb2 qb3 qx0 qx1 qx2 qx3
  replace K0 := K0.trans hkc5
  replace KB := KB.trans hkc5
  replace Kx0 := Kx0.trans hkc5
  replace KX := KX.trans hkc5
  have qb0 := KB.get b0
  have qb1 := KB.get b1
  have qb2 := KB.get b2
  have qb3 := KB.get b3
  have qx0 := KX.get x0
  have qx1 := KX.get x1
  have qx2 := KX.get x2
  have qx3 := KX.get x3
  go_wp2_with fail
  have HS1 := Lib.hid (fun (wq : World) (hq : Kp w5 wq) => toSeason_any _ S0 wq ((hfk.kp KB).kp hq) hb)
  have HS2 := Lib.hid (fun (wq : World) (hq : Kp w5 wq) (va : Value) (hv : SeaAt wq va S0) => eqSeason_any _ va S0 wq ((hx0s.kp Kx0).kp hq) hv)
  have tok1 : True := trivial
  have hk_ : Kp w5 w5 := Kp.refl _
  go_cut [26] (fun s wc => s = .bool false ∧ Kp w5 wc)
  case first =>
    go_region_held3 (fun w' => w'.cell? ⟨w.heap.size, 0, none⟩ = some (.slice A S0.op.length a) ∧ w'.cell? ⟨w.heap.size, 1, none⟩ = some (.slice B S0.cl.length b) ∧ w'.cell? ⟨w.heap.size, 2, none⟩ = some (.slice C S0.ke.length c) ∧ w'.cell? ⟨w.heap.size, 3, none⟩ = some (.slice D S0.ro.length d) ∧ w'.cell? ⟨w4.heap.size, 0, none⟩ = some (.slice Ax S0.op.length ax) ∧ w'.cell? ⟨w4.heap.size, 1, none⟩ = some (.slice Bx S0.cl.length bx) ∧ w'.cell? ⟨w4.heap.size, 2, none⟩ = some (.slice Cx S0.ke.length cx) ∧ w'.cell? ⟨w4.heap.size, 3, none⟩ = some (.slice Dx S0.ro.length dx) ∧ Kp w5 w')
      (first | (refine keepc8 qb0 qb1 qb2 qb3 qx0 qx1 qx2 qx3 ?_; exact (by repeat (first | with_reducible assumption | with_reducible exact Kp.refl _ | with_reducible refine Kp.drew ?_ | with_reducible refine Kp.alloc ?_ _ | with_reducible refine Kp.drewN ?_ _))) | fail)
      (first
        | (have _t := tok1; go_at_call 12; with_reducible refine Calls.mono (HS1.out _ (by repeat (first | with_reducible assumption | with_reducible exact Kp.refl _ | with_reducible refine Kp.drew ?_ | with_reducible refine Kp.alloc ?_ _ | with_reducible refine Kp.drewN ?_ _))) ?_; rintro e wa ⟨va, rfl, hva, hka⟩; obtain ⟨Ay, ay, By, byy, Cy, cy, Dy, dy, hv3e⟩ := hva.agg; subst hv3e; have hr1 : Kp w5 wa := Kp.trans (by repeat (first | with_reducible assumption | with_reducible exact Kp.refl _ | with_reducible refine Kp.drew ?_ | with_reducible refine Kp.alloc ?_ _ | with_reducible refine Kp.drewN ?_ _)) hka; have tok2 : True := trivial; clear tok1 _t)
        | (have _t := tok2; go_at_call 14; with_reducible refine Calls.mono (HS2.out _ (by repeat (first | with_reducible assumption | with_reducible exact Kp.refl _ | with_reducible refine Kp.drew ?_ | with_reducible refine Kp.alloc ?_ _ | with_reducible refine Kp.drewN ?_ _)) _ (hva.kp (by repeat (first | with_reducible assumption | with_reducible exact Kp.refl _ | with_reducible refine Kp.drew ?_ | with_reducible refine Kp.alloc ?_ _ | with_reducible refine Kp.drewN ?_ _)))) ?_; rintro e wb ⟨rfl, hkb⟩; have hr2 : Kp w5 wb := Kp.trans (by repeat (first | with_reducible assumption | with_reducible exact Kp.refl _ | with_reducible refine Kp.drew ?_ | with_reducible refine Kp.alloc ?_ _ | with_reducible refine Kp.drewN ?_ _)) hkb; clear tok2 _t)
        | fail)
    all_goals (go_wp2_with fail; go_meet; exact ⟨rfl, hr2⟩)
  case rest =>
    obtain ⟨rfl, hkc⟩ := hcut
    obtain ⟨w6, rfl⟩ : ∃ q : World, q = wc := ⟨_, rfl⟩
    clear HS1 HS2 tok1 hk_ qb0 qb1 qb2 qb3 qx0 qx1 qx2 qx3
    replace K0 := K0.trans hkc
    replace KB := KB.trans hkc
    replace Kx0 := Kx0.trans hkc
    replace KX := KX.trans hkc
    have qb0 := KB.get b0
    have qb1 := KB.get b1
    have qb2 := KB.get b2
    have qb3 := KB.get b3
    have qx0 := KX.get x0
    have qx1 := KX.get x1
    have qx2 := KX.get x2
    have qx3 := KX.get x3
    go_wp2_with fail
    go_ret
    exact ⟨rfl, K0⟩

set_option maxRecDepth 100000 in
theorem isSea_lifted (os : Os) (started : os.Started) (H : Type) (enc : TypeId × Value → H) :
    ReturnsInHanded {} Try.checked os 3 .any (Rows.fnExactIsSeasonSpec.pre6 enc Try.prog Try.f3 Rows.fnExactIsSeasonRow.domain false) (Rows.fnExactIsSeasonSpec.post enc Try.prog Try.f3 false true false false) := by
  refine returnsInHanded_of_change (C := Try.checked) ownKnobs started (by kernel_rfl) Try.func3
    (ChangeSpec.witness6 (enc := enc) (C := Try.checked) false ⟨#[], #[.agg #[.slice none 0 0, .slice none 0 0, .slice none 0 0, .slice none 0 0]], []⟩ 8 (by kernel_rfl) (by kernel_rfl) (by kernel_rfl) (by kernel_rfl)) ?_
  intro W base args ds gs before hval hW _ _
  obtain ⟨p, q, hA0, hV, hbf, hz, hn⟩ := id hW
  have hA : DataW.TrodAll enc Try.prog W 0 (fun _ => true) true Try.f3.params.toList args.toList ds p := hA0
  have hval' : ∀ (j : Nat) t v, Try.f3.params[j]? = some t → args[j]? = some v → Value.okWide Try.prog W .any base t v := hval
  rw [Try.params3] at hA hval'
  obtain ⟨v0, d0, rfl, rfl, h0⟩ := trodAll_one hA
  obtain ⟨F0, hf0⟩ := open_seasonAt (hval' 0 _ v0 rfl rfl) h0
  refine (isSea_law _ F0 W hf0).mono fun e W' ⟨he, hk⟩ => ⟨_, he, ?_⟩
  exact post_of_kp laidOut rfl (by kernel_rfl) rfl Try.underlying4 (fun ds' hd => match ds', hd with | [_], _ => rfl) rfl hW hk

theorem FnExactIsSeason_holds : Rows.FnExactIsSeasonSaid :=
  OpenClaim.holds_of_wide 3 Try.f3 rfl rfl rfl rfl rfl rfl rfl ⟨rfl, rfl, rfl, rfl, rfl⟩ rfl rfl rfl rfl rfl (by kernel_rfl) Try.func3 (by kernel_rfl)
    (of_decide_eq_true (by kernel_rfl)) (by unfold Func.isWrapper; first | (rw [if_pos (by decide +kernel)]; kernel_rfl) | (rw [if_neg (by decide +kernel)]; exact ⟨rfl, rfl⟩))
    (fun os started H enc _ => isSea_lifted os started H enc)
end Go.Proofs.Ytghpkjllcapbpaa
