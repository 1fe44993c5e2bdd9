/- FnExactIsSubmodular: for every number and every list the program's IsSubmodular and the reference's agree. No condition. -/
import Derived.Test.YtiihkekicfpnoaaFrame
import Derived.Test.YtiihkekicfpnoaaSub
namespace Go.Proofs.Ytiihkekicfpnoaa
open Go.ChangeShapes Go.WideShapes Go.ChangeAt Go.RowKit

theorem sub_law (n : Int) (A : Option Addr) (xs : List Int) (m c : Nat) (w : World) (hx : IntsAt w A xs) (hnx : xs.length = m) :
    Calls Try.prog 4 #[.int .i64 n, .slice A m c] w fun e w' => e = .returned (.bool true) ∧ Kp w w' := by
  have Hx := Lib.hid hnx; clear hnx
  by_cases hm : 1048576 < m
  · go_enter Try.func4, Try.ntmps4
    go_wp2
    go_ret
    exact ⟨rfl, Kp.refl _⟩
  · have b1 : ((isTab n xs && subB xs) != (isTab n xs && subB xs)) = false := by simp
    have b2 : (isTab n xs != isTab n xs) = false := by simp
    have hl : xs.length ≤ 9223372036854775807 := hx.1
    go_enter Try.func4, Try.ntmps4
    go_wp2_with fail
    refine (toIntS_any A xs m c w hx Hx.out (by omega)).mono ?_
    rintro e w1 ⟨g1, rfl, hg1, hr1, hk1⟩
    go_wp2_with fail
    refine (specSub_any _ xs m m n w1 (hr1.ints hl) Hx.out).mono ?_
    rintro e w2 ⟨rfl, hk2⟩
    go_wp2_with fail
    refine (toIntS_any A xs m c w2 ((hx.kp hk1).kp hk2) Hx.out (by omega)).mono ?_
    rintro e w3 ⟨g3, rfl, hg3, hr3, hk3⟩
    go_wp2_with fail
    refine (implSub_any _ xs m m n w3 (hr3.ints hl) Hx.out).mono ?_
    rintro e w4 ⟨rfl, hk4⟩
    go_wp2_with fail
    refine (toIntS_any A xs m c w4 ((((hx.kp hk1).kp hk2).kp hk3).kp hk4) Hx.out (by omega)).mono ?_
    rintro e w5 ⟨g5, rfl, hg5, hr5, hk5⟩
    go_wp2_with fail
    refine (eqIntS_any _ _ xs xs m m m m w5 (((hr3.kp hk4).kp hk5).ints hl) (hr5.ints hl) Hx.out Hx.out).mono ?_
    rintro e w6 ⟨rfl, hk6⟩
    simp only [decide_true]
    go_wp2_with fail
    go_ret
    exact ⟨rfl, ((((hk1.trans hk2).trans hk3).trans hk4).trans hk5).trans hk6⟩

set_option maxRecDepth 100000 in
theorem sub_lifted (os : Os) (started : os.Started) (H : Type) (enc : TypeId × Value → H) :
    ReturnsInHanded {} Try.checked os 4 .any (Rows.fnExactIsSubmodularSpec.pre6 enc Try.prog Try.f4 Rows.fnExactIsSubmodularRow.domain false) (Rows.fnExactIsSubmodularSpec.post enc Try.prog Try.f4 false true false false) := by
  refine returnsInHanded_of_change (C := Try.checked) ownKnobs started (by kernel_rfl) Try.func4
    (ChangeSpec.witness6 (enc := enc) (C := Try.checked) false ⟨#[], #[.int .i64 0, .slice none 0 0], []⟩ 8 (by kernel_rfl) (by kernel_rfl) (by kernel_rfl) (by kernel_rfl)) ?_
  intro W base args ds gs before hval hW _ _
  obtain ⟨p, q, hA0, hV, hbf, hz, hn⟩ := id hW
  have hA : DataW.TrodAll enc Try.prog W 0 (fun _ => true) true Try.f4.params.toList args.toList ds p := hA0
  have hval' : ∀ (j : Nat) t v, Try.f4.params[j]? = some t → args[j]? = some v → Value.okWide Try.prog W .any base t v := hval
  rw [Try.params4] at hA hval'
  obtain ⟨v0, v1, d0, d1, p0, p1, rfl, rfl, rfl, h0, h1⟩ := trodAll_two hA
  obtain ⟨a0, rfl, rfl, rfl, w0⟩ := open_int Try.underlying3 (hval' 0 _ v0 rfl rfl) h0
  obtain ⟨A, xs, c, rfl, hx⟩ := open_intsAt Try.underlying22 Try.underlying3 cellsInt (hval' 1 _ v1 rfl rfl) h1
  refine (sub_law a0 A xs _ c W hx rfl).mono fun e W' ⟨he, hk⟩ => ⟨_, he, ?_⟩
  exact post_of_kp laidOut rfl (by kernel_rfl) rfl Try.underlying4 (fun ds' hd => match ds', hd with | [_, _], _ => rfl) rfl hW hk

theorem FnExactIsSubmodular_holds : Rows.FnExactIsSubmodularSaid :=
  OpenClaim.holds_of_wide 4 Try.f4 rfl rfl rfl rfl rfl rfl rfl ⟨rfl, rfl, rfl, rfl, rfl⟩ rfl rfl rfl rfl rfl (by kernel_rfl) Try.func4 (by kernel_rfl)
    (of_decide_eq_true (by kernel_rfl)) (by unfold Func.isWrapper; first | (rw [if_pos (by decide +kernel)]; kernel_rfl) | (rw [if_neg (by decide +kernel)]; exact ⟨rfl, rfl⟩))
    (fun os started H enc _ => sub_lifted os started H enc)
end Go.Proofs.Ytiihkekicfpnoaa
