/- FnExactVotesOf: for every input the program and the reference agree. No condition. -/
import Derived.Test.YtiihkekicfpnoaaFrame2
import Derived.Deep.RegionWith
import Derived.Test.YtiihkekicfpnoaaVotes
namespace Go.Proofs.Ytiihkekicfpnoaa
open Go.ChangeShapes Go.WideShapes Go.ChangeAt Go.RowKit

theorem left_small {n : Nat} (h : n ≤ 1048576) : left1 n 1048576 = 1048576 - n := by unfold left1; rw [if_pos (by omega)]
theorem left_big {n : Nat} (h : ¬ n ≤ 1048576) : left1 n 1048576 = -1 := by unfold left1; rw [if_neg (by omega)]
theorem OwnFld.small {w : World} {base : Nat} {v : Value} {F : Fld} (h : OwnFld w base v F) (hb : F.bulk ≤ 1048576) : FldAt w v F :=
  h.fld (by unfold Fld.bulk at hb; omega) (by unfold Fld.bulk at hb; omega) (fun r hr => by
    obtain ⟨k, hk, rfl⟩ := List.getElem_of_mem hr
    have := rowSum_mem hk
    unfold Fld.bulk at hb; omega)

theorem OwnFld.agg {w : World} {base : Nat} {v : Value} {F : Fld} (h : OwnFld w base v F) : ∃ A c B d, v = .agg #[.slice A F.op.length c, .slice B F.di.length d] := by
  obtain ⟨a, b, _, rfl, _, ha, _, hb⟩ := h
  obtain ⟨A, c, rfl⟩ := ha.shape
  obtain ⟨B, d, rfl⟩ := hb.shape
  exact ⟨A, c, B, d, rfl⟩
set_option maxHeartbeats 1000000 in
theorem votes_law (f : Value) (F : Fld) (a b : Int) (w : World) (hf : FldAt w f F) (_ : (Lit.int .i64 a).wf = true) (_ : (Lit.int .i64 b).wf = true) :
    Calls Try.prog 5 #[f, .int .i64 a, .int .i64 b] w fun e w' => e = .returned (.bool true) ∧ Kp w w' := by
  obtain ⟨A, c, B, d, rfl, hA, hB⟩ := id hf
  have hk0 : Kp w (w.alloc (.cells #[.slice A F.op.length c, .slice B F.di.length d] 30)) := (Kp.refl w).alloc _
  obtain ⟨d0, d1⟩ := box2 w (.slice A F.op.length c) (.slice B F.di.length d) 30
  by_cases hb : F.bulk ≤ 1048576
  · have hs := Lib.hid (left_small hb)
    have n1 : ((votes1 F a b : Int) != (votes1 F a b : Int)) = false := by simp
    have n2 : ((votes2 F a b : Int) != (votes2 F a b : Int)) = false := by simp
    have n3 : (votesOk F a b != votesOk F a b) = false := by simp
    have hfk := hf.kp hk0
    go_enter Try.func5, Try.ntmps5
    go_wp2_with fail
    have CC := Lib.hid (szField_any _ F _ hfk)
    with_reducible refine Calls.mono CC.out ?_
    rintro e w1 ⟨rfl, hk1⟩
    have e0 := hk1.get d0; have e1 := hk1.get d1
    replace hfk := hfk.kp hk1
    clear CC d0 d1
    rw [hs.out]
    go_wp2_with fail
    have CC := Lib.hid (toField_any _ F _ hfk hb)
    with_reducible refine Calls.mono CC.out ?_
    rintro e w2 ⟨v1, rfl, hv1, hk2⟩
    have f0 := hk2.get e0; have f1 := hk2.get e1
    replace hfk := hfk.kp hk2
    clear CC e0 e1
    go_wp2_with fail
    have CC := Lib.hid (specVotes_any _ F a b _ (hv1.small hb))
    with_reducible refine Calls.mono CC.out ?_
    rintro e w3 ⟨rfl, hk3⟩
    have e0 := hk3.get f0; have e1 := hk3.get f1
    replace hfk := hfk.kp hk3
    clear CC f0 f1
    go_wp2_with fail
    have CC := Lib.hid (toField_any _ F _ hfk hb)
    with_reducible refine Calls.mono CC.out ?_
    rintro e w4 ⟨v2, rfl, hv2, hk4⟩
    have f0 := hk4.get e0; have f1 := hk4.get e1
    replace hfk := hfk.kp hk4
    clear CC e0 e1
    obtain ⟨A2, c2, B2, d2, hv2e⟩ := hv2.agg
    subst hv2e
    have hx0 := hv2.small hb
    have hk5 := (Kp.refl w4).alloc (.cells #[.slice A2 F.op.length c2, .slice B2 F.di.length d2] 34)
    obtain ⟨x0, x1⟩ := box2 w4 (.slice A2 F.op.length c2) (.slice B2 F.di.length d2) 34
    have e0 := hk5.get f0; have e1 := hk5.get f1
    replace hfk := hfk.kp hk5
    replace hx0 := hx0.kp hk5
    clear f0 f1
    go_wp2_with fail
    have CC := Lib.hid (implVotes_any _ F a b _ hx0)
    with_reducible refine Calls.mono CC.out ?_
    rintro e w6 ⟨rfl, hk6⟩
    have f0 := hk6.get e0; have f1 := hk6.get e1
    have y0 := hk6.get x0; have y1 := hk6.get x1
    replace hfk := hfk.kp hk6
    replace hx0 := hx0.kp hk6
    clear CC e0 e1 x0 x1
    go_wp2_with fail
    have hdk := (Kp.refl w6).drew
    have CC := Lib.hid (toField_any _ F _ (hfk.kp hdk) hb)
    have Hx := Lib.hid hx0
    clear hx0 hfk
    go_region_with (first
      | (go_at_call 18; with_reducible refine Calls.mono CC.out ?_; rintro e w7 ⟨v3, rfl, hv3, hk7⟩; obtain ⟨A3, c3, B3, d3, hv3e⟩ := hv3.agg; subst hv3e; have z0 := hk7.get (hdk.get y0); have z1 := hk7.get (hdk.get y1))
      | (go_at_call 20; with_reducible refine Calls.mono (eqField_any _ _ F _ ((Hx.out.kp hdk).kp hk7) (hv3.small hb)) ?_; rintro e w8 ⟨rfl, hk8⟩))
    all_goals go_wp2_with fail
    all_goals go_ret
    all_goals exact ⟨rfl, (((((((hk0.trans hk1).trans hk2).trans hk3).trans hk4).trans hk5).trans (hk6.trans hdk)).trans hk7).trans hk8⟩
  · have hs := Lib.hid (left_big hb)
    go_enter Try.func5, Try.ntmps5
    go_wp2_with fail
    have CC := Lib.hid (szField_any _ F _ (hf.kp hk0))
    with_reducible refine Calls.mono CC.out ?_
    rintro e w1 ⟨rfl, hk1⟩
    rw [hs.out]
    go_wp2_with fail
    go_ret
    exact ⟨rfl, hk0.trans hk1⟩

set_option maxRecDepth 100000 in
theorem votes_lifted (os : Os) (started : os.Started) (H : Type) (enc : TypeId × Value → H) :
    ReturnsInHanded {} Try.checked os 5 .any (Rows.fnExactVotesOfSpec.pre6 enc Try.prog Try.f5 Rows.fnExactVotesOfRow.domain false) (Rows.fnExactVotesOfSpec.post enc Try.prog Try.f5 false true false false) := by
  refine returnsInHanded_of_change (C := Try.checked) ownKnobs started (by kernel_rfl) Try.func5
    (ChangeSpec.witness6 (enc := enc) (C := Try.checked) false ⟨#[], #[.agg #[.slice none 0 0, .slice none 0 0], .int .i64 0, .int .i64 0], []⟩ 8 (by kernel_rfl) (by kernel_rfl) (by kernel_rfl) (by kernel_rfl)) ?_
  intro W base args ds gs before hval hW _ _
  obtain ⟨p, q, hA0, hV, hbf, hz, hn⟩ := id hW
  have hA : DataW.TrodAll enc Try.prog W 0 (fun _ => true) true Try.f5.params.toList args.toList ds p := hA0
  have hval' : ∀ (j : Nat) t v, Try.f5.params[j]? = some t → args[j]? = some v → Value.okWide Try.prog W .any base t v := hval
  rw [Try.params5] at hA hval'
  obtain ⟨v0, v1, v2, d0, d1, d2, p0, p1, p2, rfl, rfl, rfl, h0, h1, h2⟩ := trodAll_three hA
  obtain ⟨F0, hf0⟩ := open_fldAt (hval' 0 _ v0 rfl rfl) h0
  obtain ⟨a1, rfl, rfl, rfl, w1⟩ := open_int Try.underlying3 (hval' 1 _ v1 rfl rfl) h1
  obtain ⟨a2, rfl, rfl, rfl, w2⟩ := open_int Try.underlying3 (hval' 2 _ v2 rfl rfl) h2
  refine (votes_law _ F0 a1 a2 W hf0 w1 w2).mono fun e W' ⟨he, hk⟩ => ⟨_, he, ?_⟩
  exact post_of_kp laidOut rfl (by kernel_rfl) rfl Try.underlying4 (fun ds' hd => match ds', hd with | [_, _, _], _ => rfl) rfl hW hk

theorem FnExactVotesOf_holds : Rows.FnExactVotesOfSaid :=
  OpenClaim.holds_of_wide 5 Try.f5 rfl rfl rfl rfl rfl rfl rfl ⟨rfl, rfl, rfl, rfl, rfl⟩ rfl rfl rfl rfl rfl (by kernel_rfl) Try.func5 (by kernel_rfl)
    (of_decide_eq_true (by kernel_rfl)) (by unfold Func.isWrapper; first | (rw [if_pos (by decide +kernel)]; kernel_rfl) | (rw [if_neg (by decide +kernel)]; exact ⟨rfl, rfl⟩))
    (fun os started H enc _ => votes_lifted os started H enc)
end Go.Proofs.Ytiihkekicfpnoaa
