/- FnVotes: a site is unbeaten exactly if no other one has more votes against it, and in the field of a tree the median is. No condition. -/
import Derived.Test.YtcccmndkolmboaaQAu
namespace Go.Proofs.Ytcccmndkolmboaa
open Go.ChangeShapes Go.WideShapes Go.ChangeAt Go.RowKit Go.Sort

set_option maxRecDepth 100000 in
theorem vot_lifted (os : Os) (started : os.Started) (H : Type) (enc : TypeId × Value → H) :
    ReturnsInHanded {} Try.checked os 3 .any (Rows.fnVotesSpec.pre6 enc Try.prog Try.f3 Rows.fnVotesRow.domain false) (Rows.fnVotesSpec.post enc Try.prog Try.f3 false true false false) := by
  refine returnsInHanded_of_change (C := Try.checked) ownKnobs started (by kernel_rfl) Try.func3
    (ChangeSpec.witness6 (enc := enc) (C := Try.checked) false ⟨#[], #[.slice none 0 0], []⟩ 8 (by kernel_rfl) (by kernel_rfl) (by kernel_rfl) (by kernel_rfl)) ?_
  intro W base args ds gs before hval hW _ _
  obtain ⟨p, q, hA0, hV, hbf, hz, hn⟩ := id hW
  have hA : DataW.TrodAll enc Try.prog W 0 (fun _ => true) true Try.f3.params.toList args.toList ds p := hA0
  have hval' : ∀ (j : Nat) t v, Try.f3.params[j]? = some t → args[j]? = some v → Value.okWide Try.prog W .any base t v := hval
  rw [Try.params3] at hA hval'
  obtain ⟨v0, d0, rfl, rfl, h0⟩ := trodAll_one hA
  obtain ⟨A0, n0, c0, rfl, hx0, hc0⟩ := open_bytesAtC Try.underlying22 Try.underlying5 (by kernel_rfl) (hval' 0 _ v0 rfl rfl) h0
  refine (vot_law A0 n0 c0 W hx0 hc0).mono fun e W' ⟨he, hk⟩ => ⟨_, he, ?_⟩
  exact post_of_kp laidOut rfl (by kernel_rfl) rfl Try.underlying4 (fun ds' hd => match ds', hd with | [_], _ => rfl) rfl hW hk

theorem FnVotes_holds : Rows.FnVotesSaid :=
  OpenClaim.holds_of_wide 3 Try.f3 rfl rfl rfl rfl rfl rfl rfl ⟨rfl, rfl, rfl, rfl, rfl⟩ rfl rfl rfl rfl rfl (by kernel_rfl) Try.func3 (by kernel_rfl)
    (of_decide_eq_true (by kernel_rfl)) (by unfold Func.isWrapper; first | (rw [if_pos (by decide +kernel)]; kernel_rfl) | (rw [if_neg (by decide +kernel)]; exact ⟨rfl, rfl⟩))
    (fun os started H enc _ => vot_lifted os started H enc)
end Go.Proofs.Ytcccmndkolmboaa
