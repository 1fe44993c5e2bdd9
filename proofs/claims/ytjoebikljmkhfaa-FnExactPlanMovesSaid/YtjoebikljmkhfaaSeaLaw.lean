/- Words for the laws on seasons. No condition. -/
import Derived.Test.YtjoebikljmkhfaaSea4
import Derived.Test.YtjoebikljmkhfaaGridLaw
import Derived.Test.YtjoebikljmkhfaaKeep
import Derived.Test.YtjoebikljmkhfaaLawU
import Derived.Deep.DeepCutAuto
namespace Go.Proofs.Ytjoebikljmkhfaa
open Go.RowKit

theorem SeaAt.agg {w : World} {v : Value} {S : Sea} (h : SeaAt w v S) : ∃ A a B b C c D d, v = .agg #[.slice A S.op.length a, .slice B S.cl.length b, .slice C S.ke.length c, .slice D S.ro.length d] := by
  obtain ⟨A, a, B, b, C, c, D, d, e, _⟩ := h
  exact ⟨A, a, B, b, C, c, D, d, e⟩
end Go.Proofs.Ytjoebikljmkhfaa
