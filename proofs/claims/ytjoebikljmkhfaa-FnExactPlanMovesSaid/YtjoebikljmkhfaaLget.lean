/- A number of a list, 0 behind its end. No condition. -/
import Derived.Test.YtjoebikljmkhfaaMem
namespace Go.Proofs.Ytjoebikljmkhfaa
def lget (xs : List Int) (k : Nat) : Int := xs.getD k 0
theorem lget_at {xs : List Int} {k : Nat} (h : k < xs.length) : lget xs k = xs[k] := by simp [lget, List.getD, h]
end Go.Proofs.Ytjoebikljmkhfaa
