/- LeastFlowPrices: the program. No condition. -/
import Derived.Test.YtcnceocgdghciaaQBh
namespace Go.Proofs.Ytcnceocgdghciaa
open Go.RowKit Go.Sort

theorem mapTo_succ' (f : Nat → Int) (n : Nat) : mapTo f n ++ [f n] = mapTo f (n + 1) := by unfold mapTo; rw [List.range_succ, List.map_append]; rfl
theorem dF_dAt (F : Fld) (j a : Nat) : dF F j a = dAt F j (a : Int) := rfl
end Go.Proofs.Ytcnceocgdghciaa
