/- All sets of some sites in their order, as the program tells them. No condition. -/
import Derived.Test.YtghpkjllcapbpaaSortLay
import Derived.Test.YtghpkjllcapbpaaSetW
import Derived.Test.YtghpkjllcapbpaaStep
import Derived.Test.YtghpkjllcapbpaaBits
namespace Go.Proofs.Ytghpkjllcapbpaa
open Go.RowKit Go.Sort Go.Shelf

def rowsTo (n k : Nat) : List (List Int) := (List.range k).map fun c => bitsL n (c + 1)
theorem rowsTo_len (n k : Nat) : (rowsTo n k).length = k := by simp [rowsTo]
theorem rowsTo_succ (n k : Nat) : rowsTo n (k + 1) = rowsTo n k ++ [bitsL n (k + 1)] := by simp [rowsTo, List.range_succ]
theorem codesL_to (n : Nat) : codesL n = rowsTo n (2 ^ n - 1) := rfl
end Go.Proofs.Ytghpkjllcapbpaa
