/- The library's sort of a slice of rows, at this program. No condition. -/
import Derived.Test.YtghpkjllcapbpaaSort
namespace Go.Proofs.Ytghpkjllcapbpaa
open Go.RowKit Go.Sort Go.Shelf

end Go.Proofs.Ytghpkjllcapbpaa
