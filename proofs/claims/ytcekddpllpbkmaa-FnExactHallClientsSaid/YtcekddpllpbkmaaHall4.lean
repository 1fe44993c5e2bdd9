/- HallClients: both walks; five parameters opened. No condition. -/
import Derived.Test.YtcekddpllpbkmaaHall2
import Derived.Test.YtcekddpllpbkmaaHall3
import Derived.Test.YtcekddpllpbkmaaFive
namespace Go.Proofs.Ytcekddpllpbkmaa
open Go.RowKit Go.ChangeShapes

end Go.Proofs.Ytcekddpllpbkmaa
