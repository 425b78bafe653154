/- Mac: the reference's pads and sums. -/
import Derived.Test.YtipmkjfbdflneaaDoorMacB
namespace Go.Proofs.YtipmkjfbdflneaaDoor.AM
open Go Go.Proofs
set_option maxRecDepth 100000

end Go.Proofs.YtipmkjfbdflneaaDoor.AM
