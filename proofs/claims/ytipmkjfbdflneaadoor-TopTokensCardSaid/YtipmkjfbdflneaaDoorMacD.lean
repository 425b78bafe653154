/- Mac: the reference's sums. -/
import Derived.Test.YtipmkjfbdflneaaDoorMacC
namespace Go.Proofs.YtipmkjfbdflneaaDoor.AM
open Go Go.Proofs
set_option maxRecDepth 100000

end Go.Proofs.YtipmkjfbdflneaaDoor.AM
