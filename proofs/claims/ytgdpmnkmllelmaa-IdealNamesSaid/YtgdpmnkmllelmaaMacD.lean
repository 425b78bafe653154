/- Mac: the reference's sums. -/
import Derived.Test.YtgdpmnkmllelmaaMacC
namespace Go.Proofs.Ytgdpmnkmllelmaa.AM
open Go Go.Proofs
set_option maxRecDepth 100000

end Go.Proofs.Ytgdpmnkmllelmaa.AM
