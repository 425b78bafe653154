/- Mac: the reference's pads and sums. -/
import Derived.Test.YtgdpmnkmllelmaaMacB
namespace Go.Proofs.Ytgdpmnkmllelmaa.AM
open Go Go.Proofs
set_option maxRecDepth 100000

end Go.Proofs.Ytgdpmnkmllelmaa.AM
