/- Sha: the library's functions that join and copy bytes; bytes compared. -/
import Derived.Test.YtgdpmnkmllelmaaShaC
namespace Go.Proofs.Ytgdpmnkmllelmaa.AM
open Go Go.Proofs
set_option maxRecDepth 100000

end Go.Proofs.Ytgdpmnkmllelmaa.AM
