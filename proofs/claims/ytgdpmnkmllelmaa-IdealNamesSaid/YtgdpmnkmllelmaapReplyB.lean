/- Ported by name: ReplyB. -/
import Derived.Test.YtgdpmnkmllelmaapReplyA
namespace Go.Proofs.Ytgdpmnkmllelmaa.AM
open Go Go.Proofs
set_option maxRecDepth 100000
abbrev z7 : Fd := numF 7 0
def rowP (r : Rp) : List Fd := [numF 2 r.c, z7, z7, z7, numF 4 r.t, numF 4 r.l0, numF 4 r.l1, numF 4 r.l2, numF 5 r.w, z7, z7, z7, z7]
def rowW (r : Rp) : List Fd := [numF 2 (IntKind.u64.wrap r.c), z7, z7, z7, numF 4 (IntKind.u64.wrap r.t), numF 4 (IntKind.u64.wrap r.l0), numF 4 (IntKind.u64.wrap r.l1), numF 4 (IntKind.u64.wrap r.l2), numF 5 r.w, z7, z7, z7, z7]
theorem rowW_eq {r : Rp} (hr : r.ok) : rowW r = rowP r := by
  have h1 := hr.c
  have h2 := hr.t
  have h3 := hr.l0
  have h4 := hr.l1
  have h5 := hr.l2
  unfold rowW rowP
  rw [wr_u64 h1.1 (by omega), wr_u64 h2.1 (by omega), wr_u64 h3.1 (by omega), wr_u64 h4.1 (by omega), wr_u64 h5.1 (by omega)]
end Go.Proofs.Ytgdpmnkmllelmaa.AM
