/- Ported by name: FieldD. -/
import Derived.Test.YtgdpmnkmllelmaapFieldC
namespace Go.Proofs.Ytgdpmnkmllelmaa.AM
open Go Go.Proofs
set_option maxRecDepth 100000
theorem rowL_len {l : List Fd} (hl : ∀ f ∈ l, f.ok) : (rowL l).length ≤ 1280 := by
  unfold rowL
  split
  · simp
  · rename_i h
    have := rowE_len (l := l) (by simpa using h)
    have := flatF_len fun f hf => (hl f hf).d.1
    omega
end Go.Proofs.Ytgdpmnkmllelmaa.AM
