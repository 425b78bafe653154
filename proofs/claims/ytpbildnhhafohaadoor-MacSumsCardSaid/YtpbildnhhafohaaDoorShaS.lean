/- Words, as the statements hand them over, are plain data. -/
import Derived.Test.YtpbildnhhafohaaDoorShaF
namespace Go.Proofs.YtpbildnhhafohaaDoor.AM
open Go Go.Proofs
theorem v8_of {y : PV} (h1 : y.sh = .arr 8 (.int .u32)) (h2 : y.ok) (h3 : y.wf) : ∃ v : V8, y = hw v := by
  obtain ⟨ns, rfl, hl, hns⟩ := arr_of h1 h2 h3
  match ns, hl with
  | [a, b, c, d, e, f, g, z], _ => exact ⟨⟨a, b, c, d, e, f, g, z⟩, rfl⟩
end Go.Proofs.YtpbildnhhafohaaDoor.AM
