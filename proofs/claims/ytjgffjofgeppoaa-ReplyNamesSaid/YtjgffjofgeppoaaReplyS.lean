/- Replies, as the statements hand them over, are plain data. -/
import Derived.Test.YtjgffjofgeppoaaFieldS
import Derived.Test.YtjgffjofgeppoaaReplyA
namespace Go.Proofs.Ytjgffjofgeppoaa.AM
open Go Go.Proofs
theorem arr3_of {k : IntKind} {y : PV} (h1 : y.sh = .arr 3 (.int k)) (h2 : y.ok) (h3 : y.wf) : ∃ a b c, y = .arr 3 (.int k) [.i k a, .i k b, .i k c] ∧ (Lit.int k a).wf = true ∧ (Lit.int k b).wf = true ∧ (Lit.int k c).wf = true := by
  obtain ⟨ns, rfl, hl, hns⟩ := arr_of h1 h2 h3
  match ns, hl with
  | [a, b, c], _ => exact ⟨a, b, c, rfl, hns a (by simp), hns b (by simp), hns c (by simp)⟩
theorem rp_of {y : PV} (h1 : y.sh = rsh) (h2 : y.ok) (h3 : y.wf) : ∃ r : Rp, y = rpv r ∧ r.ok := by
  obtain ⟨ys, rfl, h, hw⟩ := st_of h1 h3
  have hok : PV.okL ys := h2
  obtain ⟨n0, y0, rfl, w0, h, hw⟩ := shL_int h hw
  obtain ⟨n1, y1, rfl, w1, h, hw⟩ := shL_int h hw
  obtain ⟨t, y2, rfl, ht, htw, h, hw⟩ := shL_cons h hw
  obtain ⟨n2, y3, rfl, w2, h, hw⟩ := shL_int h hw
  obtain rfl := shL_nil h
  obtain ⟨a, b, c, rfl, ha, hb, hc⟩ := arr3_of ht hok.2.2.1 htw
  exact ⟨⟨n0, n1, a, b, c, n2⟩, rfl, ⟨wf_u8 w0, wf_u32 w1, wf_u32 ha, wf_u32 hb, wf_u32 hc, wf_u64 w2⟩⟩
end Go.Proofs.Ytjgffjofgeppoaa.AM
