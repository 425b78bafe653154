/- Ported by name: TokS. -/
import Derived.Test.YtipmkjfbdflneaaDoorpTokB
namespace Go.Proofs.YtipmkjfbdflneaaDoor.AM
open Go Go.Proofs
set_option maxRecDepth 100000
theorem dg_of {y : PV} (h1 : y.sh = dsh) (h2 : y.ok) (h3 : y.wf) : ∃ d : List Int, y = dv d ∧ d.length = 32 ∧ byt d := by
  obtain ⟨ns, rfl, hl, hns⟩ := arr_of h1 h2 h3
  exact ⟨ns, rfl, hl, fun x hx => wf_u8 (hns x hx)⟩
theorem tk_of {y : PV} (h1 : y.sh = tsh) (h2 : y.ok) (h3 : y.wf) : ∃ t : Tk, y = tkv t ∧ t.ok := by
  obtain ⟨ys, rfl, h, hw⟩ := st_of h1 h3
  have hok : PV.okL ys := h2
  obtain ⟨n0, y0, rfl, w0, h, hw⟩ := shL_int h hw
  obtain ⟨n1, y1, rfl, w1, h, hw⟩ := shL_int h hw
  obtain ⟨n2, y2, rfl, w2, h, hw⟩ := shL_int h hw
  obtain ⟨n3, y3, rfl, w3, h, hw⟩ := shL_int h hw
  obtain ⟨t, y4, rfl, ht, htw, h, hw⟩ := shL_cons h hw
  obtain rfl := shL_nil h
  obtain ⟨d, rfl, hd⟩ := dg_of ht hok.2.2.2.2.1 htw
  exact ⟨⟨n0, n1, n2, n3, d⟩, rfl, ⟨wf_u32 w0, wf_u32 w1, wf_u32 w2, wf_u64 w3, hd⟩⟩
end Go.Proofs.YtipmkjfbdflneaaDoor.AM
