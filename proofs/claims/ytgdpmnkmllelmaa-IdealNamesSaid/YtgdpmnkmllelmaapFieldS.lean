/- Ported by name: FieldS. -/
import Derived.Test.YtgdpmnkmllelmaapFieldD
namespace Go.Proofs.Ytgdpmnkmllelmaa.AM
open Go Go.Proofs
set_option maxRecDepth 100000
theorem fv_of {y : PV} (h1 : y.sh = fsh) (h2 : y.ok) (h3 : y.wf) : ∃ f : Fd, y = fv f ∧ f.ok := by
  obtain ⟨ys, rfl, h, hw⟩ := st_of h1 h3
  have hok : PV.okL ys := h2
  obtain ⟨n0, y0, rfl, w0, h, hw⟩ := shL_int h hw
  obtain ⟨n1, y1, rfl, w1, h, hw⟩ := shL_int h hw
  obtain ⟨t, y2, rfl, ht, htw, h, hw⟩ := shL_cons h hw
  obtain rfl := shL_nil h
  obtain ⟨ns, rfl, hl, hns⟩ := arr_of ht hok.2.2.1 htw
  exact ⟨⟨n0, n1, ns⟩, rfl, ⟨wf_u8 w0, wf_u64 w1, ⟨hl, fun x hx => wf_u8 (hns x hx)⟩⟩⟩
theorem fs_of {l : List PV} (h : ∀ y ∈ l, y.sh = fsh ∧ y.ok ∧ y.wf) : ∃ fs : List Fd, l = fs.map fv ∧ ∀ f ∈ fs, f.ok := by
  induction l with
  | nil => exact ⟨[], rfl, by simp⟩
  | cons y l ih =>
    obtain ⟨fs, rfl, hfs⟩ := ih fun z hz => h z (by simp [hz])
    obtain ⟨h1, h2, h3⟩ := h y (by simp)
    obtain ⟨f, rfl, hf⟩ := fv_of h1 h2 h3
    exact ⟨f :: fs, rfl, by simpa [hf] using hfs⟩
end Go.Proofs.Ytgdpmnkmllelmaa.AM
