/- Lists of rules and of requests, as the statements hand them over, are plain data. -/
import Derived.Test.YtmngcmfcbfkimaaCostG
import Derived.Test.YtmngcmfcbfkimaaAm30
namespace Go.Proofs.Ytmngcmfcbfkimaa.AM
open Go Go.Proofs
theorem rv_of {y : PV} (h1 : y.sh = rsh) (h3 : y.wf) : ∃ r : R, y = rv r ∧ r.ok := by
  obtain ⟨ys, rfl, h, hw⟩ := st_of h1 h3
  obtain ⟨n0, y0, rfl, w0, h, hw⟩ := shL_int h hw
  obtain ⟨n1, y1, rfl, w1, h, hw⟩ := shL_int h hw
  obtain ⟨n2, y2, rfl, w2, h, hw⟩ := shL_int h hw
  obtain ⟨n3, y3, rfl, _, h, hw⟩ := shL_int h hw
  obtain ⟨n4, y4, rfl, w4, h, hw⟩ := shL_int h hw
  obtain ⟨n5, y5, rfl, w5, h, hw⟩ := shL_int h hw
  obtain rfl := shL_nil h
  exact ⟨⟨n0, n1, n2, n3, n4, n5⟩, rfl, ⟨wf_u16 w0, wf_u16 w1, wf_u32 w2, wf_u32 w4, wf_u32 w5⟩⟩
theorem rs_of {l : List PV} (h : ∀ y ∈ l, y.sh = rsh ∧ y.ok ∧ y.wf) : ∃ rs : List R, l = rs.map rv ∧ ∀ r ∈ rs, r.ok := by
  induction l with
  | nil => exact ⟨[], rfl, by simp⟩
  | cons y l ih =>
    obtain ⟨rs, rfl, hrs⟩ := ih fun z hz => h z (by simp [hz])
    obtain ⟨h1, h2, h3⟩ := h y (by simp)
    obtain ⟨r, rfl, hr⟩ := rv_of h1 h3
    exact ⟨r :: rs, rfl, by simpa [hr] using hrs⟩
theorem qv_of {y : PV} (h1 : y.sh = qsh) (h2 : y.ok) (h3 : y.wf) : ∃ q : Q, y = qv q := by
  obtain ⟨ys, rfl, h, hw⟩ := st_of h1 h3
  have hok : PV.okL ys := h2
  obtain ⟨x, y1, rfl, hx, hxw, h, hw⟩ := shL_cons h hw
  obtain ⟨n1, y2, rfl, _, h, hw⟩ := shL_int h hw
  obtain ⟨n2, y3, rfl, _, h, hw⟩ := shL_int h hw
  obtain rfl := shL_nil h
  obtain ⟨zs, rfl, g, gw⟩ := st_of hx hxw
  have gok : PV.okL zs := hok.1
  obtain ⟨a0, z0, rfl, _, g, gw⟩ := shL_int g gw
  obtain ⟨a1, z1, rfl, _, g, gw⟩ := shL_int g gw
  obtain ⟨a2, z2, rfl, _, g, gw⟩ := shL_int g gw
  obtain ⟨a3, z3, rfl, _, g, gw⟩ := shL_int g gw
  obtain ⟨t, z4, rfl, ht, htw, g, gw⟩ := shL_cons g gw
  obtain rfl := shL_nil g
  obtain ⟨ns, rfl, _, _⟩ := arr_of ht gok.2.2.2.2.1 htw
  exact ⟨⟨a0, a1, a2, a3, ns, n1, n2⟩, rfl⟩
theorem qs_of {l : List PV} (h : ∀ y ∈ l, y.sh = qsh ∧ y.ok ∧ y.wf) : ∃ qs : List Q, l = qs.map qv := by
  induction l with
  | nil => exact ⟨[], rfl⟩
  | cons y l ih =>
    obtain ⟨qs, rfl⟩ := ih fun z hz => h z (by simp [hz])
    obtain ⟨h1, h2, h3⟩ := h y (by simp)
    obtain ⟨q, rfl⟩ := qv_of h1 h2 h3
    exact ⟨q :: qs, rfl⟩
end Go.Proofs.Ytmngcmfcbfkimaa.AM
