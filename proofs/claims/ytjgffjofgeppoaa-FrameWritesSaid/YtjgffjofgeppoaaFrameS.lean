/- Commands and frames, as the statements hand them over, are plain data. -/
import Derived.Test.YtjgffjofgeppoaaFrameD
import Derived.Test.YtjgffjofgeppoaaTokS
namespace Go.Proofs.Ytjgffjofgeppoaa.AM
open Go Go.Proofs
theorem arrS_of {n : Nat} {s : Sh} {y : PV} (h1 : y.sh = .arr n s) (h2 : y.ok) (h3 : y.wf) : ∃ l, y = .arr n s l ∧ l.length = n ∧ ∀ z ∈ l, z.sh = s ∧ z.ok ∧ z.wf := by
  cases y with
  | arr n' s' l =>
    simp only [PV.sh, Sh.arr.injEq] at h1
    obtain ⟨rfl, rfl⟩ := h1
    obtain ⟨g1, g2, g3⟩ := h2
    exact ⟨l, rfl, g1, fun z hz => ⟨PV.allSh_iff.1 g3 z hz, PV.okL_iff.1 g2 z hz, PV.wfL_iff.1 h3 z hz⟩⟩
  | _ => simp [PV.sh] at h1
theorem lm_of {y : PV} (h1 : y.sh = lsh) (h3 : y.wf) : ∃ l : Lm, y = lmv l ∧ l.ok := by
  obtain ⟨ys, rfl, h, hw⟩ := st_of h1 h3
  obtain ⟨n0, y0, rfl, w0, h, hw⟩ := shL_int h hw
  obtain ⟨n1, y1, rfl, w1, h, hw⟩ := shL_int h hw
  obtain ⟨n2, y2, rfl, w2, h, hw⟩ := shL_int h hw
  obtain rfl := shL_nil h
  exact ⟨⟨n0, n1, n2⟩, rfl, ⟨wf_i64 w0, wf_i64 w1, wf_i64 w2⟩⟩
theorem cm_of {y : PV} (h1 : y.sh = csh) (h2 : y.ok) (h3 : y.wf) : ∃ c : Cm, y = cmv c ∧ c.ok := by
  obtain ⟨ys, rfl, h, hw⟩ := st_of h1 h3
  have hok : PV.okL ys := h2
  obtain ⟨n0, y0, rfl, w0, h, hw⟩ := shL_int h hw
  obtain ⟨n1, y1, rfl, w1, h, hw⟩ := shL_int h hw
  obtain ⟨n2, y2, rfl, w2, h, hw⟩ := shL_int h hw
  obtain ⟨t3, y3, rfl, ht3, hw3, h, hw⟩ := shL_cons h hw
  obtain ⟨n4, y4, rfl, w4, h, hw⟩ := shL_int h hw
  obtain ⟨n5, y5, rfl, w5, h, hw⟩ := shL_int h hw
  obtain ⟨n6, y6, rfl, w6, h, hw⟩ := shL_int h hw
  obtain ⟨t7, y7, rfl, ht7, hw7, h, hw⟩ := shL_cons h hw
  obtain rfl := shL_nil h
  obtain ⟨d, rfl, hd⟩ := dg_of ht7 hok.2.2.2.2.2.2.2.1 hw7
  obtain ⟨l, rfl, hl, hz⟩ := arrS_of ht3 hok.2.2.2.1 hw3
  match l, hl with
  | [a, b, c], _ =>
    obtain ⟨a, rfl, ha⟩ := lm_of (hz a (by simp)).1 (hz a (by simp)).2.2
    obtain ⟨b, rfl, hb⟩ := lm_of (hz b (by simp)).1 (hz b (by simp)).2.2
    obtain ⟨c, rfl, hc⟩ := lm_of (hz c (by simp)).1 (hz c (by simp)).2.2
    exact ⟨⟨n0, n1, n2, a, b, c, n4, n5, n6, d⟩, rfl, ⟨wf_u8 w0, wf_u32 w1, wf_u32 w2, ha, hb, hc, wf_u8 w4, wf_u8 w5, wf_u64 w6, hd⟩⟩
theorem fr_of {y : PV} (h1 : y.sh = frsh) (h2 : y.ok) (h3 : y.wf) : ∃ f : Fr, y = frv f ∧ f.ok := by
  obtain ⟨ys, rfl, h, hw⟩ := st_of h1 h3
  have hok : PV.okL ys := h2
  obtain ⟨n0, y0, rfl, w0, h, hw⟩ := shL_int h hw
  obtain ⟨t1, y1, rfl, ht1, hw1, h, hw⟩ := shL_cons h hw
  obtain ⟨t2, y2, rfl, ht2, hw2, h, hw⟩ := shL_cons h hw
  obtain rfl := shL_nil h
  obtain ⟨c, rfl, hc⟩ := cm_of ht2 hok.2.2.1 hw2
  have hok1 := hok.2.1
  obtain ⟨zs, rfl, h, hw⟩ := st_of ht1 hw1
  have hokz : PV.okL zs := hok1
  obtain ⟨t3, y3, rfl, ht3, hw3, h, hw⟩ := shL_cons h hw
  obtain ⟨n4, y4, rfl, w4, h, hw⟩ := shL_int h hw
  obtain ⟨n5, y5, rfl, w5, h, hw⟩ := shL_int h hw
  obtain rfl := shL_nil h
  obtain ⟨t, rfl, ht⟩ := tk_of ht3 hokz.1 hw3
  exact ⟨⟨n0, t, n4, n5, c⟩, rfl, ⟨wf_u8 w0, ht, wf_u16 w4, wf_u32 w5, hc⟩⟩
end Go.Proofs.Ytjgffjofgeppoaa.AM
