/- ReplyOne: the walk of the law. -/
import Derived.Test.YtjgffjofgeppoaaReplyE
namespace Go.Proofs.Ytjgffjofgeppoaa.AM
open Go Go.Proofs
set_option maxRecDepth 100000
theorem good_bytes {r : Rp} (hr : r.ok) (h : okP r) : goodB (bytesP r) := ⟨bytesP_len r, by rw [rd_bytes hr]; exact h, by rw [rd_bytes hr]⟩
theorem parse_bytes {r : Rp} (hr : r.ok) (h : okP r) : parseP (bytesP r) = (r, 0) := by rw [parse_good (good_bytes hr h), rd_bytes hr]
theorem bytes_inj {r s : Rp} (hr : r.ok) (hs : s.ok) (h : bytesP r = bytesP s) : r = s := by rw [← rd_bytes hr, h, rd_bytes hs]
theorem write_ok {r : Rp} (h : okP r) : writeP r = bytesP r := by unfold writeP; rw [if_pos h]
theorem write_no {r : Rp} (h : ¬ okP r) : writeP r = [] := by unfold writeP; rw [if_neg h]
theorem writeP_byt {r : Rp} (hr : r.ok) : byt (writeP r) := by
  unfold writeP
  split
  · exact bytesP_byt hr
  · intro x hx; cases hx
set_option maxHeartbeats 2000000 in
theorem f14_ok (r s : Rp) (b : List Int) (hr : r.ok) (hs : s.ok) (hb : byt b) : Fn Try.prog X.G 14 [.p (rpv r), .p (rpv s), bvs b] (.p (.b true)) := by
  refine Fn.intro (I := []) hX hm 0 Try.func14 rfl rfl (by kernel_rfl) rfl ?_
  conv => whnf
  refine iteC (fun h => ?_) (fun h => ?_)
  · conv => whnf
    refine ⟨_, f61_ok, ?_⟩
    conv => whnf
    refine iteT rfl ?_
    rfl
  have h := of_decide_eq_false h
  rw [List.length_map] at h
  have c1 := f41_ok r hr
  have c2 := f41_ok s hs
  have c3 := f44_ok r hr
  have c4 := f50_ok (writeP r) (writeP_byt hr) (by have := writeP_len r; omega)
  have c5 := f30_ok (writeP r) (writeP s) (by have := writeP_len r; omega)
  have c6 := f50_ok b hb (by omega)
  have same : (!PV.same (rpv r) (rpv r)) = false := by rw [same_rpT]; rfl
  have tb : ∃ t e, parseP b = (t, e) ∧ t.ok ∧ (e = 0 ∧ okP t ∧ b = bytesP t ∨ e = 12) := by
    by_cases hg : goodB b
    · exact ⟨rdP b, 0, parse_good hg, rdP_ok hb hg.1, .inl ⟨rfl, hg.2.1, hg.2.2.symm⟩⟩
    · exact ⟨r0, 12, parse_bad hg, r0_ok, .inr rfl⟩
  obtain ⟨t, e, ht, hto, hte⟩ := tb
  rw [ht] at c6
  dsimp only at c6
  have c7 := f41_ok t hto
  have c8 := f30_ok (writeP t) b (by have := writeP_len t; omega)
  have c9 := f44_ok t hto
  have key : (okP r ∧ okP s ∧ r = s) ∨ (okP r ∧ okP s ∧ r ≠ s) ∨ (okP r ∧ ¬ okP s) ∨ ¬ okP r := by
    by_cases h1 : okP r <;> by_cases h2 : okP s <;> by_cases h3 : r = s <;> simp [h1, h2, h3]
  have hlr : (((bv (bytesP r)).length : Int) != 32) = false := by rw [List.length_map, bytesP_len]; rfl
  have hls : (((bv (bytesP s)).length : Int) != ((bv (bytesP r)).length : Int)) = false := by rw [List.length_map, List.length_map, bytesP_len, bytesP_len]; rfl
  have sameT : PV.same (rpv r) (rpv r) = true := same_rpT r
  rcases hte with ⟨rfl, g1, g2⟩ | rfl
  rotate_left
  all_goals rcases key with ⟨k1, k2, k3⟩ | ⟨k1, k2, k3⟩ | ⟨k1, k2⟩ | k1
  rotate_left 4
  all_goals try
    rw [write_ok g1, ← g2] at c7 c8
    rw [← chk_0 g1] at c7 c9
    rw [decide_eq_true rfl] at c8
    have hbl : b.length = 32 := by rw [g2, bytesP_len]
    have hbf : (((bv b).length : Int) == 32) = true := by rw [List.length_map, hbl]; rfl
  all_goals try
    rw [write_no k1] at c1
    rw [← chk_8 k1] at c1 c3
  all_goals try
    rw [write_ok k1] at c1 c4 c5
    rw [← chk_0 k1] at c1 c3
    rw [parse_bytes hr k1] at c4
    dsimp only at c4
  all_goals try
    rw [write_ok k2] at c2 c5
    rw [← chk_0 k2] at c2
  all_goals try
    rw [write_no k2] at c2
    rw [← chk_8 k2] at c2
  all_goals try
    subst k3
    rw [decide_eq_true rfl] at c5
  all_goals try
    have hd : decide (r = s) = false := decide_eq_false k3
    have sameF : PV.same (rpv r) (rpv s) = false := by rw [same_rp]; exact hd
    rw [decide_eq_false (fun hh => k3 (bytes_inj hr hs hh))] at c5
  all_goals
    conv => whnf
    repeat (first
      | (refine iteT rfl ?_; conv => whnf)
      | (refine iteF rfl ?_; conv => whnf)
      | (refine iteF hlr ?_; conv => whnf)
      | (refine iteF hls ?_; conv => whnf)
      | (refine iteF same ?_; conv => whnf)
      | (refine iteT sameT ?_; conv => whnf)
      | (refine iteF sameF ?_; conv => whnf)
      | (refine iteT hbf ?_; conv => whnf)
      | (refine ⟨_, c1, ?_⟩; conv => whnf)
      | (refine ⟨_, c2, ?_⟩; conv => whnf)
      | (refine ⟨_, c3, ?_⟩; conv => whnf)
      | (refine ⟨_, c4, ?_⟩; conv => whnf)
      | (refine ⟨_, c5, ?_⟩; conv => whnf)
      | (refine ⟨_, c6, ?_⟩; conv => whnf)
      | (refine ⟨_, c7, ?_⟩; conv => whnf)
      | (refine ⟨_, c8, ?_⟩; conv => whnf)
      | (refine ⟨_, c9, ?_⟩; conv => whnf)
      | (refine ⟨_, f61_ok, ?_⟩; conv => whnf))
    try rfl
  all_goals trace_state
  all_goals sorry
end Go.Proofs.Ytjgffjofgeppoaa.AM
