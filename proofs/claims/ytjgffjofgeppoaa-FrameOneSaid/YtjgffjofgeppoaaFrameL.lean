/- FrameOne: the walk of the law. -/
import Derived.Test.YtjgffjofgeppoaaFrameK
namespace Go.Proofs.Ytjgffjofgeppoaa.AM
open Go Go.Proofs
set_option maxRecDepth 100000
theorem okF_k {f : Fr} (h : okF f) : f.k = 1 ∨ f.k = 2 := by
  rcases h with h | h
  · exact .inl h.1
  · exact .inr h.1
theorem bytesF_0 {f : Fr} (h : okF f) : (bytesF f).getD 0 0 = f.k := by
  rcases okF_k h with k | k
  · rw [show bytesF f = bytesR f from by unfold bytesF; rw [if_neg (by omega)], k]
    rfl
  · rw [show bytesF f = bytesC f.cm from by unfold bytesF; rw [if_pos k], k]
    rfl
theorem write_okF {f : Fr} (h : okF f) : writeF f = bytesF f := by unfold writeF; rw [if_pos h]
theorem write_noF {f : Fr} (h : ¬ okF f) : writeF f = [] := by unfold writeF; rw [if_neg h]
theorem bytesF_pos {f : Fr} (hf : f.ok) : 59 ≤ (bytesF f).length := by
  rw [bytesF_len hf]
  split <;> decide
set_option maxHeartbeats 8000000 in
theorem f18_ok (f : Fr) (b : List Int) (hf : f.ok) (hb : byt b) : Fn Try.prog X.G 18 [.p (frv f), bvs b] (.p (.b true)) := by
  refine Fn.intro (I := []) hX hm 0 Try.func18 rfl rfl (by kernel_rfl) rfl ?_
  conv => whnf
  refine iteC (fun h => ?_) (fun h => ?_)
  · conv => whnf
    refine ⟨_, f64_ok, ?_⟩
    conv => whnf
    refine iteT rfl ?_
    rfl
  have h := of_decide_eq_false h
  rw [List.length_map] at h
  have c1 := f52_ok f hf
  have c2 := f59_ok f hf
  have hse : (!PV.same (frv f) (frv f)) = false := by rw [same_frT]; rfl
  have hke : (f.k != f.k) = false := by simp
  obtain ⟨t, e, ht, hto, hte⟩ := parse_is hb
  have c4 := f62_ok b hb
  rw [ht] at c4
  dsimp only at c4
  have c5 := f52_ok t hto
  have c6 := f59_ok t hto
  have c7 := f30_ok b b (by omega)
  rw [decide_eq_true rfl] at c7
  have hkt : (t.k == t.k) = true := by simp
  have key : okF f ∨ ¬ okF f := Decidable.em _
  have kt : (e = 0 ∧ okF t ∧ b = bytesF t ∧ t.k = 1) ∨ (e = 0 ∧ okF t ∧ b = bytesF t ∧ t.k = 2) ∨ (e = 12 ∧ t = f00) := by
    rcases hte with ⟨h1, h2, h3⟩ | h
    · rcases okF_k h2 with k | k
      · exact .inl ⟨h1, h2, h3, k⟩
      · exact .inr (.inl ⟨h1, h2, h3, k⟩)
    · exact .inr (.inr h)
  rcases key with k1 | k1
  all_goals rcases kt with ⟨rfl, k2, k3, k4⟩ | ⟨rfl, k2, k3, k4⟩ | ⟨rfl, rfl⟩
  all_goals try
    rw [write_noF k1, ← cf_8 k1] at c1
    rw [← cf_8 k1] at c2
  all_goals try
    rw [write_okF k1, ← cf_0 k1] at c1
    rw [← cf_0 k1] at c2
    have c3 := f62_ok (bytesF f) (bytesF_byt hf k1)
    rw [parse_bytesF hf k1] at c3
    dsimp only at c3
    have hl := bytesF_pos hf
    have g0 := get0 (b := bytesF f) (by omega)
    have n0 := nth0 (b := bytesF f) (by omega)
    have m0 : (bv (bytesF f)).get?Internal (Int.toNat 0) = some (.i .u8 ((bytesF f).getD 0 0)) := n0
    rw [bytesF_0 k1] at g0 n0 m0
    have hle : (((bv (bytesF f)).length : Int) == 0) = false := beq_eq_false_iff_ne.2 (by rw [List.length_map]; omega)
    generalize bytesF f = B at *
  all_goals try
    have hl2 := bytesF_pos hto
    rw [← k3] at hl2
    have g1 := get0 (b := b) (by omega)
    have n1 := nth0 (b := b) (by omega)
    have m1 : (bv b).get?Internal (Int.toNat 0) = some (.i .u8 (b.getD 0 0)) := n1
    have hb0 := bytesF_0 k2
    rw [← k3] at hb0
    rw [hb0] at g1 n1 m1
    have hlb : (((bv b).length : Int) == 0) = false := beq_eq_false_iff_ne.2 (by rw [List.length_map]; omega)
    rw [write_okF k2, ← k3, ← cf_0 k2] at c5
    rw [← cf_0 k2] at c6
    have hlen := bytesF_len hto
    rw [← k3] at hlen
  all_goals try
    have q1 : (t.k == 1) = true := by rw [k4]; rfl
    rw [if_neg (by omega)] at hlen
    have q2 : (((bv b).length : Int) == 59) = true := by rw [List.length_map, hlen]; rfl
  all_goals try
    have q1 : (t.k == 1) = false := by rw [k4]; rfl
    have q3 : (t.k == 2) = true := by rw [k4]; rfl
    rw [if_pos (by omega)] at hlen
    have q2 : (((bv b).length : Int) == 88) = true := by rw [List.length_map, hlen]; rfl
  all_goals
    conv => whnf
    iterate 6
      repeat (first
        | (refine iteT rfl ?_; conv => whnf)
        | (refine iteF rfl ?_; conv => whnf)
        | (refine iteF hse ?_; conv => whnf)
        | (refine iteF hke ?_; conv => whnf)
        | (refine iteT hkt ?_; conv => whnf)
        | (refine iteF hle ?_; conv => whnf)
        | (refine iteF hlb ?_; conv => whnf)
        | (refine iteT q1 ?_; conv => whnf)
        | (refine iteF q1 ?_; conv => whnf)
        | (refine iteT q2 ?_; conv => whnf)
        | (refine iteT q3 ?_; conv => whnf)
        | (refine ⟨_, c1, ?_⟩; conv => whnf)
        | (refine ⟨_, c2, ?_⟩; conv => whnf)
        | (refine ⟨_, c3, ?_⟩; conv => whnf)
        | (refine ⟨_, c4, ?_⟩; conv => whnf)
        | (refine ⟨_, c5, ?_⟩; conv => whnf)
        | (refine ⟨_, c6, ?_⟩; conv => whnf)
        | (refine ⟨_, c7, ?_⟩; conv => whnf)
        | (refine ⟨_, f64_ok, ?_⟩; conv => whnf))
      try (conv => arg 2; repeat (first | rw [g0] | rw [n0] | rw [m0] | rw [g1] | rw [n1] | rw [m1] | (whnf; arg 2)))
      try (conv => whnf)
  all_goals rfl
end Go.Proofs.Ytjgffjofgeppoaa.AM
