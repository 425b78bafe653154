/- FrameBefore: the walk of the law. -/
import Derived.Test.YtjgffjofgeppoaaFrameK
namespace Go.Proofs.Ytjgffjofgeppoaa.AM
open Go Go.Proofs
set_option maxRecDepth 100000
theorem okC_tag {c : Cm} (h : okC c) (d : List Int) : okC ⟨c.op, c.t, c.u, c.l0, c.l1, c.l2, c.us, c.en, c.x, d⟩ := h
set_option maxHeartbeats 8000000 in
theorem f19_ok (c d : Cm) (g : List Int) (hc : c.ok) (hd : d.ok) (hg : g.length = 32 ∧ byt g) : Fn Try.prog X.G 19 [.p (cmv c), .p (cmv d), .p (dv g)] (.p (.b true)) := by
  refine Fn.intro (I := []) hX hm 0 Try.func19 rfl rfl (by kernel_rfl) rfl ?_
  have c1 : Fn Try.prog X.G 65 [.p (cmv c)] (.p (.b (decide (okC c)))) := f65_ok c hc
  have c2 : Fn Try.prog X.G 65 [.p (cmv d)] (.p (.b (decide (okC d)))) := f65_ok d hd
  by_cases k1 : okC c
  rotate_left
  · rw [decide_eq_false k1] at c1
    conv => whnf
    refine ⟨_, c1, ?_⟩
    conv => whnf
    repeat (first
      | (refine iteT rfl ?_; conv => whnf)
      | (refine iteF rfl ?_; conv => whnf)
      | (refine ⟨_, f64_ok, ?_⟩; conv => whnf))
    rfl
  by_cases k2 : okC d
  rotate_left
  · rw [decide_eq_true k1] at c1
    rw [decide_eq_false k2] at c2
    conv => whnf
    repeat (first
      | (refine iteT rfl ?_; conv => whnf)
      | (refine iteF rfl ?_; conv => whnf)
      | (refine ⟨_, c1, ?_⟩; conv => whnf)
      | (refine ⟨_, c2, ?_⟩; conv => whnf)
      | (refine ⟨_, f64_ok, ?_⟩; conv => whnf))
    rfl
  rw [decide_eq_true k1] at c1
  rw [decide_eq_true k2] at c2
  have c3 := f56_ok c hc
  have c4 := f56_ok d hd
  have c5 := f66_ok c
  have c6 := f52_ok (cmF c) (cmF_ok hc)
  have ko : okF (cmF c) := (okF_C c).2 k1
  rw [show writeF (cmF c) = bytesC c from by unfold writeF; rw [if_pos ko]; rfl, ← cf_0 ko] at c6
  have hc' : (⟨c.op, c.t, c.u, c.l0, c.l1, c.l2, c.us, c.en, c.x, g⟩ : Cm).ok := ⟨hc.op, hc.t, hc.u, hc.l0, hc.l1, hc.l2, hc.us, hc.en, hc.x, hg⟩
  have hd' : (⟨d.op, d.t, d.u, d.l0, d.l1, d.l2, d.us, d.en, d.x, g⟩ : Cm).ok := ⟨hd.op, hd.t, hd.u, hd.l0, hd.l1, hd.l2, hd.us, hd.en, hd.x, hg⟩
  have c7 := f56_ok _ hc'
  have e0 : ∀ x : Cm, okC x → befC x = msgC x ∧ befE x = 0 := fun x hx => by
    unfold befC befE
    rw [if_pos hx, if_pos hx]
    exact ⟨rfl, rfl⟩
  rw [(e0 c k1).1, (e0 c k1).2] at c3
  rw [(e0 d k2).1, (e0 d k2).2] at c4
  rw [(e0 _ (okC_tag k1 g)).1, (e0 _ (okC_tag k1 g)).2] at c7
  have c7 : Fn Try.prog X.G 56 [.p (cmv ⟨c.op, c.t, c.u, c.l0, c.l1, c.l2, c.us, c.en, c.x, g⟩)] (.tup [bvs (msgC c), .p (.i .i64 0)]) := c7
  have c8 := f30_ok (bytesC c) (msgC c ++ c.d) (by rw [bytesC_len hc]; decide)
  rw [decide_eq_true (show bytesC c = msgC c ++ c.d from rfl)] at c8
  have e8 : List.replicate 0 (PV.i .u8 0) ++ bv (msgC c) ++ List.take 32 (List.drop 0 (bv c.d)) = bv (msgC c ++ c.d) := by
    rw [List.drop_zero, List.take_of_length_le (by rw [List.length_map, hc.d.1]; decide), bv_app]
    rfl
  unfold bvs at c8
  rw [← e8] at c8
  clear e8
  have c9 := f30_ok (msgC c) (msgC c) (by rw [msgC_len]; decide)
  rw [decide_eq_true rfl] at c9
  have c10 := f30_ok (msgC c) (msgC d) (by rw [msgC_len]; decide)
  have sm := same_cm ⟨c.op, c.t, c.u, c.l0, c.l1, c.l2, c.us, c.en, c.x, g⟩ ⟨d.op, d.t, d.u, d.l0, d.l1, d.l2, d.us, d.en, d.x, g⟩
  have hh : (⟨c.op, c.t, c.u, c.l0, c.l1, c.l2, c.us, c.en, c.x, g⟩ : Cm) = ⟨d.op, d.t, d.u, d.l0, d.l1, d.l2, d.us, d.en, d.x, g⟩ ↔ msgC c = msgC d := by
    constructor
    · intro h
      have e := congrArg msgC h
      exact e
    · intro h
      have r1 := rd_bytesC hc' (okC_tag k1 g)
      have r2 := rd_bytesC hd' (okC_tag k2 g)
      rw [← r1, ← r2]
      congr 1
      exact congrArg (· ++ g) h
  have kq : (msgC c = msgC d) ∨ ¬ (msgC c = msgC d) := Classical.em _
  have l1 : (((bv (msgC c)).length : Int) != 56) = false := by rw [List.length_map, msgC_len]; rfl
  have l2 : (((bv (msgC d)).length : Int) != 56) = false := by rw [List.length_map, msgC_len]; rfl
  have hml := msgC_len c
  have hdl := hc.d.1
  rcases kq with kq | kq
  all_goals try
    rw [decide_eq_true kq] at c10
    rw [decide_eq_true (hh.2 kq)] at sm
  all_goals try
    rw [decide_eq_false kq] at c10
    rw [decide_eq_false (fun h => kq (hh.1 h))] at sm
  all_goals
    clear kq hh
    generalize bytesC c = B at *
    generalize msgC d = m2 at *
    generalize msgC c = m1 at *
    conv => whnf
    repeat (first
      | (refine iteT rfl ?_; conv => whnf)
      | (refine iteF rfl ?_; conv => whnf)
      | (refine iteF l1 ?_; conv => whnf)
      | (refine iteF l2 ?_; conv => whnf)
      | (refine ⟨_, c1, ?_⟩; conv => whnf)
      | (refine ⟨_, c2, ?_⟩; conv => whnf)
      | (refine ⟨_, c3, ?_⟩; conv => whnf)
      | (refine ⟨_, c4, ?_⟩; conv => whnf)
      | (refine ⟨_, c5, ?_⟩; conv => whnf)
      | (refine ⟨_, c6, ?_⟩; conv => whnf))
    conv => arg 2; repeat (first | rw [capN _ (by simp; omega)] | (whnf; arg 2))
    conv => whnf
    conv => arg 2; repeat (first | rw [capN _ (by simp; omega)] | (whnf; arg 2))
    conv => whnf
    refine ⟨_, c8, ?_⟩
    conv => whnf
    refine iteT rfl ?_
    conv => whnf
    refine ⟨_, c7, ?_⟩
    conv => whnf
    repeat (first
      | (refine iteT rfl ?_; conv => whnf)
      | (refine iteF rfl ?_; conv => whnf)
      | (refine iteT sm ?_; conv => whnf)
      | (refine iteF sm ?_; conv => whnf)
      | (refine ⟨_, c10, ?_⟩; conv => whnf)
      | (refine ⟨_, c9, ?_⟩; conv => whnf)
      | (refine ⟨_, f64_ok, ?_⟩; conv => whnf))
    rfl
end Go.Proofs.Ytjgffjofgeppoaa.AM
