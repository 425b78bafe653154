/- Ported by name: FrameC. -/
import Derived.Test.YtipmkjfbdflneaaDoorpFrameB
namespace Go.Proofs.YtipmkjfbdflneaaDoor.AM
open Go Go.Proofs
set_option maxRecDepth 100000
def w64 (n : Int) : Int := IntKind.u64.wrap n
def rowCw (c : Cm) : List Fd := [numF 2 2, numF 2 (IntKind.u64.wrap c.op), numF 4 (IntKind.u64.wrap c.t), numF 4 (IntKind.u64.wrap c.u),
  numF 4 (IntKind.u64.wrap c.l0.b), numF 4 (IntKind.u64.wrap c.l0.r), numF 4 (IntKind.u64.wrap c.l0.p),
  numF 4 (IntKind.u64.wrap c.l1.b), numF 4 (IntKind.u64.wrap c.l1.r), numF 4 (IntKind.u64.wrap c.l1.p),
  numF 4 (IntKind.u64.wrap c.l2.b), numF 4 (IntKind.u64.wrap c.l2.r), numF 4 (IntKind.u64.wrap c.l2.p),
  numF 2 (IntKind.u64.wrap c.us), numF 2 (IntKind.u64.wrap c.en), numF 5 c.x, ⟨6, 0, c.d⟩]
def rowC (c : Cm) : List Fd := [numF 2 2, numF 2 c.op, numF 4 c.t, numF 4 c.u, numF 4 c.l0.b, numF 4 c.l0.r, numF 4 c.l0.p, numF 4 c.l1.b, numF 4 c.l1.r, numF 4 c.l1.p,
  numF 4 c.l2.b, numF 4 c.l2.r, numF 4 c.l2.p, numF 2 c.us, numF 2 c.en, numF 5 c.x, ⟨6, 0, c.d⟩]
def limB (l : Lm) : List Int := bytesU l.b 4 ++ bytesU l.r 4 ++ bytesU l.p 4
def msgC (c : Cm) : List Int := [2, c.op] ++ bytesU c.t 4 ++ bytesU c.u 4 ++ bytesU c.l0.b 4 ++ bytesU c.l0.r 4 ++ bytesU c.l0.p 4 ++ bytesU c.l1.b 4 ++ bytesU c.l1.r 4 ++ bytesU c.l1.p 4 ++
  bytesU c.l2.b 4 ++ bytesU c.l2.r 4 ++ bytesU c.l2.p 4 ++ [c.us, c.en] ++ bytesU c.x 8
def msgCw (c : Cm) : List Int := [2, c.op] ++ bytesU (IntKind.u64.wrap c.t) 4 ++ bytesU (IntKind.u64.wrap c.u) 4 ++
  bytesU (IntKind.u64.wrap c.l0.b) 4 ++ bytesU (IntKind.u64.wrap c.l0.r) 4 ++ bytesU (IntKind.u64.wrap c.l0.p) 4 ++
  bytesU (IntKind.u64.wrap c.l1.b) 4 ++ bytesU (IntKind.u64.wrap c.l1.r) 4 ++ bytesU (IntKind.u64.wrap c.l1.p) 4 ++
  bytesU (IntKind.u64.wrap c.l2.b) 4 ++ bytesU (IntKind.u64.wrap c.l2.r) 4 ++ bytesU (IntKind.u64.wrap c.l2.p) 4 ++ [c.us, c.en] ++ bytesU c.x 8
theorem lim_range {l : Lm} (h : l.good ∨ l.none) : (0 ≤ l.b ∧ l.b < 4294967296) ∧ (0 ≤ l.r ∧ l.r < 4294967296) ∧ (0 ≤ l.p ∧ l.p < 4294967296) := by
  unfold Lm.good Lm.none at h
  omega
theorem okC_lims {c : Cm} (h : okC c) : (c.l0.good ∨ c.l0.none) ∧ (c.l1.good ∨ c.l1.none) ∧ (c.l2.good ∨ c.l2.none) := by
  have := h.2.2.2.2.1
  split at this
  · exact ⟨.inl this.1, .inl this.2.1, .inl this.2.2⟩
  · exact ⟨.inr this.1, .inr this.2.1, .inr this.2.2⟩
theorem rowCw_eq {c : Cm} (ho : c.ok) (h : okC c) : rowCw c = rowC c := by
  obtain ⟨q0, q1, q2⟩ := okC_lims h
  obtain ⟨a0, a1, a2⟩ := lim_range q0
  obtain ⟨b0, b1, b2⟩ := lim_range q1
  obtain ⟨d0, d1, d2⟩ := lim_range q2
  have k1 := ho.op
  have k2 := ho.t
  have k3 := ho.u
  have k4 := ho.us
  have k5 := ho.en
  unfold rowCw rowC
  rw [wr_u64 k1.1 (by omega), wr_u64 k2.1 (by omega), wr_u64 k3.1 (by omega), wr_u64 k4.1 (by omega), wr_u64 k5.1 (by omega), wr_u64 a0.1 (by omega), wr_u64 a1.1 (by omega), wr_u64 a2.1 (by omega),
    wr_u64 b0.1 (by omega), wr_u64 b1.1 (by omega), wr_u64 b2.1 (by omega), wr_u64 d0.1 (by omega), wr_u64 d1.1 (by omega), wr_u64 d2.1 (by omega)]
theorem msgCw_eq {c : Cm} (ho : c.ok) (h : okC c) : msgCw c = msgC c := by
  obtain ⟨q0, q1, q2⟩ := okC_lims h
  obtain ⟨a0, a1, a2⟩ := lim_range q0
  obtain ⟨b0, b1, b2⟩ := lim_range q1
  obtain ⟨d0, d1, d2⟩ := lim_range q2
  have k2 := ho.t
  have k3 := ho.u
  unfold msgCw msgC
  rw [wr_u64 k2.1 (by omega), wr_u64 k3.1 (by omega), wr_u64 a0.1 (by omega), wr_u64 a1.1 (by omega), wr_u64 a2.1 (by omega),
    wr_u64 b0.1 (by omega), wr_u64 b1.1 (by omega), wr_u64 b2.1 (by omega), wr_u64 d0.1 (by omega), wr_u64 d1.1 (by omega), wr_u64 d2.1 (by omega)]
set_option maxHeartbeats 8000000 in
theorem f29_ok (c : Cm) : Fn Tryd.prog X.G 29 [.p (cmv c)] (fvs (rowCw c)) := by
  refine Fn.intro (I := []) hX hm 0 Tryd.func29 rfl rfl (by kernel_rfl) rfl ?_
  obtain ⟨op, t, u, ⟨a0, a1, a2⟩, ⟨b0, b1, b2⟩, ⟨d0, d1, d2⟩, us, en, x, d⟩ := c
  conv => whnf
  refine LoopJ.unroll (I := []) (base' := 1000) hX hm (by kernel_rfl) ?_
  conv => whnf
  refine iteT rfl ?_
  conv => whnf
  refine LoopJ.unroll (I := []) (base' := 2000) hX hm (by kernel_rfl) ?_
  conv => whnf
  refine iteT rfl ?_
  conv => whnf
  refine LoopJ.unroll (I := []) (base' := 3000) hX hm (by kernel_rfl) ?_
  conv => whnf
  refine iteT rfl ?_
  conv => whnf
  refine LoopJ.unroll (I := []) (base' := 4000) hX hm (by kernel_rfl) ?_
  conv => whnf
  refine iteT rfl ?_
  conv => whnf
  refine LoopJ.unroll (I := []) (base' := 5000) hX hm (by kernel_rfl) ?_
  conv => whnf
  refine iteF rfl ?_
  conv => whnf
  refine LoopJ.unroll (I := []) (base' := 6000) hX hm (by kernel_rfl) ?_
  conv => whnf
  refine iteT rfl ?_
  conv => whnf
  refine LoopJ.unroll (I := []) (base' := 7000) hX hm (by kernel_rfl) ?_
  conv => whnf
  refine iteT rfl ?_
  conv => whnf
  refine LoopJ.unroll (I := []) (base' := 8000) hX hm (by kernel_rfl) ?_
  conv => whnf
  refine iteT rfl ?_
  conv => whnf
  refine LoopJ.unroll (I := []) (base' := 9000) hX hm (by kernel_rfl) ?_
  conv => whnf
  refine iteT rfl ?_
  conv => whnf
  refine LoopJ.unroll (I := []) (base' := 10000) hX hm (by kernel_rfl) ?_
  conv => whnf
  refine iteF rfl ?_
  conv => whnf
  refine LoopJ.unroll (I := []) (base' := 11000) hX hm (by kernel_rfl) ?_
  conv => whnf
  refine iteT rfl ?_
  conv => whnf
  refine LoopJ.unroll (I := []) (base' := 12000) hX hm (by kernel_rfl) ?_
  conv => whnf
  refine iteT rfl ?_
  conv => whnf
  refine LoopJ.unroll (I := []) (base' := 13000) hX hm (by kernel_rfl) ?_
  conv => whnf
  refine iteT rfl ?_
  conv => whnf
  refine LoopJ.unroll (I := []) (base' := 14000) hX hm (by kernel_rfl) ?_
  conv => whnf
  refine iteT rfl ?_
  conv => whnf
  refine LoopJ.unroll (I := []) (base' := 15000) hX hm (by kernel_rfl) ?_
  conv => whnf
  refine iteF rfl ?_
  conv => whnf
  refine LoopJ.unroll (I := []) (base' := 16000) hX hm (by kernel_rfl) ?_
  conv => whnf
  refine iteF rfl ?_
  conv => whnf
  rfl
end Go.Proofs.YtipmkjfbdflneaaDoor.AM
