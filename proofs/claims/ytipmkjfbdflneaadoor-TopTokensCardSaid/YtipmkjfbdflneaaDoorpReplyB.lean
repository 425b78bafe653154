/- Ported by name: ReplyB. -/
import Derived.Test.YtipmkjfbdflneaaDoorpReplyA
namespace Go.Proofs.YtipmkjfbdflneaaDoor.AM
open Go Go.Proofs
set_option maxRecDepth 100000
abbrev z7 : Fd := numF 7 0
def rowP (r : Rp) : List Fd := [numF 2 r.c, z7, z7, z7, numF 4 r.t, numF 4 r.l0, numF 4 r.l1, numF 4 r.l2, numF 5 r.w, z7, z7, z7, z7]
def rowW (r : Rp) : List Fd := [numF 2 (IntKind.u64.wrap r.c), z7, z7, z7, numF 4 (IntKind.u64.wrap r.t), numF 4 (IntKind.u64.wrap r.l0), numF 4 (IntKind.u64.wrap r.l1), numF 4 (IntKind.u64.wrap r.l2), numF 5 r.w, z7, z7, z7, z7]
theorem rowW_eq {r : Rp} (hr : r.ok) : rowW r = rowP r := by
  have h1 := hr.c
  have h2 := hr.t
  have h3 := hr.l0
  have h4 := hr.l1
  have h5 := hr.l2
  unfold rowW rowP
  rw [wr_u64 h1.1 (by omega), wr_u64 h2.1 (by omega), wr_u64 h3.1 (by omega), wr_u64 h4.1 (by omega), wr_u64 h5.1 (by omega)]
set_option maxHeartbeats 8000000 in
theorem f33_ok (r : Rp) (hr : r.ok) : Fn Tryd.prog X.G 33 [.p (rpv r)] (fvs (rowP r)) := by
  rw [← rowW_eq hr]
  refine Fn.intro (I := [ 66, 67 ]) hX hm 0 Tryd.func33 rfl rfl (by kernel_rfl) rfl ?_
  clear hr
  obtain ⟨c, t, l0, l1, l2, w⟩ := r
  conv => whnf
  refine InlS.intro (I := [ 66, 67 ]) hX hm 1000 Tryd.func66 rfl rfl (by kernel_rfl) (by rfl) ?_
  conv => whnf
  refine InlS.intro (I := [ 66, 67 ]) hX hm 2000 Tryd.func67 rfl rfl (by kernel_rfl) (by rfl) ?_
  conv => whnf
  refine LoopJ.unroll (I := [ 66, 67 ]) (base' := 0) hX hm (by kernel_rfl) ?_
  conv => whnf
  refine iteT rfl ?_
  conv => whnf
  refine InlS.intro (I := [ 66, 67 ]) hX hm 3000 Tryd.func66 rfl rfl (by kernel_rfl) (by rfl) ?_
  conv => whnf
  refine LoopJ.unroll (I := [ 66, 67 ]) (base' := 0) hX hm (by kernel_rfl) ?_
  conv => whnf
  refine iteT rfl ?_
  conv => whnf
  refine InlS.intro (I := [ 66, 67 ]) hX hm 4000 Tryd.func66 rfl rfl (by kernel_rfl) (by rfl) ?_
  conv => whnf
  refine LoopJ.unroll (I := [ 66, 67 ]) (base' := 0) hX hm (by kernel_rfl) ?_
  conv => whnf
  refine iteT rfl ?_
  conv => whnf
  refine InlS.intro (I := [ 66, 67 ]) hX hm 5000 Tryd.func66 rfl rfl (by kernel_rfl) (by rfl) ?_
  conv => whnf
  refine LoopJ.unroll (I := [ 66, 67 ]) (base' := 0) hX hm (by kernel_rfl) ?_
  conv => whnf
  refine iteF rfl ?_
  conv => whnf
  refine InlS.intro (I := [ 66, 67 ]) hX hm 6000 Tryd.func66 rfl rfl (by kernel_rfl) (by rfl) ?_
  conv => whnf
  refine LoopJ.unroll (I := [ 66, 67 ]) (base' := 0) hX hm (by kernel_rfl) ?_
  conv => whnf
  refine iteT rfl ?_
  conv => whnf
  refine InlS.intro (I := [ 66, 67 ]) hX hm 7000 Tryd.func66 rfl rfl (by kernel_rfl) (by rfl) ?_
  conv => whnf
  refine LoopJ.unroll (I := [ 66, 67 ]) (base' := 0) hX hm (by kernel_rfl) ?_
  conv => whnf
  refine iteT rfl ?_
  conv => whnf
  refine InlS.intro (I := [ 66, 67 ]) hX hm 8000 Tryd.func66 rfl rfl (by kernel_rfl) (by rfl) ?_
  conv => whnf
  refine LoopJ.unroll (I := [ 66, 67 ]) (base' := 0) hX hm (by kernel_rfl) ?_
  conv => whnf
  refine iteT rfl ?_
  conv => whnf
  refine InlS.intro (I := [ 66, 67 ]) hX hm 9000 Tryd.func66 rfl rfl (by kernel_rfl) (by rfl) ?_
  conv => whnf
  refine LoopJ.unroll (I := [ 66, 67 ]) (base' := 0) hX hm (by kernel_rfl) ?_
  conv => whnf
  refine iteF rfl ?_
  conv => whnf
  refine InlS.intro (I := [ 66, 67 ]) hX hm 10000 Tryd.func66 rfl rfl (by kernel_rfl) (by rfl) ?_
  conv => whnf
  refine InlS.intro (I := [ 66, 67 ]) hX hm 11000 Tryd.func67 rfl rfl (by kernel_rfl) (by rfl) ?_
  conv => whnf
  refine LoopJ.unroll (I := [ 66, 67 ]) (base' := 0) hX hm (by kernel_rfl) ?_
  conv => whnf
  refine iteT rfl ?_
  conv => whnf
  refine InlS.intro (I := [ 66, 67 ]) hX hm 12000 Tryd.func66 rfl rfl (by kernel_rfl) (by rfl) ?_
  conv => whnf
  refine LoopJ.unroll (I := [ 66, 67 ]) (base' := 0) hX hm (by kernel_rfl) ?_
  conv => whnf
  refine iteT rfl ?_
  conv => whnf
  refine InlS.intro (I := [ 66, 67 ]) hX hm 13000 Tryd.func66 rfl rfl (by kernel_rfl) (by rfl) ?_
  conv => whnf
  refine LoopJ.unroll (I := [ 66, 67 ]) (base' := 0) hX hm (by kernel_rfl) ?_
  conv => whnf
  refine iteT rfl ?_
  conv => whnf
  refine InlS.intro (I := [ 66, 67 ]) hX hm 14000 Tryd.func66 rfl rfl (by kernel_rfl) (by rfl) ?_
  conv => whnf
  refine LoopJ.unroll (I := [ 66, 67 ]) (base' := 0) hX hm (by kernel_rfl) ?_
  conv => whnf
  refine iteT rfl ?_
  conv => whnf
  refine InlS.intro (I := [ 66, 67 ]) hX hm 15000 Tryd.func66 rfl rfl (by kernel_rfl) (by rfl) ?_
  conv => whnf
  refine LoopJ.unroll (I := [ 66, 67 ]) (base' := 0) hX hm (by kernel_rfl) ?_
  conv => whnf
  refine iteF rfl ?_
  conv => whnf
  rfl
end Go.Proofs.YtipmkjfbdflneaaDoor.AM
