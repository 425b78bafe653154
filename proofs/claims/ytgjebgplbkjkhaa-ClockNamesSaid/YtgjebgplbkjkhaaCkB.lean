/- Clocks: the program's clamped ticks, and what goes back. -/
import Derived.Test.YtgjebgplbkjkhaaCkA
namespace Go.Proofs.Ytgjebgplbkjkhaa.AM
open Go Go.Proofs
set_option maxRecDepth 100000

set_option maxHeartbeats 4000000 in
theorem f16_ok (now : Int) (l : List Int) (hl : l.length < 1000000) : Fn Try.prog X.G 16 [.p (.i .u64 now), qs64 l] (.tup [qs64 (clampR now l), .p (.i .i64 (manyE l))]) := by
  refine Fn.introM (I := [ 26 ]) hX hm 0 Try.func16 rfl rfl (by kernel_rfl) rfl ?_
  unfold clampR manyE
  conv => whnf
  refine iteC (fun h0 => ?_) (fun h0 => ?_)
  · have h0 := of_decide_eq_true h0
    rw [List.length_map] at h0
    rw [if_pos (by omega), if_pos (by omega)]
    rfl
  have h0 := of_decide_eq_false h0
  rw [List.length_map] at h0
  rw [if_neg (by omega), if_neg (by omega)]
  conv => whnf
  refine InlS.intro (I := []) hX hm 5000 Try.func26 rfl rfl (by kernel_rfl) rfl ?_
  conv => whnf
  refine RangeJ.clean [6, 14] [48, 5016, 5024] ⟨nofun, rfl, ⟨rfl, rfl, rfl, rfl, trivial⟩, ⟨rfl, rfl, rfl, rfl, rfl, rfl, trivial⟩⟩ rfl ?_
  refine RangeJ.intro (I := []) hX hm 7000 9001 9002 _ rfl Try.func32 rfl rfl (by kernel_rfl) rfl rfl rfl rfl (fun _ => .inr rfl) ?_
  conv => whnf
  refine LoopJ.putV 48 1000 qsh64 rfl rfl ?_
  refine LoopJ.introK (I := []) (base' := 12000) hX hm (by kernel_rfl) [0, 1, 2, 6] [9001, 9002, 48, 5024] (σ := Nat) (fun i => [(7, .p (.i .i64 i))]) (fun i => [(1000, .els true qsh64 (qv64 (clampL now l i))), (5016, .var (.p (.i .u64 (top now (l.take i)))))]) (fun i => i ≤ l.length) (fun i => l.length - i) 0
    (Nat.zero_le _) ⟨keep_sub rfl, rfl, ⟨rfl, rfl, rfl, rfl, rfl, rfl, rfl, rfl, rfl, rfl, trivial⟩, ⟨rfl, rfl, rfl, rfl, rfl, rfl, rfl, rfl, rfl, rfl, rfl, rfl, trivial⟩⟩ ?_
  intro i hi
  conv => whnf
  refine iteC (fun h1 => ?_) (fun h1 => ?_)
  · have h1 := of_decide_eq_true h1
    rw [List.length_map] at h1
    have hlt : i < l.length := by omega
    have hg := getM (f := PV.i .u64) hlt
    have ht := top_take (now := now) hlt
    have c1 := f18_ok (top now (l.take i)) l[i]
    have hlen := clampL_len now l i
    rw [← ht] at c1
    conv => whnf
    conv => arg 2; repeat (first | rw [hg] | (whnf; arg 2))
    conv => whnf
    refine YldS.intro (I := []) hX hm 20000 rfl rfl (by kernel_rfl) (fun l' => ?_)
    conv => whnf
    refine ⟨_, c1, ?_⟩
    conv => whnf
    conv => arg 2; repeat (first | rw [capN _ (by simp; omega)] | (whnf; arg 2))
    conv => whnf
    refine iteT rfl ?_
    conv => whnf
    conv => arg 2; repeat (first | rw [hg] | (whnf; arg 2))
    conv => whnf
    refine ⟨_, c1, ?_⟩
    conv => whnf
    refine ⟨i + 1, [(1000, 20176)], by omega, by dsimp only; omega, keep_m rfl, rfl, ⟨incN (by omega), rfl, rfl, rfl, rfl, rfl, rfl, rfl, rfl, rfl, trivial⟩, ⟨?_, rfl, rfl, rfl, rfl, rfl, rfl, rfl, rfl, rfl, rfl, rfl, trivial⟩⟩
    exact congrArg (fun x => some (Blk.els true qsh64 x)) (qv_app _ [top now (l.take (i + 1))]).symm
  · have h1 := of_decide_eq_false h1
    rw [List.length_map] at h1
    have : i = l.length := by omega
    subst this
    rfl
end Go.Proofs.Ytgjebgplbkjkhaa.AM
