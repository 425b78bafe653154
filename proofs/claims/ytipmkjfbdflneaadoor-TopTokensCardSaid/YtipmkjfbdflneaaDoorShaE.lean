/- Sha: paddings; digests of words. -/
import Derived.Test.YtipmkjfbdflneaaDoorShaD
namespace Go.Proofs.YtipmkjfbdflneaaDoor.AM
open Go Go.Proofs
set_option maxRecDepth 100000

def zerosN (n : Nat) : Nat := (119 - n % 64) % 64
def padL (n : Nat) : List Int := 128 :: (List.replicate (zerosN n) 0 ++ bytesU ((8 * n : Nat) : Int) 8)
theorem padL_length (n : Nat) : (padL n).length = zerosN n + 9 := by simp [padL, bytesU_length]
theorem wrU (n : Nat) (h : n < 18446744073709551616) : IntKind.u64.wrap (n : Int) = n := wr_u64 (by omega) (by omega)
set_option maxHeartbeats 4000000 in
theorem f97_ok (n : Nat) (hn : n ≤ 200000) : Fn Tryd.prog X.G 97 [.p (.i .i64 n)] (bvs (padL n)) := by
  refine Fn.intro (I := []) hX hm 0 Tryd.func97 rfl rfl (by kernel_rfl) rfl ?_
  have t1 : (n : Int).tmod 64 = ((n % 64 : Nat) : Int) := rfl
  have e1 : (IntKind.i64.wrap (119 - (n : Int).tmod 64)).tmod 64 = (zerosN n : Int) := by
    rw [t1, wr_i64 (by omega) (by omega), show (119 - ((n % 64 : Nat) : Int)) = ((119 - n % 64 : Nat) : Int) by omega]
    rfl
  have hz : zerosN n < 64 := Nat.mod_lt _ (by decide)
  have d1 : decide (0 ≤ (IntKind.i64.wrap (119 - (n : Int).tmod 64)).tmod 64) = true := by rw [e1]; exact decide_eq_true (by omega)
  have eN : IntKind.u64.wrap (IntKind.u64.wrap (n : Int) * 2 ^ (min (Int.toNat 3) IntKind.u64.bits)) = ((8 * n : Nat) : Int) := by
    rw [wrU n (by omega)]
    show IntKind.u64.wrap ((n : Int) * 2 ^ 3) = _
    rw [show ((n : Int) * 2 ^ 3) = ((8 * n : Nat) : Int) by omega, wrU _ (by omega)]
  conv => whnf
  conv => arg 2; repeat (first | rw [d1] | (whnf; arg 2))
  conv => whnf
  conv => arg 2; repeat (first | rw [capN _ (by rw [e1]; simp; omega)] | (whnf; arg 2))
  conv => whnf
  refine LoopJ.intro (I := []) (base' := 0) hX hm (by kernel_rfl) (σ := Nat) (fun i => [(0, .p (.i .i64 n)), (4, .own 1000), (13, .p (.i .i64 i))])
    (fun i => [(1000, .els true ush (bv (128 :: (List.replicate (zerosN n) 0 ++ (bytesU ((8 * n : Nat) : Int) 8).take i))))]) (fun i => i ≤ 8) (fun i => 8 - i) 0 [(1000, 96)]
    (Nat.zero_le _) ⟨nofun, rfl, ⟨rfl, rfl, rfl, rfl, rfl, rfl, trivial⟩, ⟨?_, rfl, trivial⟩⟩ ?_
  · show some (Blk.els true ush (_ ++ List.replicate ((IntKind.i64.wrap (119 - (n : Int).tmod 64)).tmod 64).toNat (PV.i .u8 0))) = _
    rw [e1]
    simp [List.map_replicate]
    rfl
  intro i hi
  conv => whnf
  refine iteC (fun h => ?_) (fun h => ?_)
  · have h := of_decide_eq_true h
    have e2 : IntKind.i64.wrap (56 - IntKind.i64.wrap (8 * (i : Int))) = ((8 * (8 - 1 - i) : Nat) : Int) := by
      rw [wr_i64 (n := 8 * (i : Int)) (by omega) (by omega), wr_i64 (by omega) (by omega)]
      omega
    have h2 : ¬ IntKind.i64.wrap (56 - IntKind.i64.wrap (8 * (i : Int))) < 0 := by rw [e2]; omega
    have d2 := decide_eq_false h2
    conv => whnf
    conv => arg 2; repeat (first | rw [d2] | rw [ltF h2] | (whnf; arg 2))
    conv => whnf
    conv => arg 2; repeat (first | rw [capN _ (by simp [bytesU_length]; omega)] | (whnf; arg 2))
    conv => whnf
    refine ⟨i + 1, [(1000, 208)], by omega, by dsimp only; omega, nofun, rfl, ⟨rfl, rfl, rfl, rfl, incN (by omega), rfl, trivial⟩, ⟨?_, rfl, trivial⟩⟩
    rw [bytesU_step _ (by omega)]
    show some (Blk.els true ush (bv (128 :: (List.replicate (zerosN n) 0 ++ (bytesU ((8 * n : Nat) : Int) 8).take i)) ++ [PV.i .u8 (IntKind.u8.wrap ((IntKind.u64.wrap (IntKind.u64.wrap (n : Int) * 2 ^ (min (Int.toNat 3) IntKind.u64.bits))).fdiv (2 ^ (min (IntKind.i64.wrap (56 - IntKind.i64.wrap (8 * (i : Int)))).toNat IntKind.u64.bits))))])) = _
    rw [eN, e2, ← bv_snoc, List.cons_append, List.append_assoc]
    rfl
  · have h := of_decide_eq_false h
    obtain rfl : i = 8 := by omega
    rfl
end Go.Proofs.YtipmkjfbdflneaaDoor.AM
