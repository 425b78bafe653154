/- Mac: the reference's pads and sums. -/
import Derived.Test.YtkcnchlahhlkfaaDoorMacB
namespace Go.Proofs.YtkcnchlahhlkfaaDoor.AM
open Go Go.Proofs
set_option maxRecDepth 100000

theorem f136_ok (k : List Int) (hk : byt k) (lk : k.length ≤ 100000) : Fn Tryd.prog X.G 136 [bvs k] (bvs (blockK k)) := by
  refine Fn.intro (I := []) hX hm 0 Tryd.func136 rfl rfl (by kernel_rfl) rfl ?_
  have hl := keyB_len (k := k)
  conv => whnf
  conv => arg 2; repeat (first | rw [capN _ (by simp; omega)] | (whnf; arg 2))
  conv => whnf
  refine iteC (fun h => ?_) (fun h => ?_)
  · have h := of_decide_eq_true h
    rw [List.length_map] at h
    have hK : keyB k = ofB k := by unfold keyB; rw [if_pos (by omega)]
    have co := f111_ok k hk (by omega)
    rw [← hK] at co
    have hl2 : (keyB k).length = 32 := by rw [hK]; rfl
    unfold blockK
    generalize keyB k = K at *
    conv => whnf
    refine ⟨_, co, ?_⟩
    conv => whnf
    conv => arg 2; repeat (first | rw [capN _ (by simp; omega)] | (whnf; arg 2))
    conv => whnf
    refine LoopJ.intro (I := []) (base' := 0) hX hm (by kernel_rfl) (σ := Nat) (fun i => [(3, .own 1000)]) (fun i => [(1000, .els true ush (bv (K ++ List.replicate i 0)))]) (fun i => i ≤ 64 - K.length) (fun i => 64 - K.length - i) 0 [(1000, 120)]
      (Nat.zero_le _) ⟨nofun, rfl, ⟨rfl, rfl, trivial⟩, ⟨?_, rfl, trivial⟩⟩ ?_
    · show some (Blk.els true ush (List.replicate 0 (PV.i .u8 0) ++ List.take 32 (List.drop 0 (bv K)))) = some (Blk.els true ush (bv (K ++ [])))
      rw [List.append_nil, List.drop_zero, List.take_of_length_le (by rw [List.length_map, hl2]; omega)]
      rfl
    intro i hi
    conv => whnf
    refine iteC (fun h => ?_) (fun h => ?_)
    · have h := of_decide_eq_true h
      have h : ((bv (K ++ List.replicate i 0)).length : Int) < 64 := h
      rw [List.length_map, List.length_append, List.length_replicate] at h
      conv => whnf
      conv => arg 2; repeat (first | rw [capN _ (by simp; omega)] | (whnf; arg 2))
      conv => whnf
      refine ⟨i + 1, [(1000, 168)], by omega, by dsimp only; omega, nofun, rfl, ⟨rfl, rfl, trivial⟩, ⟨?_, rfl, trivial⟩⟩
      show some (Blk.els true ush (bv (K ++ List.replicate i 0) ++ [PV.i .u8 0])) = some (Blk.els true ush (bv (K ++ List.replicate (i + 1) 0)))
      rw [← bv_snoc, List.append_assoc, List.replicate_succ']
    · have h := of_decide_eq_false h
      have h : ¬ ((bv (K ++ List.replicate i 0)).length : Int) < 64 := h
      rw [List.length_map, List.length_append, List.length_replicate] at h
      obtain rfl : i = 64 - K.length := by omega
      rfl
  · have h := of_decide_eq_false h
    rw [List.length_map] at h
    have hK : keyB k = k := by unfold keyB; rw [if_neg (by omega)]
    unfold blockK
    rw [hK]
    rw [hK] at hl
    conv => whnf
    refine LoopJ.intro (I := []) (base' := 0) hX hm (by kernel_rfl) (σ := Nat) (fun i => [(3, .own 1000)]) (fun i => [(1000, .els true ush (bv (k ++ List.replicate i 0)))]) (fun i => i ≤ 64 - k.length) (fun i => 64 - k.length - i) 0 [(1000, 56)]
      (Nat.zero_le _) ⟨nofun, rfl, ⟨rfl, rfl, trivial⟩, ⟨?_, rfl, trivial⟩⟩ ?_
    · show some (Blk.els true ush (List.replicate 0 (PV.i .u8 0) ++ bv k)) = some (Blk.els true ush (bv (k ++ [])))
      rw [List.append_nil]
      rfl
    intro i hi
    conv => whnf
    refine iteC (fun h => ?_) (fun h => ?_)
    · have h := of_decide_eq_true h
      have h : ((bv (k ++ List.replicate i 0)).length : Int) < 64 := h
      rw [List.length_map, List.length_append, List.length_replicate] at h
      conv => whnf
      conv => arg 2; repeat (first | rw [capN _ (by simp; omega)] | (whnf; arg 2))
      conv => whnf
      refine ⟨i + 1, [(1000, 168)], by omega, by dsimp only; omega, nofun, rfl, ⟨rfl, rfl, trivial⟩, ⟨?_, rfl, trivial⟩⟩
      show some (Blk.els true ush (bv (k ++ List.replicate i 0) ++ [PV.i .u8 0])) = some (Blk.els true ush (bv (k ++ List.replicate (i + 1) 0)))
      rw [← bv_snoc, List.append_assoc, List.replicate_succ']
    · have h := of_decide_eq_false h
      have h : ¬ ((bv (k ++ List.replicate i 0)).length : Int) < 64 := h
      rw [List.length_map, List.length_append, List.length_replicate] at h
      obtain rfl : i = 64 - k.length := by omega
      rfl
theorem f112_ok (k : List Int) (y : Int) (hk : byt k) (lk : k.length ≤ 100000) : Fn Tryd.prog X.G 112 [bvs k, .p (.i .u8 y)] (bvs (mixK k y)) := by
  refine Fn.intro (I := []) hX hm 0 Tryd.func112 rfl rfl (by kernel_rfl) rfl ?_
  have cb := f136_ok k hk lk
  have hb := blockK_len k
  unfold mixK
  generalize blockK k = B at *
  conv => whnf
  refine ⟨_, cb, ?_⟩
  conv => whnf
  refine LoopJ.intro (I := []) (base' := 0) hX hm (by kernel_rfl) (σ := Nat) (fun i => [(1, .p (.i .u8 y)), (5, .own 64), (6, .p (.i .i64 i))])
    (fun i => [(64, .els true ush (bv ((B.take i).map (fun x => x8 x y) ++ B.drop i)))]) (fun i => i ≤ 64) (fun i => 64 - i) 0 []
    (by omega) ⟨nofun, rfl, ⟨rfl, rfl, rfl, rfl, rfl, rfl, trivial⟩, ⟨rfl, rfl, trivial⟩⟩ ?_
  intro i hi
  have hlen : ((B.take i).map (fun x => x8 x y) ++ B.drop i).length = 64 := by simp; omega
  conv => whnf
  refine iteC (fun h2 => ?_) (fun h2 => ?_)
  · have h2 := of_decide_eq_true h2
    rw [List.length_map, hlen] at h2
    have hlt : i < B.length := by omega
    have hL1 : ((B.take i).map (fun x => x8 x y)).length = i := by simp; omega
    have hD : B.drop i = B[i] :: B.drop (i + 1) := List.drop_eq_getElem_cons hlt
    have m1 := mid_get8 (x := B[i]) (R := B.drop (i + 1)) hL1
    have m2 := mid_nth8 (x := B[i]) (R := B.drop (i + 1)) hL1
    have m3 := mid_set8 (x := B[i]) (v := x8 B[i] y) (R := B.drop (i + 1)) hL1
    have hT1 : (B.take (i + 1)).map (fun x => x8 x y) ++ B.drop (i + 1) = (B.take i).map (fun x => x8 x y) ++ x8 B[i] y :: B.drop (i + 1) := by
      rw [List.take_add_one, List.getElem?_eq_getElem hlt, List.map_append, List.append_assoc]
      rfl
    rw [hD]
    conv => whnf
    iterate 4 (conv => arg 2; repeat (first | rw [m1] | rw [m2] | (whnf; arg 2))
               conv => whnf)
    refine ⟨i + 1, [], by omega, by dsimp only; omega, nofun, rfl, ⟨rfl, rfl, rfl, rfl, incN (by omega), rfl, trivial⟩, ⟨?_, rfl, trivial⟩⟩
    show some (Blk.els true ush ((bv ((B.take i).map (fun x => x8 x y) ++ B[i] :: B.drop (i + 1))).set (i : Int).toNat (.i .u8 (x8 B[i] y)))) = some (Blk.els true ush (bv ((B.take (i + 1)).map (fun x => x8 x y) ++ B.drop (i + 1))))
    rw [m3, hT1]
  · have h2 := of_decide_eq_false h2
    rw [List.length_map, hlen] at h2
    obtain rfl : i = 64 := by omega
    show some (AV.ro ush (bv ((B.take 64).map (fun x => x8 x y) ++ B.drop 64))) = some (AV.ro ush (bv (B.map fun x => x8 x y)))
    rw [List.drop_of_length_le (by omega), List.take_of_length_le (by omega), List.append_nil]
end Go.Proofs.YtkcnchlahhlkfaaDoor.AM
