/- Sha: the program takes in a block. -/
import Derived.Test.YtipmkjfbdflneaaDoorShaA
namespace Go.Proofs.YtipmkjfbdflneaaDoor.AM
open Go Go.Proofs
set_option maxRecDepth 100000

theorem byt_getD {b : List Int} (hb : byt b) (i : Nat) : 0 ≤ b.getD i 0 ∧ b.getD i 0 < 256 := by
  rw [List.getD_eq_getElem?_getD]
  cases h : b[i]? with
  | none => exact ⟨by decide, by decide⟩
  | some x => exact hb x (List.mem_of_getElem? h)
def accP (b : List Int) (t : Nat) : Nat → Int
  | 0 => 0
  | i + 1 => o32 (sl32 (accP b t i) 8) (IntKind.u32.wrap (b.getD (4 * t + i) 0))
theorem accP_4 {b : List Int} (hb : byt b) (t : Nat) : accP b t 4 = wordN b t := by
  have h0 := byt_getD hb (4 * t + 0)
  have h1 := byt_getD hb (4 * t + 1)
  have h2 := byt_getD hb (4 * t + 2)
  have h3 := byt_getD hb (4 * t + 3)
  have e1 : accP b t 1 = b.getD (4 * t + 0) 0 := by
    show o32 (sl32 0 8) _ = _
    rw [or_step32 (by omega) (by omega) h0.1 h0.2]
    omega
  have e2 : accP b t 2 = 256 * b.getD (4 * t + 0) 0 + b.getD (4 * t + 1) 0 := by
    show o32 (sl32 (accP b t 1) 8) _ = _
    rw [e1, or_step32 (by omega) (by omega) h1.1 h1.2]
  have e3 : accP b t 3 = 256 * (256 * b.getD (4 * t + 0) 0 + b.getD (4 * t + 1) 0) + b.getD (4 * t + 2) 0 := by
    show o32 (sl32 (accP b t 2) 8) _ = _
    rw [e2, or_step32 (by omega) (by omega) h2.1 h2.2]
  show o32 (sl32 (accP b t 3) 8) _ = _
  rw [e3, or_step32 (by omega) (by omega) h3.1 h3.2]
  unfold wordN
  rw [show 4 * t + 0 = 4 * t from rfl]
  omega
theorem mid_get {L R : List Int} {x : Int} {t : Nat} (h : L.length = t) : getI (wv (L ++ x :: R)) (t : Int) = some (PV.i .u32 x) := by
  rw [getM (f := PV.i .u32) (l := L ++ x :: R) (i := t) (by simp; omega)]
  subst h
  simp
theorem mid_nth {L R : List Int} {x : Int} {t : Nat} (h : L.length = t) : (wv (L ++ x :: R))[(t : Int).toNat]? = some (PV.i .u32 x) := by
  rw [nthM (f := PV.i .u32) (l := L ++ x :: R) (i := t) (by simp; omega)]
  subst h
  simp
theorem mid_set {L R : List Int} {x v : Int} {t : Nat} (h : L.length = t) : (wv (L ++ x :: R)).set (t : Int).toNat (PV.i .u32 v) = wv (L ++ v :: R) := by
  subst h
  simp
theorem pre_get {L R : List Int} {t k : Nat} (h : L.length = t) (hk : k ≤ t) (hk1 : 1 ≤ k) (ht : t < 1000) : getI (wv (L ++ R)) (IntKind.i64.wrap ((t : Int) - (k : Int))) = some (PV.i .u32 (L.getD (t - k) 0)) := by
  rw [wr_i64 (by omega) (by omega), show ((t : Int) - (k : Int)) = ((t - k : Nat) : Int) by omega, getM (f := PV.i .u32) (l := L ++ R) (i := t - k) (by simp; omega)]
  have : t - k < L.length := by omega
  simp [this]
theorem pre_nth {L R : List Int} {t k : Nat} (h : L.length = t) (hk : k ≤ t) (hk1 : 1 ≤ k) (ht : t < 1000) : (wv (L ++ R))[(IntKind.i64.wrap ((t : Int) - (k : Int))).toNat]? = some (PV.i .u32 (L.getD (t - k) 0)) := by
  rw [wr_i64 (by omega) (by omega), show ((t : Int) - (k : Int)) = ((t - k : Nat) : Int) by omega, nthM (f := PV.i .u32) (l := L ++ R) (i := t - k) (by simp; omega)]
  have : t - k < L.length := by omega
  simp [this]
theorem W_lt {b : List Int} {t : Nat} (h : t < 16) : W b (t + 1) = W b t ++ [wordN b t] := by
  show W b t ++ [if t < 16 then wordN b t else nxt (W b t) t] = _
  rw [if_pos h]
theorem W_ge {b : List Int} {t : Nat} (h : 16 ≤ t) : W b (t + 1) = W b t ++ [nxt (W b t) t] := by
  show W b t ++ [if t < 16 then wordN b t else nxt (W b t) t] = _
  rw [if_neg (by omega)]
theorem W_get (b : List Int) {t n : Nat} (h : t < n) : (W b n).getD t 0 = (W b (t + 1)).getD t 0 := by
  induction n with
  | zero => omega
  | succ n ih =>
    by_cases he : t = n
    · rw [he]
    · rw [← ih (by omega)]
      have := W_length b n
      show (W b n ++ [_]).getD t 0 = _
      have ht : t < (W b n).length := by omega
      simp [List.getD, List.getElem?_append_left ht]
set_option maxHeartbeats 8000000 in
theorem f99_ok (h : V8) (b : List Int) (hb : byt b) (hl : b.length = 64) : Fn Tryd.prog X.G 99 [.p (hw h), bvs b] (.p (hw (takeV h b))) := by
  refine Fn.intro (I := []) hX hm 0 Tryd.func99 rfl rfl (by kernel_rfl) rfl ?_
  conv => whnf
  refine LoopJ.intro (I := []) (base' := 0) hX hm (by kernel_rfl) (σ := Nat) (fun t => [(1, bvs b), (2, .ptr 16 []), (4, .ptr 32 []), (5, .ptr 40 []), (19, .p (.i .i64 t))])
    (fun t => [(16, .var (.p (hw h))), (32, .var (.p (.arr 8 wsh (List.replicate 8 (.i .u32 0))))), (40, .var (.p (.arr 64 wsh (wv (W b t ++ List.replicate (64 - t) 0)))))]) (fun t => t ≤ 16) (fun t => 16 - t) 0 []
    (Nat.zero_le _) ⟨nofun, rfl, ⟨rfl, rfl, rfl, rfl, rfl, rfl, rfl, rfl, rfl, rfl, trivial⟩, ⟨rfl, rfl, rfl, rfl, rfl, rfl, trivial⟩⟩ ?_
  · intro t ht
    conv => whnf
    refine iteC (fun h1 => ?_) (fun h1 => ?_)
    · have h1 := of_decide_eq_true h1
      have e1 : IntKind.i64.wrap (4 * (t : Int)) = ((4 * t : Nat) : Int) := by rw [wr_i64 (by omega) (by omega)]; omega
      have e2 : IntKind.i64.wrap (IntKind.i64.wrap (4 * (t : Int)) + 4) = ((4 * t + 4 : Nat) : Int) := by rw [e1, wr_i64 (by omega) (by omega)]; omega
      have d1 : decide (0 ≤ IntKind.i64.wrap (4 * (t : Int))) = true := by rw [e1]; exact decide_eq_true (by omega)
      have d2 : decide (IntKind.i64.wrap (4 * (t : Int)) ≤ IntKind.i64.wrap (IntKind.i64.wrap (4 * (t : Int)) + 4)) = true := by rw [e2, e1]; exact decide_eq_true (by omega)
      have d3 : decide (IntKind.i64.wrap (IntKind.i64.wrap (4 * (t : Int)) + 4) ≤ ((bv b).length : Int)) = true := by rw [e2]; exact decide_eq_true (by simp; omega)
      conv => whnf
      conv => arg 2; repeat (first | rw [d1] | rw [d2] | rw [d3] | (whnf; arg 2))
      conv => whnf
      conv => arg 2; repeat (first | rw [d1] | rw [d2] | rw [d3] | (whnf; arg 2))
      conv => whnf
      conv => arg 2; repeat (first | rw [d1] | rw [d2] | rw [d3] | (whnf; arg 2))
      conv => whnf
      have eS : List.take ((IntKind.i64.wrap (IntKind.i64.wrap (4 * (t : Int)) + 4)).toNat - (IntKind.i64.wrap (4 * (t : Int))).toNat) (List.drop (IntKind.i64.wrap (4 * (t : Int))).toNat (bv b)) = bv ((b.drop (4 * t)).take 4) := by
        rw [e2, e1, Int.toNat_natCast, Int.toNat_natCast, show 4 * t + 4 - 4 * t = 4 by omega]
        simp only [bv, List.map_take, List.map_drop]
      have hS : ((b.drop (4 * t)).take 4).length = 4 := by simp; omega
      refine LoopJ.intro (I := []) (base' := 0) hX hm (by kernel_rfl) (σ := Nat) (fun i => [(1, bvs b), (2, .ptr 16 []), (4, .ptr 32 []), (5, .ptr 40 []), (19, .p (.i .i64 t)), (6, .p (.i .i64 t)), (28, bvs ((b.drop (4 * t)).take 4)), (29, .p (.i .i64 4)), (30, .p (.i .i64 i))])
        (fun i => [(16, .var (.p (hw h))), (32, .var (.p (.arr 8 wsh (List.replicate 8 (.i .u32 0))))), (40, .var (.p (.arr 64 wsh (wv (W b t ++ accP b t i :: List.replicate (63 - t) 0)))))]) (fun i => i ≤ 4) (fun i => 4 - i) 0 []
        (Nat.zero_le _) ⟨nofun, rfl, ⟨rfl, rfl, rfl, rfl, rfl, rfl, rfl, rfl, rfl, rfl, rfl, rfl, ?_, rfl, ?_, rfl, rfl, rfl, trivial⟩, ⟨rfl, rfl, rfl, rfl, ?_, rfl, trivial⟩⟩ ?_
      · show AV.ro ush _ = AV.ro ush _
        rw [eS]
      · show AV.p (.i .i64 ((List.take ((IntKind.i64.wrap (IntKind.i64.wrap (4 * (t : Int)) + 4)).toNat - (IntKind.i64.wrap (4 * (t : Int))).toNat) (List.drop (IntKind.i64.wrap (4 * (t : Int))).toNat (bv b))).length : Nat)) = AV.p (.i .i64 4)
        rw [eS, List.length_map, hS]
        rfl
      · show some (Blk.var (.p (.arr 64 wsh (wv (W b t ++ List.replicate (64 - t) 0))))) = some (Blk.var (.p (.arr 64 wsh (wv (W b t ++ 0 :: List.replicate (63 - t) 0)))))
        rw [show 64 - t = (63 - t) + 1 by omega, List.replicate_succ]
      · intro i hi
        have hW := W_length b t
        conv => whnf
        refine iteC (fun h2 => ?_) (fun h2 => ?_)
        · have h2 := of_decide_eq_true h2
          have hlt : i < ((b.drop (4 * t)).take 4).length := by omega
          have hg := getM (f := PV.i .u8) hlt
          have g2 := mid_get (x := accP b t i) (R := List.replicate (63 - t) 0) hW
          have g3 := mid_nth (x := accP b t i) (R := List.replicate (63 - t) 0) hW
          have g4 := mid_set (x := accP b t i) (v := accP b t (i + 1)) (R := List.replicate (63 - t) 0) hW
          have g5 : ((b.drop (4 * t)).take 4)[i] = b.getD (4 * t + i) 0 := by
            have : 4 * t + i < b.length := by omega
            simp [this]
          rw [g5] at hg
          conv => whnf
          iterate 6 (conv => arg 2; repeat (first | rw [hg] | rw [g2] | rw [g3] | (whnf; arg 2))
                     conv => whnf)
          refine ⟨i + 1, [], by omega, by dsimp only; omega, nofun, rfl, ⟨rfl, rfl, rfl, rfl, rfl, rfl, rfl, rfl, rfl, rfl, rfl, rfl, rfl, rfl, rfl, rfl, incN (by omega), rfl, trivial⟩, ⟨rfl, rfl, rfl, rfl, ?_, rfl, trivial⟩⟩
          show some (Blk.var (.p (.arr 64 wsh ((wv (W b t ++ accP b t i :: List.replicate (63 - t) 0)).set (t : Int).toNat (.i .u32 (accP b t (i + 1))))))) = some (Blk.var (.p (.arr 64 wsh (wv (W b t ++ accP b t (i + 1) :: List.replicate (63 - t) 0)))))
          rw [g4]
        · have h2 := of_decide_eq_false h2
          obtain rfl : i = 4 := by omega
          conv => whnf
          refine ⟨t + 1, [], by omega, by dsimp only; omega, nofun, rfl, ⟨rfl, rfl, rfl, rfl, rfl, rfl, rfl, rfl, incN (by omega), rfl, trivial⟩, ⟨rfl, rfl, rfl, rfl, ?_, rfl, trivial⟩⟩
          show some (Blk.var (.p (.arr 64 wsh (wv (W b t ++ accP b t 4 :: List.replicate (63 - t) 0))))) = some (Blk.var (.p (.arr 64 wsh (wv (W b (t + 1) ++ List.replicate (64 - (t + 1)) 0)))))
          rw [accP_4 hb, show 64 - (t + 1) = 63 - t by omega]
          rw [W_lt (by omega), List.append_assoc]
          rfl
    · have h1 := of_decide_eq_false h1
      obtain rfl : t = 16 := by omega
      conv => whnf
      refine LoopJ.intro (I := []) (base' := 0) hX hm (by kernel_rfl) (σ := Nat) (fun t => [(2, .ptr 16 []), (4, .ptr 32 []), (5, .ptr 40 []), (9, .p (.i .i64 t))])
        (fun t => [(16, .var (.p (hw h))), (32, .var (.p (.arr 8 wsh (List.replicate 8 (.i .u32 0))))), (40, .var (.p (.arr 64 wsh (wv (W b t ++ List.replicate (64 - t) 0)))))]) (fun t => 16 ≤ t ∧ t ≤ 64) (fun t => 64 - t) 16 []
        ⟨by omega, by omega⟩ ⟨nofun, rfl, ⟨rfl, rfl, rfl, rfl, rfl, rfl, rfl, rfl, trivial⟩, ⟨rfl, rfl, rfl, rfl, rfl, rfl, trivial⟩⟩ ?_
      intro t ht
      have hW := W_length b t
      conv => whnf
      refine iteC (fun h1 => ?_) (fun h1 => ?_)
      · have h1 := of_decide_eq_true h1
        have hR : List.replicate (64 - t) (0 : Int) = 0 :: List.replicate (63 - t) 0 := by rw [show 64 - t = (63 - t) + 1 by omega, List.replicate_succ]
        rw [hR]
        have g15 : getI (wv (W b t ++ 0 :: List.replicate (63 - t) 0)) (IntKind.i64.wrap ((t : Int) - 15)) = some (PV.i .u32 ((W b t).getD (t - 15) 0)) := pre_get (k := 15) hW (by omega) (by omega) (by omega)
        have g2 : getI (wv (W b t ++ 0 :: List.replicate (63 - t) 0)) (IntKind.i64.wrap ((t : Int) - 2)) = some (PV.i .u32 ((W b t).getD (t - 2) 0)) := pre_get (k := 2) hW (by omega) (by omega) (by omega)
        have g16 : getI (wv (W b t ++ 0 :: List.replicate (63 - t) 0)) (IntKind.i64.wrap ((t : Int) - 16)) = some (PV.i .u32 ((W b t).getD (t - 16) 0)) := pre_get (k := 16) hW (by omega) (by omega) (by omega)
        have g7 : getI (wv (W b t ++ 0 :: List.replicate (63 - t) 0)) (IntKind.i64.wrap ((t : Int) - 7)) = some (PV.i .u32 ((W b t).getD (t - 7) 0)) := pre_get (k := 7) hW (by omega) (by omega) (by omega)
        have n15 : (wv (W b t ++ 0 :: List.replicate (63 - t) 0))[(IntKind.i64.wrap ((t : Int) - 15)).toNat]? = some (PV.i .u32 ((W b t).getD (t - 15) 0)) := pre_nth (k := 15) hW (by omega) (by omega) (by omega)
        have n2 : (wv (W b t ++ 0 :: List.replicate (63 - t) 0))[(IntKind.i64.wrap ((t : Int) - 2)).toNat]? = some (PV.i .u32 ((W b t).getD (t - 2) 0)) := pre_nth (k := 2) hW (by omega) (by omega) (by omega)
        have n16 : (wv (W b t ++ 0 :: List.replicate (63 - t) 0))[(IntKind.i64.wrap ((t : Int) - 16)).toNat]? = some (PV.i .u32 ((W b t).getD (t - 16) 0)) := pre_nth (k := 16) hW (by omega) (by omega) (by omega)
        have n7 : (wv (W b t ++ 0 :: List.replicate (63 - t) 0))[(IntKind.i64.wrap ((t : Int) - 7)).toNat]? = some (PV.i .u32 ((W b t).getD (t - 7) 0)) := pre_nth (k := 7) hW (by omega) (by omega) (by omega)
        have m1 := mid_get (x := 0) (R := List.replicate (63 - t) 0) hW
        have m2 := mid_nth (x := 0) (R := List.replicate (63 - t) 0) hW
        have m3 := mid_set (x := 0) (v := nxt (W b t) t) (R := List.replicate (63 - t) 0) hW
        conv => whnf
        iterate 8 (conv => arg 2; repeat (first | rw [g15] | rw [g2] | rw [g16] | rw [g7] | rw [n15] | rw [n2] | rw [n16] | rw [n7] | (whnf; arg 2))
                   conv => whnf)
        have cA := f103_ok ((W b t).getD (t - 15) 0) [7, 18] (by decide)
        have cB := f103_ok ((W b t).getD (t - 2) 0) [17, 19] (by decide)
        rw [turns_a] at cA
        rw [turns_b] at cB
        refine ⟨_, cA, ?_⟩
        conv => whnf
        refine ⟨_, cB, ?_⟩
        conv => whnf
        iterate 3 (conv => arg 2; repeat (first | rw [m1] | rw [m2] | (whnf; arg 2))
                   conv => whnf)
        refine ⟨t + 1, [], ⟨by omega, by omega⟩, by dsimp only; omega, nofun, rfl, ⟨rfl, rfl, rfl, rfl, rfl, rfl, incN (by omega), rfl, trivial⟩, ⟨rfl, rfl, rfl, rfl, ?_, rfl, trivial⟩⟩
        show some (Blk.var (.p (.arr 64 wsh ((wv (W b t ++ 0 :: List.replicate (63 - t) 0)).set (t : Int).toNat (.i .u32 (nxt (W b t) t)))))) = some (Blk.var (.p (.arr 64 wsh (wv (W b (t + 1) ++ List.replicate (64 - (t + 1)) 0)))))
        rw [m3, W_ge (by omega), List.append_assoc, show 64 - (t + 1) = 63 - t by omega]
        rfl
      · have h1 := of_decide_eq_false h1
        obtain rfl : t = 64 := by omega
        conv => whnf
        have eT : takeV h b = h.plus (Rn h (W b 64) 64) := rfl
        rw [eT]
        generalize W b 64 = w at *
        refine LoopJ.intro (I := []) (base' := 0) hX hm (by kernel_rfl) (σ := Nat) (fun t => [(2, .ptr 16 []), (4, .ptr 32 []), (5, .ptr 40 []), (12, .ptr 96 []), (83, .p (.i .i64 t))])
          (fun t => [(16, .var (.p (hw h))), (32, .var (.p (.arr 8 wsh (List.replicate 8 (.i .u32 0))))), (40, .var (.p (.arr 64 wsh (wv (w ++ List.replicate (64 - 64) 0))))), (96, .var (.p (hw (Rn h (w) t))))]) (fun t => t ≤ 64) (fun t => 64 - t) 0 []
          (Nat.zero_le _) ⟨nofun, rfl, ⟨rfl, rfl, rfl, rfl, rfl, rfl, rfl, rfl, rfl, rfl, trivial⟩, ⟨rfl, rfl, rfl, rfl, rfl, rfl, rfl, rfl, trivial⟩⟩ ?_
        intro t ht
        conv => whnf
        refine iteC (fun h1 => ?_) (fun h1 => ?_)
        · have h1 := of_decide_eq_true h1
          have hlt : t < (w ++ List.replicate (64 - 64) 0).length := by simp [hW]; omega
          have gw : getI (wv (w ++ List.replicate (64 - 64) 0)) (t : Int) = some (PV.i .u32 ((w).getD t 0)) := by
            rw [getM (f := PV.i .u32) hlt]
            have : t < (w).length := by omega
            simp [this]
          have nw : (wv (w ++ List.replicate (64 - 64) 0))[(t : Int).toNat]? = some (PV.i .u32 ((w).getD t 0)) := by
            rw [nthM (f := PV.i .u32) hlt]
            have : t < (w).length := by omega
            simp [this]
          have gk : getI (wv constsL) (t : Int) = some (PV.i .u32 (constsL.getD t 0)) := by
            have hc : t < constsL.length := by have : constsL.length = 64 := rfl; omega
            rw [getM (f := PV.i .u32) hc]
            simp [hc]
          generalize hV : Rn h (w) t = v
          have cC := f103_ok v.e [6, 11, 25] (by decide)
          have cD := f103_ok v.a [2, 13, 22] (by decide)
          rw [turns_c] at cC
          rw [turns_d] at cD
          conv => whnf
          refine ⟨_, cC, ?_⟩
          conv => whnf
          iterate 3 (conv => arg 2; repeat (first | rw [gk] | rw [gw] | rw [nw] | (whnf; arg 2))
                     conv => whnf)
          refine ⟨_, cD, ?_⟩
          conv => whnf
          refine ⟨t + 1, [], by omega, by dsimp only; omega, nofun, rfl, ⟨rfl, rfl, rfl, rfl, rfl, rfl, rfl, rfl, incN (by omega), rfl, trivial⟩, ⟨rfl, rfl, rfl, rfl, rfl, rfl, ?_, rfl, trivial⟩⟩
          show _ = some (Blk.var (.p (hw (rnd (Rn h (w) t) (constsL.getD t 0) ((w).getD t 0)))))
          rw [hV]
          rfl
        · have h1 := of_decide_eq_false h1
          obtain rfl : t = 64 := by omega
          generalize Rn h w 64 = v
          conv => whnf
          iterate 8 (refine LoopJ.unroll (I := []) (base' := 0) hX hm (by kernel_rfl) ?_
                     conv => whnf
                     refine iteT rfl ?_
                     conv => whnf)
          refine LoopJ.unroll (I := []) (base' := 0) hX hm (by kernel_rfl) ?_
          conv => whnf
          refine iteF rfl ?_
          rfl
end Go.Proofs.YtipmkjfbdflneaaDoor.AM
