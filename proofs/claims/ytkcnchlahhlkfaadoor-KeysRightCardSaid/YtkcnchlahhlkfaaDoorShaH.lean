/- Sha: the exported functions and the reference's. -/
import Derived.Test.YtkcnchlahhlkfaaDoorShaG
namespace Go.Proofs.YtkcnchlahhlkfaaDoor.AM
open Go Go.Proofs
set_option maxRecDepth 100000

set_option maxHeartbeats 4000000 in
theorem f135_ok (n : Nat) (hn : n ≤ 200000) : Fn Tryd.prog X.G 135 [.p (.i .i64 n)] (bvs (padL n)) := by
  refine Fn.intro (I := []) hX hm 0 Tryd.func135 rfl rfl (by kernel_rfl) rfl ?_
  have hz : zerosN n = (119 - n % 64) % 64 := rfl
  have hz2 := zeros_lt n
  have eN : IntKind.u64.wrap (8 * IntKind.u64.wrap (n : Int)) = ((8 * n : Nat) : Int) := by
    rw [wrU n (by omega), show (8 * (n : Int)) = ((8 * n : Nat) : Int) by omega, wrU _ (by omega)]
  conv => whnf
  refine LoopJ.intro (I := []) (base' := 0) hX hm (by kernel_rfl) (σ := Nat) (fun k => [(0, .p (.i .i64 n)), (3, .own 1000)])
    (fun k => [(1000, .els true ush (bv (128 :: List.replicate k 0)))]) (fun k => k ≤ zerosN n) (fun k => zerosN n - k) 0 [(1000, 40)]
    (Nat.zero_le _) ⟨nofun, rfl, ⟨rfl, rfl, rfl, rfl, trivial⟩, ⟨rfl, rfl, trivial⟩⟩ ?_
  intro k hk
  have e1 : (IntKind.i64.wrap (IntKind.i64.wrap ((n : Int) + ((bv (128 :: List.replicate k 0)).length : Int)) + 8)).tmod 64 = (((n + k + 9) % 64 : Nat) : Int) := by
    rw [List.length_map, List.length_cons, List.length_replicate, wr_i64 (n := (n : Int) + ((k + 1 : Nat) : Int)) (by omega) (by omega), wr_i64 (by omega) (by omega),
      show ((n : Int) + ((k + 1 : Nat) : Int) + 8) = ((n + k + 9 : Nat) : Int) by omega]
    rfl
  conv => whnf
  refine iteC (fun h => ?_) (fun h => ?_)
  · rw [e1] at h
    have h : (n + k + 9) % 64 ≠ 0 := by simp at h; omega
    conv => whnf
    conv => arg 2; repeat (first | rw [capN _ (by simp; omega)] | (whnf; arg 2))
    conv => whnf
    refine ⟨k + 1, [(1000, 120)], by omega, by dsimp only; omega, nofun, rfl, ⟨rfl, rfl, rfl, rfl, trivial⟩, ⟨?_, rfl, trivial⟩⟩
    show some (Blk.els true ush (bv (128 :: List.replicate k 0) ++ [PV.i .u8 0])) = some (Blk.els true ush (bv (128 :: List.replicate (k + 1) 0)))
    rw [List.replicate_succ', ← bv_snoc]
    rfl
  · rw [e1] at h
    have h : (n + k + 9) % 64 = 0 := by simp at h; omega
    obtain rfl : k = zerosN n := by omega
    conv => whnf
    refine LoopJ.intro (I := []) (base' := 0) hX hm (by kernel_rfl) (σ := Nat) (fun i => [(0, .p (.i .i64 n)), (3, .own 1000), (4, .p (.i .i64 (7 - (i : Int))))])
      (fun i => [(1000, .els true ush (bv (128 :: (List.replicate (zerosN n) 0 ++ (bytesU ((8 * n : Nat) : Int) 8).take i))))]) (fun i => i ≤ 8) (fun i => 8 - i) 0 []
      (Nat.zero_le _) ⟨nofun, rfl, ⟨rfl, rfl, rfl, rfl, rfl, rfl, trivial⟩, ⟨?_, rfl, trivial⟩⟩ ?_
    · show some (Blk.els true ush (bv (128 :: List.replicate (zerosN n) 0))) = some (Blk.els true ush (bv (128 :: (List.replicate (zerosN n) 0 ++ []))))
      rw [List.append_nil]
    intro i hi
    conv => whnf
    refine iteC (fun h => ?_) (fun h => ?_)
    · have h := of_decide_eq_true h
      have h : (7 : Int) - i ≥ 0 := h
      have e2 : IntKind.i64.wrap (8 * (7 - (i : Int))) = ((8 * (8 - 1 - i) : Nat) : Int) := by
        rw [wr_i64 (by omega) (by omega)]
        omega
      have h2 : ¬ IntKind.i64.wrap (8 * (7 - (i : Int))) < 0 := by rw [e2]; omega
      have d2 := decide_eq_false h2
      conv => whnf
      conv => arg 2; repeat (first | rw [d2] | rw [ltF h2] | (whnf; arg 2))
      conv => whnf
      conv => arg 2; repeat (first | rw [capN _ (by simp [bytesU_length]; omega)] | (whnf; arg 2))
      conv => whnf
      refine ⟨i + 1, [(1000, 232)], by omega, by dsimp only; omega, nofun, rfl, ⟨rfl, rfl, rfl, rfl, ?_, rfl, trivial⟩, ⟨?_, rfl, trivial⟩⟩
      · show AV.p (.i .i64 (IntKind.i64.wrap (7 - (i : Int) - 1))) = AV.p (.i .i64 (7 - ((i + 1 : Nat) : Int)))
        rw [wr_i64 (by omega) (by omega), show (7 : Int) - i - 1 = 7 - ((i + 1 : Nat) : Int) by omega]
      rw [bytesU_step _ (by omega)]
      show some (Blk.els true ush (bv (128 :: (List.replicate (zerosN n) 0 ++ (bytesU ((8 * n : Nat) : Int) 8).take i)) ++ [PV.i .u8 (IntKind.u8.wrap ((IntKind.u64.wrap (8 * IntKind.u64.wrap (n : Int))).fdiv (2 ^ (min (IntKind.i64.wrap (8 * (7 - (i : Int)))).toNat IntKind.u64.bits))))])) = _
      rw [eN, e2, ← bv_snoc, List.cons_append, List.append_assoc]
      rfl
    · have h := of_decide_eq_false h
      have h : ¬ (7 : Int) - i ≥ 0 := h
      obtain rfl : i = 8 := by omega
      rfl
def ofB (b : List Int) : List Int := digestV (afterV first (b ++ padL b.length))
theorem f111_ok (b : List Int) (hb : byt b) (lb : b.length ≤ 200000) : Fn Tryd.prog X.G 111 [bvs b] (.p (dv (ofB b))) := by
  refine Fn.intro (I := []) hX hm 0 Tryd.func111 rfl rfl (by kernel_rfl) rfl ?_
  unfold ofB
  have hz := zeros_lt b.length
  have hp := padL_length b.length
  have cp := f135_ok b.length lb
  have ca := f133_ok first (b ++ padL b.length) (byt_append hb (padL_byt _)) (by simp; omega)
  have cd := f132_ok (afterV first (b ++ padL b.length))
  rw [show bvs (b ++ padL b.length) = .ro ush (bv b ++ bv (padL b.length)) from by rw [← bv_app]] at ca
  generalize afterV first (b ++ padL b.length) = g at *
  generalize padL b.length = pl at *
  rw [show (b.length : Int) = ((bv b).length : Int) by simp] at cp
  conv => whnf
  refine ⟨_, f134_ok, ?_⟩
  conv => whnf
  conv => arg 2; repeat (first | rw [capN _ (by simp; omega)] | (whnf; arg 2))
  conv => whnf
  refine ⟨_, cp, ?_⟩
  conv => whnf
  conv => arg 2; repeat (first | rw [capN _ (by simp; omega)] | (whnf; arg 2))
  conv => whnf
  refine ⟨_, ca, ?_⟩
  conv => whnf
  refine ⟨_, cd, ?_⟩
  rfl
theorem blk_le (h : V8) {x : List Int} (y : List Int) {k : Nat} (hk : 64 * k ≤ x.length) : blk h (x ++ y) k = blk h x k := by
  induction k with
  | zero => rfl
  | succ k ih =>
    show takeV (blk h (x ++ y) k) (((x ++ y).drop (64 * k)).take 64) = takeV (blk h x k) ((x.drop (64 * k)).take 64)
    rw [ih (by omega), List.drop_append_of_le_length (by omega), List.take_append_of_le_length (by simp; omega)]
theorem blk_add (h : V8) (x : List Int) (k j : Nat) : blk h x (k + j) = blk (blk h x k) (x.drop (64 * k)) j := by
  induction j with
  | zero => rfl
  | succ j ih =>
    show takeV (blk h x (k + j)) ((x.drop (64 * (k + j))).take 64) = takeV (blk (blk h x k) (x.drop (64 * k)) j) (((x.drop (64 * k)).drop (64 * j)).take 64)
    rw [ih, List.drop_drop, show 64 * (k + j) = 64 * k + 64 * j by omega]
theorem after_append (h : V8) (x y : List Int) : afterV (afterV h x) (x.drop (64 * (x.length / 64)) ++ y) = afterV h (x ++ y) := by
  have e : (x ++ y).length / 64 = x.length / 64 + (x.drop (64 * (x.length / 64)) ++ y).length / 64 := by simp; omega
  unfold afterV
  rw [e, blk_add, blk_le h y (by omega), List.drop_append_of_le_length (by omega)]
theorem after_blocks (h : V8) (x y : List Int) (hx : x.length % 64 = 0) : afterV (afterV h x) y = afterV h (x ++ y) := by
  rw [← after_append, List.drop_eq_nil_of_le (by omega), List.nil_append]
theorem after_nil (h : V8) : afterV h [] = h := rfl
theorem finish_write (h : Hs) (b : List Int) (n : Nat) : finishH (writeH h b) n = digestV (afterV h.w (h.r ++ b ++ padL n)) := by
  unfold finishH writeH
  dsimp only
  rw [after_append]
theorem finish_of (b : List Int) : finishH (writeH ⟨first, [], 0⟩ b) b.length = ofB b := by
  rw [finish_write]
  rfl
def sumE (b : List Int) : Int := if b.length > 128000 then 4 else 0
def sumD (b : List Int) : List Int := if b.length > 128000 then zd else ofB b
theorem wr_byt (h : Hs) {b : List Int} (hr : byt h.r) (hb : byt b) : byt (writeH h b).r := byt_drop (byt_append hr hb) _
theorem wr_len (h : Hs) (b : List Int) : (writeH h b).r.length < 64 := by simp [writeH]; omega
theorem f108_ok (b : List Int) (hb : byt b) : Fn Tryd.prog X.G 108 [bvs b] (.tup [.p (dv (sumD b)), .p (.i .i64 (sumE b))]) := by
  refine Fn.intro (I := []) hX hm 0 Tryd.func108 rfl rfl (by kernel_rfl) rfl ?_
  conv => whnf
  refine iteC (fun h => ?_) (fun h => ?_)
  · have h := of_decide_eq_true h
    rw [List.length_map] at h
    rw [show sumD b = zd from by unfold sumD; rw [if_pos (by omega)], show sumE b = 4 from by unfold sumE; rw [if_pos (by omega)]]
    rfl
  · have h := of_decide_eq_false h
    rw [List.length_map] at h
    rw [show sumD b = ofB b from by unfold sumD; rw [if_neg (by omega)], show sumE b = 0 from by unfold sumE; rw [if_neg (by omega)], ← finish_of]
    have cw := f130_ok ⟨first, [], 0⟩ b (fun x hx => by simp at hx) hb (by simp) (by omega)
    have hl := wr_len ⟨first, [], 0⟩ b
    have cf := f129_ok (writeH ⟨first, [], 0⟩ b) b.length (by simp only [writeH]; rw [wr_i64 (by omega) (by omega)]; omega) (by omega) (wr_byt _ (fun x hx => by simp at hx) hb) (by omega)
    generalize writeH ⟨first, [], 0⟩ b = g at *
    generalize finishH g b.length = d at *
    conv => whnf
    refine ⟨_, f131_ok, ?_⟩
    conv => whnf
    refine ⟨_, cw, ?_⟩
    conv => whnf
    refine ⟨_, cf, ?_⟩
    rfl
def padE (n : Int) : Int := if n < 0 ∨ n > 128000 then 2 else 0
def padP (n : Int) : List Int := if n < 0 ∨ n > 128000 then [] else padL n.toNat
def z8 : V8 := ⟨0, 0, 0, 0, 0, 0, 0, 0⟩
def blkE (b : List Int) : Int := if b.length = 64 then 0 else 2
def blkV (v : V8) (b : List Int) : V8 := if b.length = 64 then takeV v b else z8
end Go.Proofs.YtkcnchlahhlkfaaDoor.AM
