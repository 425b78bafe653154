/- Sha: the exported functions and the reference's. -/
import Derived.Test.YtipmkjfbdflneaaDoorShaG
namespace Go.Proofs.YtipmkjfbdflneaaDoor.AM
open Go Go.Proofs
set_option maxRecDepth 100000

def ofB (b : List Int) : List Int := digestV (afterV first (b ++ padL b.length))
theorem blk_le (h : V8) {x : List Int} (y : List Int) {k : Nat} (hk : 64 * k ≤ x.length) : blk h (x ++ y) k = blk h x k := by
  induction k with
  | zero => rfl
  | succ k ih =>
    show takeV (blk h (x ++ y) k) (((x ++ y).drop (64 * k)).take 64) = takeV (blk h x k) ((x.drop (64 * k)).take 64)
    rw [ih (by omega), List.drop_append_of_le_length (by omega), List.take_append_of_le_length (by simp; omega)]
theorem blk_add (h : V8) (x : List Int) (k j : Nat) : blk h x (k + j) = blk (blk h x k) (x.drop (64 * k)) j := by
  induction j with
  | zero => rfl
  | succ j ih =>
    show takeV (blk h x (k + j)) ((x.drop (64 * (k + j))).take 64) = takeV (blk (blk h x k) (x.drop (64 * k)) j) (((x.drop (64 * k)).drop (64 * j)).take 64)
    rw [ih, List.drop_drop, show 64 * (k + j) = 64 * k + 64 * j by omega]
theorem after_append (h : V8) (x y : List Int) : afterV (afterV h x) (x.drop (64 * (x.length / 64)) ++ y) = afterV h (x ++ y) := by
  have e : (x ++ y).length / 64 = x.length / 64 + (x.drop (64 * (x.length / 64)) ++ y).length / 64 := by simp; omega
  unfold afterV
  rw [e, blk_add, blk_le h y (by omega), List.drop_append_of_le_length (by omega)]
theorem after_blocks (h : V8) (x y : List Int) (hx : x.length % 64 = 0) : afterV (afterV h x) y = afterV h (x ++ y) := by
  rw [← after_append, List.drop_eq_nil_of_le (by omega), List.nil_append]
theorem after_nil (h : V8) : afterV h [] = h := rfl
theorem finish_write (h : Hs) (b : List Int) (n : Nat) : finishH (writeH h b) n = digestV (afterV h.w (h.r ++ b ++ padL n)) := by
  unfold finishH writeH
  dsimp only
  rw [after_append]
theorem finish_of (b : List Int) : finishH (writeH ⟨first, [], 0⟩ b) b.length = ofB b := by
  rw [finish_write]
  rfl
def sumE (b : List Int) : Int := if b.length > 128000 then 4 else 0
def sumD (b : List Int) : List Int := if b.length > 128000 then zd else ofB b
theorem wr_byt (h : Hs) {b : List Int} (hr : byt h.r) (hb : byt b) : byt (writeH h b).r := byt_drop (byt_append hr hb) _
theorem wr_len (h : Hs) (b : List Int) : (writeH h b).r.length < 64 := by simp [writeH]; omega
theorem f72_ok (b : List Int) (hb : byt b) : Fn Tryd.prog X.G 72 [bvs b] (.tup [.p (dv (sumD b)), .p (.i .i64 (sumE b))]) := by
  refine Fn.intro (I := []) hX hm 0 Tryd.func72 rfl rfl (by kernel_rfl) rfl ?_
  conv => whnf
  refine iteC (fun h => ?_) (fun h => ?_)
  · have h := of_decide_eq_true h
    rw [List.length_map] at h
    rw [show sumD b = zd from by unfold sumD; rw [if_pos (by omega)], show sumE b = 4 from by unfold sumE; rw [if_pos (by omega)]]
    rfl
  · have h := of_decide_eq_false h
    rw [List.length_map] at h
    rw [show sumD b = ofB b from by unfold sumD; rw [if_neg (by omega)], show sumE b = 0 from by unfold sumE; rw [if_neg (by omega)], ← finish_of]
    have cw := f92_ok ⟨first, [], 0⟩ b (fun x hx => by simp at hx) hb (by simp) (by omega)
    have hl := wr_len ⟨first, [], 0⟩ b
    have cf := f91_ok (writeH ⟨first, [], 0⟩ b) b.length (by simp only [writeH]; rw [wr_i64 (by omega) (by omega)]; omega) (by omega) (wr_byt _ (fun x hx => by simp at hx) hb) (by omega)
    generalize writeH ⟨first, [], 0⟩ b = g at *
    generalize finishH g b.length = d at *
    conv => whnf
    refine ⟨_, f93_ok, ?_⟩
    conv => whnf
    refine ⟨_, cw, ?_⟩
    conv => whnf
    refine ⟨_, cf, ?_⟩
    rfl
def padE (n : Int) : Int := if n < 0 ∨ n > 128000 then 2 else 0
def padP (n : Int) : List Int := if n < 0 ∨ n > 128000 then [] else padL n.toNat
def z8 : V8 := ⟨0, 0, 0, 0, 0, 0, 0, 0⟩
def blkE (b : List Int) : Int := if b.length = 64 then 0 else 2
def blkV (v : V8) (b : List Int) : V8 := if b.length = 64 then takeV v b else z8
end Go.Proofs.YtipmkjfbdflneaaDoor.AM
