/- Sha: the exported functions and the reference's. -/
import Derived.Test.YtgdpmnkmllelmaaShaG
namespace Go.Proofs.Ytgdpmnkmllelmaa.AM
open Go Go.Proofs
set_option maxRecDepth 100000

def ofB (b : List Int) : List Int := digestV (afterV first (b ++ padL b.length))
theorem blk_le (h : V8) {x : List Int} (y : List Int) {k : Nat} (hk : 64 * k ≤ x.length) : blk h (x ++ y) k = blk h x k := by
  induction k with
  | zero => rfl
  | succ k ih =>
    show takeV (blk h (x ++ y) k) (((x ++ y).drop (64 * k)).take 64) = takeV (blk h x k) ((x.drop (64 * k)).take 64)
    rw [ih (by omega), List.drop_append_of_le_length (by omega), List.take_append_of_le_length (by simp; omega)]
theorem blk_add (h : V8) (x : List Int) (k j : Nat) : blk h x (k + j) = blk (blk h x k) (x.drop (64 * k)) j := by
  induction j with
  | zero => rfl
  | succ j ih =>
    show takeV (blk h x (k + j)) ((x.drop (64 * (k + j))).take 64) = takeV (blk (blk h x k) (x.drop (64 * k)) j) (((x.drop (64 * k)).drop (64 * j)).take 64)
    rw [ih, List.drop_drop, show 64 * (k + j) = 64 * k + 64 * j by omega]
theorem after_append (h : V8) (x y : List Int) : afterV (afterV h x) (x.drop (64 * (x.length / 64)) ++ y) = afterV h (x ++ y) := by
  have e : (x ++ y).length / 64 = x.length / 64 + (x.drop (64 * (x.length / 64)) ++ y).length / 64 := by simp; omega
  unfold afterV
  rw [e, blk_add, blk_le h y (by omega), List.drop_append_of_le_length (by omega)]
theorem after_blocks (h : V8) (x y : List Int) (hx : x.length % 64 = 0) : afterV (afterV h x) y = afterV h (x ++ y) := by
  rw [← after_append, List.drop_eq_nil_of_le (by omega), List.nil_append]
theorem after_nil (h : V8) : afterV h [] = h := rfl
theorem finish_write (h : Hs) (b : List Int) (n : Nat) : finishH (writeH h b) n = digestV (afterV h.w (h.r ++ b ++ padL n)) := by
  unfold finishH writeH
  dsimp only
  rw [after_append]
theorem finish_of (b : List Int) : finishH (writeH ⟨first, [], 0⟩ b) b.length = ofB b := by
  rw [finish_write]
  rfl
def sumE (b : List Int) : Int := if b.length > 128000 then 4 else 0
def sumD (b : List Int) : List Int := if b.length > 128000 then zd else ofB b
theorem wr_byt (h : Hs) {b : List Int} (hr : byt h.r) (hb : byt b) : byt (writeH h b).r := byt_drop (byt_append hr hb) _
theorem wr_len (h : Hs) (b : List Int) : (writeH h b).r.length < 64 := by simp [writeH]; omega
def padE (n : Int) : Int := if n < 0 ∨ n > 128000 then 2 else 0
def padP (n : Int) : List Int := if n < 0 ∨ n > 128000 then [] else padL n.toNat
def z8 : V8 := ⟨0, 0, 0, 0, 0, 0, 0, 0⟩
def blkE (b : List Int) : Int := if b.length = 64 then 0 else 2
def blkV (v : V8) (b : List Int) : V8 := if b.length = 64 then takeV v b else z8
end Go.Proofs.Ytgdpmnkmllelmaa.AM
