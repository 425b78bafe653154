/- Sha: the program takes in a block. -/
import Derived.Test.YtgdpmnkmllelmaaShaA
namespace Go.Proofs.Ytgdpmnkmllelmaa.AM
open Go Go.Proofs
set_option maxRecDepth 100000

theorem byt_getD {b : List Int} (hb : byt b) (i : Nat) : 0 ≤ b.getD i 0 ∧ b.getD i 0 < 256 := by
  rw [List.getD_eq_getElem?_getD]
  cases h : b[i]? with
  | none => exact ⟨by decide, by decide⟩
  | some x => exact hb x (List.mem_of_getElem? h)
def accP (b : List Int) (t : Nat) : Nat → Int
  | 0 => 0
  | i + 1 => o32 (sl32 (accP b t i) 8) (IntKind.u32.wrap (b.getD (4 * t + i) 0))
theorem accP_4 {b : List Int} (hb : byt b) (t : Nat) : accP b t 4 = wordN b t := by
  have h0 := byt_getD hb (4 * t + 0)
  have h1 := byt_getD hb (4 * t + 1)
  have h2 := byt_getD hb (4 * t + 2)
  have h3 := byt_getD hb (4 * t + 3)
  have e1 : accP b t 1 = b.getD (4 * t + 0) 0 := by
    show o32 (sl32 0 8) _ = _
    rw [or_step32 (by omega) (by omega) h0.1 h0.2]
    omega
  have e2 : accP b t 2 = 256 * b.getD (4 * t + 0) 0 + b.getD (4 * t + 1) 0 := by
    show o32 (sl32 (accP b t 1) 8) _ = _
    rw [e1, or_step32 (by omega) (by omega) h1.1 h1.2]
  have e3 : accP b t 3 = 256 * (256 * b.getD (4 * t + 0) 0 + b.getD (4 * t + 1) 0) + b.getD (4 * t + 2) 0 := by
    show o32 (sl32 (accP b t 2) 8) _ = _
    rw [e2, or_step32 (by omega) (by omega) h2.1 h2.2]
  show o32 (sl32 (accP b t 3) 8) _ = _
  rw [e3, or_step32 (by omega) (by omega) h3.1 h3.2]
  unfold wordN
  rw [show 4 * t + 0 = 4 * t from rfl]
  omega
theorem mid_get {L R : List Int} {x : Int} {t : Nat} (h : L.length = t) : getI (wv (L ++ x :: R)) (t : Int) = some (PV.i .u32 x) := by
  rw [getM (f := PV.i .u32) (l := L ++ x :: R) (i := t) (by simp; omega)]
  subst h
  simp
theorem mid_nth {L R : List Int} {x : Int} {t : Nat} (h : L.length = t) : (wv (L ++ x :: R))[(t : Int).toNat]? = some (PV.i .u32 x) := by
  rw [nthM (f := PV.i .u32) (l := L ++ x :: R) (i := t) (by simp; omega)]
  subst h
  simp
theorem mid_set {L R : List Int} {x v : Int} {t : Nat} (h : L.length = t) : (wv (L ++ x :: R)).set (t : Int).toNat (PV.i .u32 v) = wv (L ++ v :: R) := by
  subst h
  simp
theorem pre_get {L R : List Int} {t k : Nat} (h : L.length = t) (hk : k ≤ t) (hk1 : 1 ≤ k) (ht : t < 1000) : getI (wv (L ++ R)) (IntKind.i64.wrap ((t : Int) - (k : Int))) = some (PV.i .u32 (L.getD (t - k) 0)) := by
  rw [wr_i64 (by omega) (by omega), show ((t : Int) - (k : Int)) = ((t - k : Nat) : Int) by omega, getM (f := PV.i .u32) (l := L ++ R) (i := t - k) (by simp; omega)]
  have : t - k < L.length := by omega
  simp [this]
theorem pre_nth {L R : List Int} {t k : Nat} (h : L.length = t) (hk : k ≤ t) (hk1 : 1 ≤ k) (ht : t < 1000) : (wv (L ++ R))[(IntKind.i64.wrap ((t : Int) - (k : Int))).toNat]? = some (PV.i .u32 (L.getD (t - k) 0)) := by
  rw [wr_i64 (by omega) (by omega), show ((t : Int) - (k : Int)) = ((t - k : Nat) : Int) by omega, nthM (f := PV.i .u32) (l := L ++ R) (i := t - k) (by simp; omega)]
  have : t - k < L.length := by omega
  simp [this]
theorem W_lt {b : List Int} {t : Nat} (h : t < 16) : W b (t + 1) = W b t ++ [wordN b t] := by
  show W b t ++ [if t < 16 then wordN b t else nxt (W b t) t] = _
  rw [if_pos h]
theorem W_ge {b : List Int} {t : Nat} (h : 16 ≤ t) : W b (t + 1) = W b t ++ [nxt (W b t) t] := by
  show W b t ++ [if t < 16 then wordN b t else nxt (W b t) t] = _
  rw [if_neg (by omega)]
theorem W_get (b : List Int) {t n : Nat} (h : t < n) : (W b n).getD t 0 = (W b (t + 1)).getD t 0 := by
  induction n with
  | zero => omega
  | succ n ih =>
    by_cases he : t = n
    · rw [he]
    · rw [← ih (by omega)]
      have := W_length b n
      show (W b n ++ [_]).getD t 0 = _
      have ht : t < (W b n).length := by omega
      simp [List.getD, List.getElem?_append_left ht]
end Go.Proofs.Ytgdpmnkmllelmaa.AM
