/- Ported by name: FieldB. -/
import Derived.Test.YtgdpmnkmllelmaapFieldA
namespace Go.Proofs.Ytgdpmnkmllelmaa.AM
open Go Go.Proofs
set_option maxRecDepth 100000
theorem byteU_nat (m i : Nat) (hi : i ≤ 8) : byteU (m : Int) (8 * i) = ((m / 256 ^ i % 256 : Nat) : Int) := by
  unfold byteU
  have h1 : min (8 * (i : Int)).toNat 64 = 8 * i := by omega
  have h2 : (256 : Nat) ^ i = 2 ^ (8 * i) := by rw [Nat.pow_mul]
  have h3 : (2 : Int) ^ (8 * i) = ((2 ^ (8 * i) : Nat) : Int) := by norm_cast
  rw [h1, h2, h3]
  rw [Int.fdiv_eq_ediv_of_nonneg _ (Int.natCast_nonneg _), ← Int.natCast_ediv, ← h2]
  simp [IntKind.wrap, IntKind.signed, IntKind.bits]
theorem pow8 (w : Nat) (h : w ≤ 8) : (256 : Nat) ^ w ≤ 18446744073709551616 := by
  have := Nat.pow_le_pow_right (n := 256) (by omega) h
  simpa using this
theorem numB_fold (m : Nat) : ∀ (w a : Nat), w ≤ 8 → a < 256 ^ (8 - w) →
    (bytesU m w).foldl (fun n x => IntKind.u64.wrap (IntKind.u64.wrap (256 * n) + IntKind.u64.wrap x)) (a : Int) = ((a * 256 ^ w + m % 256 ^ w : Nat) : Int)
  | 0, a, _, _ => by simp [bytesU, Nat.mod_one]
  | w + 1, a, hw, ha => by
    have e : (256 : Nat) ^ (8 - w) = 256 * 256 ^ (8 - (w + 1)) := by
      rw [show 8 - w = (8 - (w + 1)) + 1 by omega, Nat.pow_succ]
      omega
    have p := pow8 (8 - w) (by omega)
    have b : m / 256 ^ w % 256 < 256 := Nat.mod_lt _ (by omega)
    simp only [bytesU, List.foldl_cons]
    rw [byteU_nat m w (by omega)]
    generalize hx : m / 256 ^ w % 256 = x at *
    rw [wr_u64 (n := 256 * (a : Int)) (by omega) (by omega), wr_u64 (n := (x : Int)) (by omega) (by omega), wr_u64 (by omega) (by omega)]
    rw [show (256 * (a : Int) + (x : Int)) = ((256 * a + x : Nat) : Int) by simp]
    rw [numB_fold m w _ (by omega) (by omega)]
    rw [Nat.pow_succ, Nat.mod_mul]
    rw [hx]
    congr 1
    generalize 256 ^ w = y at *
    rw [Nat.add_mul, Nat.mul_comm 256 a, Nat.mul_assoc, Nat.mul_comm 256 y, Nat.mul_comm x y]
    omega
theorem numB_bytesU (m w : Nat) (hw : w ≤ 8) : numB (bytesU m w) = ((m % 256 ^ w : Nat) : Int) := by
  have := numB_fold m w 0 hw (Nat.pos_of_ne_zero (by simp))
  simpa [numB] using this
theorem num_ne {n : Int} (w : Nat) (hw : w ≤ 8) (h0 : 0 ≤ n) : (numB (bytesU n w) != n) = decide (n > (256 ^ w : Nat) - 1) := by
  obtain ⟨m, rfl⟩ := Int.eq_ofNat_of_zero_le h0
  have := numB_bytesU m w hw
  rw [show ((m : Nat) : Int) = Int.ofNat m from rfl] at this ⊢
  rw [this]
  have p : 0 < 256 ^ w := Nat.pos_of_ne_zero (by simp)
  generalize (256 : Nat) ^ w = y at *
  by_cases h : m < y
  · rw [Nat.mod_eq_of_lt h]
    simp
    omega
  · have := Nat.mod_lt m p
    have h1 : ((m % y : Nat) : Int) ≠ Int.ofNat m := by
      intro e
      have : m % y = m := Int.ofNat.inj e
      omega
    rw [decide_eq_true (by simp; omega)]
    simpa using h1
theorem widK_le (k : Int) : (widK k).toNat ≤ 32 := by
  unfold widK
  repeat' split
  all_goals decide
theorem widK_le8 {k : Int} (h : k ≠ 6) : (widK k).toNat ≤ 8 := by
  unfold widK
  rw [if_neg h]
  repeat' split
  all_goals decide
end Go.Proofs.Ytgdpmnkmllelmaa.AM
