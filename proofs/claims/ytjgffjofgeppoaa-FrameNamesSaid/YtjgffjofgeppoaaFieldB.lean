/- Fields: a number's bytes and the number of bytes; the reference's check. -/
import Derived.Test.YtjgffjofgeppoaaFieldA
namespace Go.Proofs.Ytjgffjofgeppoaa.AM
open Go Go.Proofs
set_option maxRecDepth 100000
theorem byteU_nat (m i : Nat) (hi : i ≤ 8) : byteU (m : Int) (8 * i) = ((m / 256 ^ i % 256 : Nat) : Int) := by
  unfold byteU
  have h1 : min (8 * (i : Int)).toNat 64 = 8 * i := by omega
  have h2 : (256 : Nat) ^ i = 2 ^ (8 * i) := by rw [Nat.pow_mul]
  have h3 : (2 : Int) ^ (8 * i) = ((2 ^ (8 * i) : Nat) : Int) := by norm_cast
  rw [h1, h2, h3]
  rw [Int.fdiv_eq_ediv_of_nonneg _ (Int.natCast_nonneg _), ← Int.natCast_ediv, ← h2]
  simp [IntKind.wrap, IntKind.signed, IntKind.bits]
theorem pow8 (w : Nat) (h : w ≤ 8) : (256 : Nat) ^ w ≤ 18446744073709551616 := by
  have := Nat.pow_le_pow_right (n := 256) (by omega) h
  simpa using this
theorem numB_fold (m : Nat) : ∀ (w a : Nat), w ≤ 8 → a < 256 ^ (8 - w) →
    (bytesU m w).foldl (fun n x => IntKind.u64.wrap (IntKind.u64.wrap (256 * n) + IntKind.u64.wrap x)) (a : Int) = ((a * 256 ^ w + m % 256 ^ w : Nat) : Int)
  | 0, a, _, _ => by simp [bytesU, Nat.mod_one]
  | w + 1, a, hw, ha => by
    have e : (256 : Nat) ^ (8 - w) = 256 * 256 ^ (8 - (w + 1)) := by
      rw [show 8 - w = (8 - (w + 1)) + 1 by omega, Nat.pow_succ]
      omega
    have p := pow8 (8 - w) (by omega)
    have b : m / 256 ^ w % 256 < 256 := Nat.mod_lt _ (by omega)
    simp only [bytesU, List.foldl_cons]
    rw [byteU_nat m w (by omega)]
    generalize hx : m / 256 ^ w % 256 = x at *
    rw [wr_u64 (n := 256 * (a : Int)) (by omega) (by omega), wr_u64 (n := (x : Int)) (by omega) (by omega), wr_u64 (by omega) (by omega)]
    rw [show (256 * (a : Int) + (x : Int)) = ((256 * a + x : Nat) : Int) by simp]
    rw [numB_fold m w _ (by omega) (by omega)]
    rw [Nat.pow_succ, Nat.mod_mul]
    rw [hx]
    congr 1
    generalize 256 ^ w = y at *
    rw [Nat.add_mul, Nat.mul_comm 256 a, Nat.mul_assoc, Nat.mul_comm 256 y, Nat.mul_comm x y]
    omega
theorem numB_bytesU (m w : Nat) (hw : w ≤ 8) : numB (bytesU m w) = ((m % 256 ^ w : Nat) : Int) := by
  have := numB_fold m w 0 hw (Nat.pos_of_ne_zero (by simp))
  simpa [numB] using this
theorem num_ne {n : Int} (w : Nat) (hw : w ≤ 8) (h0 : 0 ≤ n) : (numB (bytesU n w) != n) = decide (n > (256 ^ w : Nat) - 1) := by
  obtain ⟨m, rfl⟩ := Int.eq_ofNat_of_zero_le h0
  have := numB_bytesU m w hw
  rw [show ((m : Nat) : Int) = Int.ofNat m from rfl] at this ⊢
  rw [this]
  have p : 0 < 256 ^ w := Nat.pos_of_ne_zero (by simp)
  generalize (256 : Nat) ^ w = y at *
  by_cases h : m < y
  · rw [Nat.mod_eq_of_lt h]
    simp
    omega
  · have := Nat.mod_lt m p
    have h1 : ((m % y : Nat) : Int) ≠ Int.ofNat m := by
      intro e
      have : m % y = m := Int.ofNat.inj e
      omega
    rw [decide_eq_true (by simp; omega)]
    simpa using h1
theorem widK_le (k : Int) : (widK k).toNat ≤ 32 := by
  unfold widK
  repeat' split
  all_goals decide
theorem widK_le8 {k : Int} (h : k ≠ 6) : (widK k).toNat ≤ 8 := by
  unfold widK
  rw [if_neg h]
  repeat' split
  all_goals decide
set_option maxHeartbeats 1000000 in
theorem f23_ok (f : Fd) (hf : f.ok) : Fn Try.prog X.G 23 [.p (fv f)] (.p (.i .i64 (chkF f))) := by
  refine Fn.intro (I := []) hX hm 0 Try.func23 rfl rfl (by kernel_rfl) rfl ?_
  obtain ⟨k, n, d⟩ := f
  have hk := hf.k.1
  have hn := hf.n.1
  have hn2 := hf.n.2
  dsimp only at hk hn hn2
  have c1 := f71_ok k
  have c2 := f73_ok n (widK k).toNat (widK_le k)
  have c3 := f72_ok (bytesU n (widK k).toNat) (by rw [bytesU_length]; have := widK_le k; omega)
  have hne : k ≠ 6 → (numB (bytesU n (widK k).toNat) != n) = decide (n > (256 ^ (widK k).toNat : Nat) - 1) := fun h6 => num_ne _ (widK_le8 h6) hn
  rcases kinds8 hk with rfl | rfl | rfl | rfl | rfl | rfl | rfl | rfl | h
  case inr.inr.inr.inr.inr.inr.inr.inr =>
    rw [widK_big h] at c1
    rw [show chkF ⟨k, n, d⟩ = 8 from by (simp [chkF, badF, widK_big h]; done)]
    conv => whnf
    refine ⟨_, c1, ?_⟩
    conv => whnf
    refine iteT rfl ?_
    rfl
  case inl =>
    conv => whnf
    refine ⟨_, c1, ?_⟩
    conv => whnf
    refine iteT rfl ?_
    rfl
  case inr.inr.inr.inr.inr.inr.inl =>
    conv => whnf
    refine ⟨_, c1, ?_⟩
    conv => whnf
    refine iteF rfl ?_
    conv => whnf
    refine iteT rfl ?_
    conv => whnf
    refine iteC (fun hh => ?_) (fun hh => ?_)
    · rw [show chkF ⟨6, n, d⟩ = 8 from by (simp [chkF, badF, widK, mostK]; simp at hh; omega)]
      rfl
    · rw [show chkF ⟨6, n, d⟩ = 0 from by (simp [chkF, badF, widK, mostK]; simp at hh; omega)]
      rfl
  all_goals
    have hne := hne (by decide)
    conv => whnf
    refine ⟨_, c1, ?_⟩
    conv => whnf
    refine iteF rfl ?_
    conv => whnf
    refine iteF rfl ?_
    conv => whnf
    repeat' (first
      | (refine ⟨_, c2, ?_⟩; conv => whnf)
      | (refine ⟨_, c3, ?_⟩; conv => whnf)
      | (refine iteC (fun hh => ?_) (fun hh => ?_) <;> conv => whnf))
  all_goals (clear c1 c2 c3)
  all_goals (try simp only [PV.same, same_zero] at *)
  all_goals first
    | (refine (congrArg (fun c => some (AV.p (PV.i IntKind.i64 c))) (?_ : (8 : Int) = chkF _))
       simp_all [chkF, badF, widK, mostK]
       try omega
       done)
    | (refine (congrArg (fun c => some (AV.p (PV.i IntKind.i64 c))) (?_ : (0 : Int) = chkF _))
       simp_all [chkF, badF, widK, mostK]
       try omega
       done)
end Go.Proofs.Ytjgffjofgeppoaa.AM
