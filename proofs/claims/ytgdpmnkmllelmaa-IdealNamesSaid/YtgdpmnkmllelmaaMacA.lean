/- Mac: bytes compared. -/
import Derived.Test.YtgdpmnkmllelmaaShaL
namespace Go.Proofs.Ytgdpmnkmllelmaa.AM
open Go Go.Proofs
set_option maxRecDepth 100000

theorem getI_bvM {l : List Int} {i : Int} (h0 : 0 ≤ i) (h : i < l.length) : getI (bv l) i = some (.i .u8 (l.getD i.toNat 0)) := by
  unfold getI
  rw [decide_eq_true h0]
  have : i.toNat < l.length := by omega
  simp [bv, this]
theorem wrapI64 {n : Int} (h1 : 0 ≤ n) (h2 : n < 9223372036854775808) : IntKind.i64.wrap n = n := by
  simp [IntKind.wrap, IntKind.signed, IntKind.bits]
  omega
theorem bv_length (a : List Int) : (bv a).length = a.length := by simp [bv]
theorem max_len (a b : List Int) : (if ((bv b).length : Int) > (bv a).length then ((bv b).length : Int) else (bv a).length) = ((max a.length b.length : Nat) : Int) := by
  rw [bv_length, bv_length]
  split <;> omega
theorem ext_getD {a b : List Int} (hl : a.length = b.length) (h : ∀ j, j < a.length → a.getD j 0 = b.getD j 0) : a = b := by
  refine List.ext_getElem hl fun j h1 h2 => ?_
  have := h j h1
  simpa [h1, h2] using this
theorem wrapU8 (B : BitVec 8) : IntKind.u8.wrap (B.toNat : Int) = B.toNat := by
  have := B.isLt
  simp [IntKind.wrap, IntKind.signed, IntKind.bits]
  omega
theorem ofInt_toNat (B : BitVec 8) : BitVec.ofInt 8 (B.toNat : Int) = B := by simp
theorem ofInt_inj8 {x y : Int} (hx : 0 ≤ x ∧ x < 256) (hy : 0 ≤ y ∧ y < 256) (h : BitVec.ofInt 8 x = BitVec.ofInt 8 y) : x = y := by
  have := congrArg BitVec.toNat h
  simp [BitVec.toNat_ofInt] at this
  omega
theorem or_xor8 {z x y : Int} (hz : 0 ≤ z ∧ z < 256) (hx : 0 ≤ x ∧ x < 256) (hy : 0 ≤ y ∧ y < 256) :
    IntKind.u8.wrap ((BitVec.ofInt IntKind.u8.bits z ||| BitVec.ofInt IntKind.u8.bits (IntKind.u8.wrap ((BitVec.ofInt IntKind.u8.bits x ^^^ BitVec.ofInt IntKind.u8.bits y).toNat : Int))).toNat : Int) = 0 ↔ z = 0 ∧ x = y := by
  have e : IntKind.u8.bits = 8 := rfl
  rw [e, wrapU8, wrapU8, ofInt_toNat]
  constructor
  · intro h
    have h0 : (BitVec.ofInt 8 z ||| (BitVec.ofInt 8 x ^^^ BitVec.ofInt 8 y)) = 0#8 := by
      apply BitVec.eq_of_toNat_eq
      simpa using h
    rw [BitVec.or_eq_zero_iff, BitVec.xor_eq_zero_iff] at h0
    exact ⟨ofInt_inj8 hz ⟨by decide, by decide⟩ (by simpa using h0.1), ofInt_inj8 hx hy h0.2⟩
  · rintro ⟨rfl, rfl⟩
    simp
theorem u8_range (B : BitVec 8) : 0 ≤ IntKind.u8.wrap (B.toNat : Int) ∧ IntKind.u8.wrap (B.toNat : Int) < 256 := by
  rw [wrapU8]
  have := B.isLt
  omega
theorem getD_range {l : List Int} (h : ∀ x ∈ l, 0 ≤ x ∧ x < 256) (j : Nat) : 0 ≤ l.getD j 0 ∧ l.getD j 0 < 256 := by
  by_cases hj : j < l.length
  · have := h l[j] (List.getElem_mem hj)
    simpa [hj] using this
  · simp [List.getD, List.getElem?_eq_none (Nat.le_of_not_lt hj)]
theorem getD_none {l : List Int} {j : Nat} (h : l.length ≤ j) : l.getD j 0 = 0 := by simp [List.getD, List.getElem?_eq_none h]
end Go.Proofs.Ytgdpmnkmllelmaa.AM
