/- Ported by name: FieldE. -/
import Derived.Test.YtgdpmnkmllelmaapFieldS
namespace Go.Proofs.Ytgdpmnkmllelmaa.AM
open Go Go.Proofs
set_option maxRecDepth 100000
theorem f86_ok (b : List Int) (hb : b.length ≤ 100000) : Fn Try.prog X.G 86 [bvs b] (bvs b) := by
  refine Fn.intro (I := []) hX hm 0 Try.func86 rfl rfl (by kernel_rfl) rfl ?_
  conv => whnf
  intro y hy
  cases y with
  | true =>
    have hy := hy rfl
    have : b = [] := by simpa using hy
    subst this
    conv => whnf
    refine iteT rfl ?_
    rfl
  | false =>
    conv => whnf
    refine iteF rfl ?_
    conv => whnf
    conv => arg 2; repeat (first | rw [capN _ (by simp; omega)] | (whnf; arg 2))
    conv => whnf
    rfl
theorem numB_range (b : List Int) : 0 ≤ numB b ∧ numB b < 18446744073709551616 := by
  have key : ∀ (b : List Int) (a : Int), 0 ≤ a ∧ a < 18446744073709551616 →
      0 ≤ b.foldl (fun n x => IntKind.u64.wrap (IntKind.u64.wrap (256 * n) + IntKind.u64.wrap x)) a ∧ b.foldl (fun n x => IntKind.u64.wrap (IntKind.u64.wrap (256 * n) + IntKind.u64.wrap x)) a < 18446744073709551616 := by
    intro b
    induction b with
    | nil => intro a h; exact h
    | cons x b ih =>
      intro a _
      refine ih _ ?_
      simp [IntKind.wrap, IntKind.signed, IntKind.bits]
      omega
  exact key b 0 ⟨by omega, by omega⟩
theorem or_step {n x : Int} (h1 : 0 ≤ n) (h3 : 0 ≤ x) (h4 : x < 256) :
    IntKind.u64.wrap (BitVec.ofInt 64 (IntKind.u64.wrap (n * 2 ^ 8)) ||| BitVec.ofInt 64 (IntKind.u64.wrap x)).toNat = IntKind.u64.wrap (IntKind.u64.wrap (256 * n) + IntKind.u64.wrap x) := by
  obtain ⟨m, rfl⟩ := Int.eq_ofNat_of_zero_le h1
  obtain ⟨y, rfl⟩ := Int.eq_ofNat_of_zero_le h3
  rw [wr_u64 (n := (y : Int)) h3 (by omega)]
  have hy : y < 256 := by omega
  have e1 : IntKind.u64.wrap ((m : Int) * 2 ^ 8) = ((256 * m % 18446744073709551616 : Nat) : Int) := by
    simp [IntKind.wrap, IntKind.signed, IntKind.bits]
    omega
  have e2 : IntKind.u64.wrap (256 * (m : Int)) = ((256 * m % 18446744073709551616 : Nat) : Int) := by
    simp [IntKind.wrap, IntKind.signed, IntKind.bits]
  rw [e1, e2]
  obtain ⟨q, hq⟩ : ∃ q, 256 * m % 18446744073709551616 = 256 * q := ⟨(256 * m % 18446744073709551616) / 256, by omega⟩
  have hlt : 256 * m % 18446744073709551616 < 18446744073709551616 := Nat.mod_lt _ (by omega)
  rw [hq] at hlt ⊢
  have e3 : (BitVec.ofInt 64 ((256 * q : Nat) : Int) ||| BitVec.ofInt 64 ((y : Nat) : Int)).toNat = 256 * q + y := by
    rw [BitVec.toNat_or, BitVec.ofInt_natCast, BitVec.ofInt_natCast, BitVec.toNat_ofNat, BitVec.toNat_ofNat, Nat.mod_eq_of_lt hlt, Nat.mod_eq_of_lt (by omega)]
    have := Nat.shiftLeft_add_eq_or_of_lt (a := q) (b := y) (i := 8) (by omega)
    rw [Nat.shiftLeft_eq] at this
    rw [show 256 * q = q * 2 ^ 8 by omega, ← this]
  rw [e3]
  simp
def rdF (k : Int) (b : List Int) : Fd := if k = 6 then ⟨6, 0, b.take 32⟩ else ⟨k, numB (b.take (widK k).toNat), zd⟩
def goF : List Int → List Int → List Fd → List Fd × List Int × Int
  | [], b, acc => (acc, b, 0)
  | k :: ks, b, acc => if b.length < (widK k).toNat then ([], [], 12) else if badF (rdF k b) = true then ([], [], 12) else goF ks (b.drop (widK k).toNat) (acc ++ [rdF k b])
def frstL (kinds b : List Int) : List Fd × List Int × Int :=
  if kinds.length > 40 then ([], [], 4) else if kinds.any (fun k => widK k == 0) = true then ([], [], 2) else goF kinds b []
theorem rdF_ok {k : Int} {b : List Int} (hk : 0 ≤ k ∧ k < 256) (hb : byt b) (hw : ¬ b.length < (widK k).toNat) : (rdF k b).ok := by
  unfold rdF
  split
  · rename_i h
    subst h
    refine ⟨by dsimp only; omega, by dsimp only; omega, ?_, fun x hx => hb x (List.mem_of_mem_take hx)⟩
    have : ¬ b.length < 32 := hw
    simp
    omega
  · refine ⟨hk, numB_range _, by simp, fun x hx => ?_⟩
    have := List.eq_of_mem_replicate hx
    omega
end Go.Proofs.Ytgdpmnkmllelmaa.AM
