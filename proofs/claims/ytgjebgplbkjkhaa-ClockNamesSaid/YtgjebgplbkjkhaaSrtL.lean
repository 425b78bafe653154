/- The number of bits of a length. -/
import Derived.Test.YtgjebgplbkjkhaaSrtG
import Derived.Lib.Walk
import Derived.Lib.BitFns
import Derived.Lib.Strings
namespace Go.Proofs.Ytgjebgplbkjkhaa.AM
open Go Go.Proofs Go.Sort
set_option maxRecDepth 100000

theorem bitLen_small (x : Nat) (h : x < 18446744073709551616) : Lib.bitLen x = bitsLen x := by
  induction x using Nat.strongRecOn with
  | _ x ih =>
    by_cases h0 : x = 0
    · subst h0; rfl
    · rw [Lib.bitLen_half x h0 h, ih (x / 2) (by omega) (by omega)]
      unfold bitsLen
      rw [if_neg h0, Nat.log2_def x]
      by_cases h2 : 2 ≤ x
      · rw [if_pos h2, if_neg (by omega)]; omega
      · obtain rfl : x = 1 := by omega
        simp
theorem tab_at {n : Nat} (h : n < Lib.len8tab.size) : (Lib.len8tab[n].toNat : Int) = (Lib.bitLen n : Int) := by
  have h1 := Lib.len8_eq ⟨n, by rw [Lib.len8tab_size] at h; exact h⟩
  simp only [Lib.len8, Int.toNat_natCast] at h1
  rw [getElem?_pos Lib.len8tab n h] at h1
  exact h1
theorem f43_calls (x : Int) (w : World) (h0 : 0 ≤ x) (h1 : x ≤ 65535) :
    Calls Try.prog 43 #[.int .u64 x] w fun e w' => e = .returned (.int .i64 (Lib.bitLen x.toNat)) ∧ w' = w := by
  have hz := Lib.len8tab_size
  go_enter Try.func43, Try.ntmps43
  go_wp2
  all_goals first
    | (exfalso; omega)
    | skip
  all_goals go_ret
  all_goals refine ⟨congrArg Ending.returned (congrArg (Value.int IntKind.i64) ?_), rfl⟩
  all_goals rw [tab_at]
  · have l := Lib.bitLen_le8' (x / 256) (by omega) (by omega)
    have s := Lib.bitLen_shift8 x.toNat (by omega) (by omega)
    rw [show x.toNat / 256 = (x / 256).toNat from by omega] at s
    unfold RowKit.wrap64
    omega
  · have l := Lib.bitLen_le8' x (by omega) (by omega)
    unfold RowKit.wrap64
    omega
theorem below_drop (w : World) : HSim w noPhi noHeap w := HSim.start w
theorem f43_ok (x : Nat) (h : x < 65536) : Fn Try.prog X.G 43 [.p (.i .u64 x)] (.p (.i .i64 (bitsLen x))) := by
  refine ⟨⟨_, _, Try.func43, rfl, by kernel_rfl⟩, fun w vs _ hr => ?_⟩
  obtain ⟨v, rfl⟩ : ∃ v, vs = [v] := by
    cases vs with
    | nil => simp [RelL] at hr
    | cons v l => cases l with
      | nil => exact ⟨v, rfl⟩
      | cons => simp [RelL] at hr
  have hv : v = .int .u64 x := by
    simp only [RelL, Rel] at hr
    exact hr.1.2
  subst hv
  refine (f43_calls x w (by omega) (by omega)).mono ?_
  rintro e w' ⟨rfl, rfl⟩
  rw [Int.toNat_natCast, bitLen_small x (by omega)]
  exact ⟨_, noPhi, noHeap, .p (.i .i64 (bitsLen x)), rfl, below_drop w', Rel.plain (x := .i .i64 (bitsLen x)) trivial, rfl⟩
theorem f31_ok (x : Nat) (h : x < 65536) : Fn Try.prog X.G 31 [.p (.i .u64 x)] (.p (.i .i64 (bitsLen x))) := by
  refine Fn.intro (I := []) hX hm 0 Try.func31 rfl rfl (by kernel_rfl) rfl ?_
  have c1 := f43_ok x h
  conv => whnf
  refine ⟨_, c1, ?_⟩
  conv => whnf
  rfl
end Go.Proofs.Ytgjebgplbkjkhaa.AM
