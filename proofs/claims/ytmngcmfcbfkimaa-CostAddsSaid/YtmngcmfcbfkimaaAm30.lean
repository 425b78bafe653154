/- Small laws of the abstract machine's walks: empty slices, wrapped numbers, indexes. -/
import Derived.Test.YtmngcmfcbfkimaaAm29
namespace Go.Proofs.Ytmngcmfcbfkimaa.AM
open Go Go.Proofs

theorem rel_ro_nil {W : World} {φ : Phi} {H : HeapF} {s t : Sh} {v : Value} (h : Rel W φ H (.ro t []) v) : Rel W φ H (.ro s []) v := by
  simp only [Rel] at h ⊢
  obtain ⟨a, c, h1, h2, _, _, _⟩ := h
  exact ⟨a, c, h1, h2, trivial, trivial, .inl trivial⟩
theorem Fn.args {P : Program} {G : Globs} {f : Nat} {as bs : List AV} {r : AV} (h : Fn P G f as r) (hr : ∀ w vs, RelL w noPhi noHeap bs vs → RelL w noPhi noHeap as vs) : Fn P G f bs r :=
  ⟨h.1, fun w vs hG hv => h.2 w vs hG (hr w vs hv)⟩
theorem Fn.nil1 {P : Program} {G : Globs} {f : Nat} {s t : Sh} {as : List AV} {r : AV} (h : Fn P G f (.ro s [] :: as) r) : Fn P G f (.ro t [] :: as) r :=
  h.args fun w vs hv => by
    cases vs with
    | nil => exact hv
    | cons v vs => exact ⟨rel_ro_nil hv.1, hv.2⟩
theorem Fn.nil2 {P : Program} {G : Globs} {f : Nat} {s t : Sh} {a : AV} {as : List AV} {r : AV} (h : Fn P G f (a :: .ro s [] :: as) r) : Fn P G f (a :: .ro t [] :: as) r :=
  h.args fun w vs hv => by
    match vs, hv with
    | _ :: _ :: _, hv => exact ⟨hv.1, rel_ro_nil hv.2.1, hv.2.2⟩
theorem shL_cons {ys : List PV} {s : Sh} {r : List Sh} (h : PV.shL ys = s :: r) (hw : PV.wfL ys) : ∃ x zs, ys = x :: zs ∧ x.sh = s ∧ x.wf ∧ PV.shL zs = r ∧ PV.wfL zs := by
  cases ys with
  | nil => simp [PV.shL] at h
  | cons x zs =>
    simp only [PV.shL, List.cons.injEq] at h
    exact ⟨x, zs, rfl, h.1, hw.1, h.2, hw.2⟩
theorem shL_int {ys : List PV} {k : IntKind} {r : List Sh} (h : PV.shL ys = .int k :: r) (hw : PV.wfL ys) : ∃ n zs, ys = .i k n :: zs ∧ (Lit.int k n).wf = true ∧ PV.shL zs = r ∧ PV.wfL zs := by
  obtain ⟨x, zs, rfl, h1, h2, h3, h4⟩ := shL_cons h hw
  obtain ⟨n, rfl, h5⟩ := int_of h1 h2
  exact ⟨n, zs, rfl, h5, h3, h4⟩
theorem shL_nil {ys : List PV} (h : PV.shL ys = []) : ys = [] := by
  cases ys with
  | nil => rfl
  | cons x zs => simp [PV.shL] at h
theorem st_of {y : PV} {l : List Sh} (h : y.sh = .st l) (hw : y.wf) : ∃ ys, y = .st ys ∧ PV.shL ys = l ∧ PV.wfL ys := by
  cases y with
  | st ys =>
    simp only [PV.sh, Sh.st.injEq] at h
    exact ⟨ys, rfl, h, hw⟩
  | _ => simp [PV.sh] at h
theorem wf_u16 {n : Int} (h : (Lit.int .u16 n).wf = true) : 0 ≤ n ∧ n < 65536 := by
  simp [Lit.wf, IntKind.min, IntKind.max, IntKind.signed, IntKind.bits] at h
  omega
theorem wf_u32 {n : Int} (h : (Lit.int .u32 n).wf = true) : 0 ≤ n ∧ n < 4294967296 := by
  simp [Lit.wf, IntKind.min, IntKind.max, IntKind.signed, IntKind.bits] at h
  omega
theorem wf_u64 {n : Int} (h : (Lit.int .u64 n).wf = true) : 0 ≤ n ∧ n < 18446744073709551616 := by
  simp [Lit.wf, IntKind.min, IntKind.max, IntKind.signed, IntKind.bits] at h
  omega
theorem wf_i64 {n : Int} (h : (Lit.int .i64 n).wf = true) : -9223372036854775808 ≤ n ∧ n < 9223372036854775808 := by
  simp [Lit.wf, IntKind.min, IntKind.max, IntKind.signed, IntKind.bits] at h
  omega
theorem wr_u8 {n : Int} (h1 : 0 ≤ n) (h2 : n < 256) : IntKind.u8.wrap n = n := by
  simp [IntKind.wrap, IntKind.signed, IntKind.bits]
  omega
theorem wr_u16 {n : Int} (h1 : 0 ≤ n) (h2 : n < 65536) : IntKind.u16.wrap n = n := by
  simp [IntKind.wrap, IntKind.signed, IntKind.bits]
  omega
theorem wr_u32 {n : Int} (h1 : 0 ≤ n) (h2 : n < 4294967296) : IntKind.u32.wrap n = n := by
  simp [IntKind.wrap, IntKind.signed, IntKind.bits]
  omega
theorem wr_u64 {n : Int} (h1 : 0 ≤ n) (h2 : n < 18446744073709551616) : IntKind.u64.wrap n = n := by
  simp [IntKind.wrap, IntKind.signed, IntKind.bits]
  omega
theorem wr_i64 {n : Int} (h1 : -9223372036854775808 ≤ n) (h2 : n < 9223372036854775808) : IntKind.i64.wrap n = n := by
  simp [IntKind.wrap, IntKind.signed, IntKind.bits]
  omega
theorem incN {i : Nat} (h : i < 9223372036854775807) : AV.p (.i .i64 (IntKind.i64.wrap ((i : Int) + 1))) = AV.p (.i .i64 ((i + 1 : Nat) : Int)) := by
  rw [wr_i64 (by omega) (by omega)]
  simp
theorem capN (n : Nat) (h : n ≤ 100000000) : decide (n ≤ 140737488351232) = true := decide_eq_true (by omega)
theorem getM {α : Type} {f : α → PV} {l : List α} {i : Nat} (h : i < l.length) : getI (l.map f) (i : Int) = some (f l[i]) := by
  unfold getI
  rw [decide_eq_true (by omega)]
  simp [h]
theorem nthM {α : Type} {f : α → PV} {l : List α} {i : Nat} (h : i < l.length) : (l.map f)[(i : Int).toNat]? = some (f l[i]) := by
  simp [h]
end Go.Proofs.Ytmngcmfcbfkimaa.AM
