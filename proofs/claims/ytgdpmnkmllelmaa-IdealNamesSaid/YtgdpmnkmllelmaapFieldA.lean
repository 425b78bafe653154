/- Ported by name: FieldA. -/
import Derived.Test.YtgdpmnkmllelmaaShaD
namespace Go.Proofs.Ytgdpmnkmllelmaa.AM
open Go Go.Proofs
set_option maxRecDepth 100000

structure Fd where
  k : Int
  n : Int
  d : List Int
abbrev fsh : Sh := .st [.int .u8, .int .u64, dsh]
abbrev fv (f : Fd) : PV := .st [.i .u8 f.k, .i .u64 f.n, dv f.d]
abbrev fvs (l : List Fd) : AV := .ro fsh (l.map fv)
instance : DecidableEq Fd := fun x y =>
  if h : x.k = y.k ∧ x.n = y.n ∧ x.d = y.d then isTrue (by cases x; cases y; simp_all) else isFalse (by rintro rfl; exact h ⟨rfl, rfl, rfl⟩)

def widK (k : Int) : Int :=
  if k = 1 then 1 else if k = 2 then 1 else if k = 7 then 1 else if k = 3 then 2 else if k = 4 then 4 else if k = 5 then 8 else if k = 6 then 32 else 0
def mostK (k : Int) : Int :=
  if k = 1 then 1 else if k = 2 then 255 else if k = 3 then 65535 else if k = 4 then 4294967295 else if k = 5 then 18446744073709551615 else 0
def badF (f : Fd) : Bool := decide (widK f.k = 0) || (decide (f.n > mostK f.k) || (decide (f.k ≠ 6) && decide (f.d ≠ zd)))
def chkF (f : Fd) : Int := if badF f = true then 8 else 0

theorem kinds8 {k : Int} (h0 : 0 ≤ k) : k = 0 ∨ k = 1 ∨ k = 2 ∨ k = 3 ∨ k = 4 ∨ k = 5 ∨ k = 6 ∨ k = 7 ∨ 8 ≤ k := by omega
theorem widK_big {k : Int} (h : 8 ≤ k) : widK k = 0 := by
  unfold widK
  repeat rw [if_neg (by omega)]
theorem mostK_big {k : Int} (h : 8 ≤ k) : mostK k = 0 := by
  unfold mostK
  repeat rw [if_neg (by omega)]
theorem f102_ok (k : Int) (h0 : 0 ≤ k) (h1 : k < 256) : Fn Try.prog X.G 102 [.p (.i .u8 k)] (.p (.i .i64 (widK k))) := by
  refine Fn.intro (I := []) hX hm 0 Try.func102 rfl rfl (by kernel_rfl) rfl ?_
  rcases kinds8 h0 with rfl | rfl | rfl | rfl | rfl | rfl | rfl | rfl | h
  case inr.inr.inr.inr.inr.inr.inr.inr =>
    rw [widK_big h]
    conv => whnf
    refine iteT (decide_eq_true (by rw [wr_i64 (by omega) (by omega)]; omega)) ?_
    rfl
  all_goals
    conv => whnf
    refine iteF rfl ?_
    rfl
theorem f110_ok (k : Int) (h0 : 0 ≤ k) (h1 : k < 256) : Fn Try.prog X.G 110 [.p (.i .u8 k)] (.p (.i .u64 (mostK k))) := by
  refine Fn.intro (I := []) hX hm 0 Try.func110 rfl rfl (by kernel_rfl) rfl ?_
  have c := f102_ok k h0 h1
  rcases kinds8 h0 with rfl | rfl | rfl | rfl | rfl | rfl | rfl | rfl | h
  case inr.inr.inr.inr.inr.inr.inr.inr =>
    rw [mostK_big h]
    rw [widK_big h] at c
    conv => whnf
    repeat (refine iteF (beq_eq_false_iff_ne.2 (by omega)) ?_; conv => whnf)
    refine ⟨_, c, ?_⟩
    rfl
  all_goals
    conv => whnf
    repeat (first | (refine iteF rfl ?_; conv => whnf) | (refine iteT rfl ?_; conv => whnf))
    first | rfl | (refine ⟨_, c, ?_⟩; rfl)
theorem sameL_bv (a b : List Int) : PV.sameL (bv a) (bv b) = decide (a = b) := by
  induction a generalizing b with
  | nil => cases b <;> simp [PV.sameL]
  | cons x a ih =>
    cases b with
    | nil => simp [PV.sameL]
    | cons y b => simp only [List.map_cons, PV.sameL, PV.same, ih, List.cons.injEq]; by_cases h1 : x = y <;> simp [h1]
theorem same_zero (d : List Int) : PV.sameL (bv d) (List.replicate 32 (.i .u8 0)) = decide (d = zd) := sameL_bv d zd
structure Fd.ok (f : Fd) : Prop where
  k : 0 ≤ f.k ∧ f.k < 256
  n : 0 ≤ f.n ∧ f.n < 18446744073709551616
  d : f.d.length = 32 ∧ ∀ x ∈ f.d, 0 ≤ x ∧ x < 256
theorem f101_ok (f : Fd) (hf : f.ok) : Fn Try.prog X.G 101 [.p (fv f)] (.p (.i .i64 (chkF f))) := by
  refine Fn.intro (I := []) hX hm 0 Try.func101 rfl rfl (by kernel_rfl) rfl ?_
  have c1 := f102_ok f.k hf.k.1 hf.k.2
  have c2 := f110_ok f.k hf.k.1 hf.k.2
  conv => whnf
  repeat' (first
    | (refine ⟨_, c1, ?_⟩; conv => whnf)
    | (refine ⟨_, c2, ?_⟩; conv => whnf)
    | (refine iteC (fun hh => ?_) (fun hh => ?_) <;> conv => whnf))
  all_goals (try simp only [PV.same] at *; try rw [same_zero] at *)
  all_goals first
    | (rw [show chkF f = 8 from by (simp_all [chkF, badF]; done)]; rfl)
    | (rw [show chkF f = 0 from by (simp_all [chkF, badF]; done)]; rfl)

def numB (b : List Int) : Int := b.foldl (fun n x => IntKind.u64.wrap (IntKind.u64.wrap (256 * n) + IntKind.u64.wrap x)) 0
theorem numB_step {b : List Int} {i : Nat} (h : i < b.length) : numB (b.take (i + 1)) = IntKind.u64.wrap (IntKind.u64.wrap (256 * numB (b.take i)) + IntKind.u64.wrap b[i]) := by
  unfold numB
  rw [List.take_add_one, List.foldl_append]
  simp [h]
end Go.Proofs.Ytgdpmnkmllelmaa.AM
