/- Ported by name: FrameA. -/
import Derived.Test.YtipmkjfbdflneaaDoorpTokS
namespace Go.Proofs.YtipmkjfbdflneaaDoor.AM
open Go Go.Proofs
set_option maxRecDepth 100000
structure Lm where
  b : Int
  r : Int
  p : Int
abbrev lsh : Sh := .st [.int .i64, .int .i64, .int .i64]
abbrev lmv (l : Lm) : PV := .st [.i .i64 l.b, .i .i64 l.r, .i .i64 l.p]
structure Cm where
  op : Int
  t : Int
  u : Int
  l0 : Lm
  l1 : Lm
  l2 : Lm
  us : Int
  en : Int
  x : Int
  d : List Int
abbrev csh : Sh := .st [.int .u8, .int .u32, .int .u32, .arr 3 lsh, .int .u8, .int .u8, .int .u64, dsh]
abbrev cmv (c : Cm) : PV := .st [.i .u8 c.op, .i .u32 c.t, .i .u32 c.u, .arr 3 lsh [lmv c.l0, lmv c.l1, lmv c.l2], .i .u8 c.us, .i .u8 c.en, .i .u64 c.x, dv c.d]
structure Lm.ok (l : Lm) : Prop where
  b : -9223372036854775808 ≤ l.b ∧ l.b < 9223372036854775808
  r : -9223372036854775808 ≤ l.r ∧ l.r < 9223372036854775808
  p : -9223372036854775808 ≤ l.p ∧ l.p < 9223372036854775808
structure Cm.ok (c : Cm) : Prop where
  op : 0 ≤ c.op ∧ c.op < 256
  t : 0 ≤ c.t ∧ c.t < 4294967296
  u : 0 ≤ c.u ∧ c.u < 4294967296
  l0 : c.l0.ok
  l1 : c.l1.ok
  l2 : c.l2.ok
  us : 0 ≤ c.us ∧ c.us < 256
  en : 0 ≤ c.en ∧ c.en < 256
  x : 0 ≤ c.x ∧ c.x < 18446744073709551616
  d : c.d.length = 32 ∧ byt c.d
def Lm.good (l : Lm) : Prop := 1 ≤ l.b ∧ l.b ≤ 1000000000 ∧ 0 ≤ l.r ∧ l.r ≤ 1000000000 ∧ 1 ≤ l.p ∧ l.p ≤ 1000000000
def Lm.none (l : Lm) : Prop := l.b = 0 ∧ l.r = 0 ∧ l.p = 0
instance (l : Lm) : Decidable l.good := by unfold Lm.good; infer_instance
instance (l : Lm) : Decidable l.none := by unfold Lm.none; infer_instance
def chkLm (l : Lm) : Int := if l.good then 0 else 8
theorem chkLm_ne {l : Lm} : (chkLm l != 0) = !decide l.good := by
  unfold chkLm
  by_cases h : l.good <;> simp [h]
theorem chkLm_eq {l : Lm} : (chkLm l == 0) = decide l.good := by
  unfold chkLm
  by_cases h : l.good <;> simp [h]
theorem cl_0 {l : Lm} (h : l.good) : (0 : Int) = chkLm l := by unfold chkLm; rw [if_pos h]
theorem cl_8 {l : Lm} (h : ¬ l.good) : (8 : Int) = chkLm l := by unfold chkLm; rw [if_neg h]
theorem f82_ok (l : Lm) : Fn Tryd.prog X.G 82 [.p (lmv l)] (.p (.i .i64 (chkLm l))) := by
  refine Fn.intro (I := []) hX hm 0 Tryd.func82 rfl rfl (by kernel_rfl) rfl ?_
  obtain ⟨b, r, p⟩ := l
  conv => whnf
  repeat' (refine iteC (fun hh => ?_) (fun hh => ?_) <;> conv => whnf)
  all_goals first
    | (refine (congrArg (fun c => some (AV.p (PV.i IntKind.i64 c))) (cl_0 ?_))
       simp_all [Lm.good]
       try omega
       done)
    | (refine (congrArg (fun c => some (AV.p (PV.i IntKind.i64 c))) (cl_8 ?_))
       simp_all [Lm.good]
       try omega
       done)
theorem f52_ok (l : Lm) : Fn Tryd.prog X.G 52 [.p (lmv l)] (.p (.i .i64 (chkLm l))) := by
  refine Fn.intro (I := []) hX hm 0 Tryd.func52 rfl rfl (by kernel_rfl) rfl ?_
  obtain ⟨b, r, p⟩ := l
  conv => whnf
  repeat' (refine iteC (fun hh => ?_) (fun hh => ?_) <;> conv => whnf)
  all_goals first
    | (refine (congrArg (fun c => some (AV.p (PV.i IntKind.i64 c))) (cl_0 ?_))
       simp_all [Lm.good]
       try omega
       done)
    | (refine (congrArg (fun c => some (AV.p (PV.i IntKind.i64 c))) (cl_8 ?_))
       simp_all [Lm.good]
       try omega
       done)
/-- Is a command valid. -/
def okC (c : Cm) : Prop :=
  1 ≤ c.op ∧ c.op ≤ 5 ∧ c.t < 16 ∧ (c.op ≠ 5 → c.u = 0) ∧
  (if c.op = 1 ∨ c.op = 3 then c.l0.good ∧ c.l1.good ∧ c.l2.good else c.l0.none ∧ c.l1.none ∧ c.l2.none) ∧
  (if c.op = 1 then 1 ≤ c.us ∧ c.us ≤ 8 ∧ 1 ≤ c.en ∧ c.en ≤ 8 else c.us = 0 ∧ c.en = 0)
instance (c : Cm) : Decidable (okC c) := by unfold okC; infer_instance
theorem f51_ok (o : Int) (h0 : 0 ≤ o) : Fn Tryd.prog X.G 51 [.p (.i .u8 o)] (.tup [.p (.b (o == 1 || o == 3)), .p (.b (o == 1)), .p (.b (o == 5)), .p (.b (decide (o ≥ 1) && decide (o ≤ 5)))]) := by
  refine Fn.intro (I := []) hX hm 0 Tryd.func51 rfl rfl (by kernel_rfl) rfl ?_
  have key : o = 0 ∨ o = 1 ∨ o = 2 ∨ o = 3 ∨ o = 4 ∨ o = 5 ∨ o > 5 := by omega
  rcases key with rfl | rfl | rfl | rfl | rfl | rfl | h5
  case inr.inr.inr.inr.inr.inr =>
    have e1 : (o == 1) = false := beq_eq_false_iff_ne.2 (by omega)
    have e3 : (o == 3) = false := beq_eq_false_iff_ne.2 (by omega)
    have e5 : (o == 5) = false := beq_eq_false_iff_ne.2 (by omega)
    have g1 : decide (o ≥ 1) = true := decide_eq_true (by omega)
    have g5 : decide (o ≤ 5) = false := decide_eq_false (by omega)
    rw [e1, e3, e5, g1, g5]
    conv => whnf
    repeat (first
      | (refine iteF e1 ?_; conv => whnf)
      | (refine iteF e3 ?_; conv => whnf)
      | (refine iteF e5 ?_; conv => whnf)
      | (refine iteT g1 ?_; conv => whnf)
      | (refine iteF g5 ?_; conv => whnf))
    rfl
  all_goals
    conv => whnf
    repeat (first
      | (refine iteT rfl ?_; conv => whnf)
      | (refine iteF rfl ?_; conv => whnf))
    rfl
def isC (c : Cm) : Bool := decide (okC c)
theorem isC_t {c : Cm} (h : okC c) : true = isC c := by unfold isC; rw [decide_eq_true h]
theorem isC_f {c : Cm} (h : ¬ okC c) : false = isC c := by unfold isC; rw [decide_eq_false h]
set_option maxHeartbeats 4000000 in
theorem f19_ok (c : Cm) (hc : c.ok) : Fn Tryd.prog X.G 19 [.p (cmv c)] (.p (.b (isC c))) := by
  refine Fn.intro (I := []) hX hm 0 Tryd.func19 rfl rfl (by kernel_rfl) rfl ?_
  obtain ⟨op, t, u, l0, l1, l2, us, en, x, d⟩ := c
  have c1 := f51_ok op hc.op.1
  have b0 := f52_ok l0
  have b1 := f52_ok l1
  have b2 := f52_ok l2
  have h1 := hc.op.1
  have h2 := hc.us.1
  have h3 := hc.en.1
  dsimp only at h1 h2 h3
  have key : op = 0 ∨ op = 1 ∨ op = 2 ∨ op = 3 ∨ op = 4 ∨ op = 5 ∨ op > 5 := by omega
  rcases key with rfl | rfl | rfl | rfl | rfl | rfl | h5
  case inr.inr.inr.inr.inr.inr =>
    rw [show (op == 1 || op == 3) = false from by simp; omega, show (op == 1) = false from by simp; omega, show (op == 5) = false from by simp; omega, show (decide (op ≥ 1) && decide (op ≤ 5)) = false from by simp; omega] at c1
    rw [← isC_f (by unfold okC; dsimp only; omega)]
    conv => whnf
    refine ⟨_, c1, ?_⟩
    conv => whnf
    repeat (first
      | (refine iteT rfl ?_; conv => whnf)
      | (refine iteF rfl ?_; conv => whnf))
    rfl
  all_goals
    conv => whnf
    refine ⟨_, c1, ?_⟩
    conv => whnf
    repeat' (first
      | (refine LoopJ.unroll (I := []) (base' := 0) hX hm (by kernel_rfl) ?_; conv => whnf)
      | (refine iteT rfl ?_; conv => whnf)
      | (refine iteF rfl ?_; conv => whnf)
      | (refine iteC (fun hh => ?_) (fun hh => ?_) <;> conv => whnf)
      | (refine ⟨_, b0, ?_⟩; conv => whnf)
      | (refine ⟨_, b1, ?_⟩; conv => whnf)
      | (refine ⟨_, b2, ?_⟩; conv => whnf))
  all_goals first
    | (refine (congrArg (fun b => some (AV.p (PV.b b))) (isC_t ?_))
       clear c1 b0 b1 b2 hc
       simp only [chkLm_ne] at *
       simp_all [okC, Lm.none, PV.same, PV.sameL]
       try omega
       done)
    | (refine (congrArg (fun b => some (AV.p (PV.b b))) (isC_f ?_))
       clear c1 b0 b1 b2 hc
       simp only [chkLm_ne] at *
       simp_all [okC, Lm.none, PV.same, PV.sameL]
       try omega
       done)
    | exact congrArg (fun b => some (AV.p (PV.b b))) (isC_f (by unfold okC; dsimp only; omega))
end Go.Proofs.YtipmkjfbdflneaaDoor.AM
