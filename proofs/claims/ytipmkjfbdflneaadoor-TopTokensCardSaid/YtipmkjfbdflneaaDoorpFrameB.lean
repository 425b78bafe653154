/- Ported by name: FrameB. -/
import Derived.Test.YtipmkjfbdflneaaDoorpFrameA
namespace Go.Proofs.YtipmkjfbdflneaaDoor.AM
open Go Go.Proofs
set_option maxRecDepth 100000
set_option maxHeartbeats 8000000 in
theorem f92_1 (t u : Int) (l0 l1 l2 : Lm) (us en x : Int) (d : List Int) (h2 : 0 ≤ us) (h3 : 0 ≤ en) : Fn Tryd.prog X.G 57 [.p (cmv ⟨1, t, u, l0, l1, l2, us, en, x, d⟩)] (.p (.b (isC ⟨1, t, u, l0, l1, l2, us, en, x, d⟩))) := by
  refine Fn.intro (I := [ 81 ]) hX hm 0 Tryd.func57 rfl rfl (by kernel_rfl) rfl ?_
  have b0 := f82_ok l0
  have b1 := f82_ok l1
  have b2 := f82_ok l2
  have key : decide (t < 16) = false ∨ (decide (t < 16) = true ∧ (chkLm l0 == 0) = false) ∨ (decide (t < 16) = true ∧ (chkLm l0 == 0) = true ∧ (chkLm l1 == 0) = false) ∨ (decide (t < 16) = true ∧ (chkLm l0 == 0) = true ∧ (chkLm l1 == 0) = true ∧ (chkLm l2 == 0) = false) ∨ (decide (t < 16) = true ∧ (chkLm l0 == 0) = true ∧ (chkLm l1 == 0) = true ∧ (chkLm l2 == 0) = true) := by
    cases decide (t < 16) <;> cases (chkLm l0 == 0) <;> cases (chkLm l1 == 0) <;> cases (chkLm l2 == 0) <;> simp
  rcases key with ht | ⟨ht, q0⟩ | ⟨ht, q0, q1⟩ | ⟨ht, q0, q1, q2⟩ | ⟨ht, q0, q1, q2⟩
  all_goals
    conv => whnf
    repeat (first
      | (refine iteT rfl ?_; conv => whnf)
      | (refine iteF rfl ?_; conv => whnf)
      | (refine iteT ht ?_; conv => whnf)
      | (refine iteF ht ?_; conv => whnf)
      | (refine iteT q0 ?_; conv => whnf)
      | (refine iteF q0 ?_; conv => whnf)
      | (refine iteT q1 ?_; conv => whnf)
      | (refine iteF q1 ?_; conv => whnf)
      | (refine iteT q2 ?_; conv => whnf)
      | (refine iteF q2 ?_; conv => whnf)
      | (refine ⟨_, b0, ?_⟩; conv => whnf)
      | (refine ⟨_, b1, ?_⟩; conv => whnf)
      | (refine ⟨_, b2, ?_⟩; conv => whnf))
    refine InlS.intro (I := [ 81 ]) hX hm 1000 Tryd.func81 rfl rfl (by kernel_rfl) (by rfl) ?_
    conv => whnf
    refine LoopJ.unroll (I := [ 81 ]) (base' := 2000) hX hm (by kernel_rfl) ?_
    conv => whnf
    repeat (first
      | (refine iteT rfl ?_; conv => whnf)
      | (refine iteF rfl ?_; conv => whnf)
      | (refine iteT ht ?_; conv => whnf)
      | (refine iteF ht ?_; conv => whnf)
      | (refine iteT q0 ?_; conv => whnf)
      | (refine iteF q0 ?_; conv => whnf)
      | (refine iteT q1 ?_; conv => whnf)
      | (refine iteF q1 ?_; conv => whnf)
      | (refine iteT q2 ?_; conv => whnf)
      | (refine iteF q2 ?_; conv => whnf)
      | (refine ⟨_, b0, ?_⟩; conv => whnf)
      | (refine ⟨_, b1, ?_⟩; conv => whnf)
      | (refine ⟨_, b2, ?_⟩; conv => whnf))
    refine LoopJ.unroll (I := [ 81 ]) (base' := 3000) hX hm (by kernel_rfl) ?_
    conv => whnf
    repeat (first
      | (refine iteT rfl ?_; conv => whnf)
      | (refine iteF rfl ?_; conv => whnf)
      | (refine iteT ht ?_; conv => whnf)
      | (refine iteF ht ?_; conv => whnf)
      | (refine iteT q0 ?_; conv => whnf)
      | (refine iteF q0 ?_; conv => whnf)
      | (refine iteT q1 ?_; conv => whnf)
      | (refine iteF q1 ?_; conv => whnf)
      | (refine iteT q2 ?_; conv => whnf)
      | (refine iteF q2 ?_; conv => whnf)
      | (refine ⟨_, b0, ?_⟩; conv => whnf)
      | (refine ⟨_, b1, ?_⟩; conv => whnf)
      | (refine ⟨_, b2, ?_⟩; conv => whnf))
    refine LoopJ.unroll (I := [ 81 ]) (base' := 4000) hX hm (by kernel_rfl) ?_
    conv => whnf
    repeat (first
      | (refine iteT rfl ?_; conv => whnf)
      | (refine iteF rfl ?_; conv => whnf)
      | (refine iteT ht ?_; conv => whnf)
      | (refine iteF ht ?_; conv => whnf)
      | (refine iteT q0 ?_; conv => whnf)
      | (refine iteF q0 ?_; conv => whnf)
      | (refine iteT q1 ?_; conv => whnf)
      | (refine iteF q1 ?_; conv => whnf)
      | (refine iteT q2 ?_; conv => whnf)
      | (refine iteF q2 ?_; conv => whnf)
      | (refine ⟨_, b0, ?_⟩; conv => whnf)
      | (refine ⟨_, b1, ?_⟩; conv => whnf)
      | (refine ⟨_, b2, ?_⟩; conv => whnf))
    refine LoopJ.unroll (I := [ 81 ]) (base' := 5000) hX hm (by kernel_rfl) ?_
    conv => whnf
    repeat (first
      | (refine iteT rfl ?_; conv => whnf)
      | (refine iteF rfl ?_; conv => whnf)
      | (refine iteT ht ?_; conv => whnf)
      | (refine iteF ht ?_; conv => whnf)
      | (refine iteT q0 ?_; conv => whnf)
      | (refine iteF q0 ?_; conv => whnf)
      | (refine iteT q1 ?_; conv => whnf)
      | (refine iteF q1 ?_; conv => whnf)
      | (refine iteT q2 ?_; conv => whnf)
      | (refine iteF q2 ?_; conv => whnf)
      | (refine ⟨_, b0, ?_⟩; conv => whnf)
      | (refine ⟨_, b1, ?_⟩; conv => whnf)
      | (refine ⟨_, b2, ?_⟩; conv => whnf))
    repeat' (refine iteC (fun hh => ?_) (fun hh => ?_) <;> conv => whnf)
    all_goals first
      | (refine (congrArg (fun b => some (AV.p (PV.b b))) (isC_t ?_))
         clear b0 b1 b2
         try simp only [chkLm_eq] at *
         simp_all [okC, PV.same, PV.sameL]
         try omega
         done)
      | (refine (congrArg (fun b => some (AV.p (PV.b b))) (isC_f ?_))
         clear b0 b1 b2
         try simp only [chkLm_eq] at *
         simp_all [okC, PV.same, PV.sameL]
         try omega
         done)
set_option maxHeartbeats 8000000 in
theorem f92_3 (t u : Int) (l0 l1 l2 : Lm) (us en x : Int) (d : List Int) (_h2 : 0 ≤ us) (_h3 : 0 ≤ en) : Fn Tryd.prog X.G 57 [.p (cmv ⟨3, t, u, l0, l1, l2, us, en, x, d⟩)] (.p (.b (isC ⟨3, t, u, l0, l1, l2, us, en, x, d⟩))) := by
  refine Fn.intro (I := [ 81 ]) hX hm 0 Tryd.func57 rfl rfl (by kernel_rfl) rfl ?_
  have b0 := f82_ok l0
  have b1 := f82_ok l1
  have b2 := f82_ok l2
  have key : decide (t < 16) = false ∨ (decide (t < 16) = true ∧ (chkLm l0 == 0) = false) ∨ (decide (t < 16) = true ∧ (chkLm l0 == 0) = true ∧ (chkLm l1 == 0) = false) ∨ (decide (t < 16) = true ∧ (chkLm l0 == 0) = true ∧ (chkLm l1 == 0) = true ∧ (chkLm l2 == 0) = false) ∨ (decide (t < 16) = true ∧ (chkLm l0 == 0) = true ∧ (chkLm l1 == 0) = true ∧ (chkLm l2 == 0) = true) := by
    cases decide (t < 16) <;> cases (chkLm l0 == 0) <;> cases (chkLm l1 == 0) <;> cases (chkLm l2 == 0) <;> simp
  rcases key with ht | ⟨ht, q0⟩ | ⟨ht, q0, q1⟩ | ⟨ht, q0, q1, q2⟩ | ⟨ht, q0, q1, q2⟩
  all_goals
    conv => whnf
    repeat (first
      | (refine iteT rfl ?_; conv => whnf)
      | (refine iteF rfl ?_; conv => whnf)
      | (refine iteT ht ?_; conv => whnf)
      | (refine iteF ht ?_; conv => whnf)
      | (refine iteT q0 ?_; conv => whnf)
      | (refine iteF q0 ?_; conv => whnf)
      | (refine iteT q1 ?_; conv => whnf)
      | (refine iteF q1 ?_; conv => whnf)
      | (refine iteT q2 ?_; conv => whnf)
      | (refine iteF q2 ?_; conv => whnf)
      | (refine ⟨_, b0, ?_⟩; conv => whnf)
      | (refine ⟨_, b1, ?_⟩; conv => whnf)
      | (refine ⟨_, b2, ?_⟩; conv => whnf))
    refine InlS.intro (I := [ 81 ]) hX hm 1000 Tryd.func81 rfl rfl (by kernel_rfl) (by rfl) ?_
    conv => whnf
    refine LoopJ.unroll (I := [ 81 ]) (base' := 2000) hX hm (by kernel_rfl) ?_
    conv => whnf
    repeat (first
      | (refine iteT rfl ?_; conv => whnf)
      | (refine iteF rfl ?_; conv => whnf)
      | (refine iteT ht ?_; conv => whnf)
      | (refine iteF ht ?_; conv => whnf)
      | (refine iteT q0 ?_; conv => whnf)
      | (refine iteF q0 ?_; conv => whnf)
      | (refine iteT q1 ?_; conv => whnf)
      | (refine iteF q1 ?_; conv => whnf)
      | (refine iteT q2 ?_; conv => whnf)
      | (refine iteF q2 ?_; conv => whnf)
      | (refine ⟨_, b0, ?_⟩; conv => whnf)
      | (refine ⟨_, b1, ?_⟩; conv => whnf)
      | (refine ⟨_, b2, ?_⟩; conv => whnf))
    refine LoopJ.unroll (I := [ 81 ]) (base' := 3000) hX hm (by kernel_rfl) ?_
    conv => whnf
    repeat (first
      | (refine iteT rfl ?_; conv => whnf)
      | (refine iteF rfl ?_; conv => whnf)
      | (refine iteT ht ?_; conv => whnf)
      | (refine iteF ht ?_; conv => whnf)
      | (refine iteT q0 ?_; conv => whnf)
      | (refine iteF q0 ?_; conv => whnf)
      | (refine iteT q1 ?_; conv => whnf)
      | (refine iteF q1 ?_; conv => whnf)
      | (refine iteT q2 ?_; conv => whnf)
      | (refine iteF q2 ?_; conv => whnf)
      | (refine ⟨_, b0, ?_⟩; conv => whnf)
      | (refine ⟨_, b1, ?_⟩; conv => whnf)
      | (refine ⟨_, b2, ?_⟩; conv => whnf))
    refine LoopJ.unroll (I := [ 81 ]) (base' := 4000) hX hm (by kernel_rfl) ?_
    conv => whnf
    repeat (first
      | (refine iteT rfl ?_; conv => whnf)
      | (refine iteF rfl ?_; conv => whnf)
      | (refine iteT ht ?_; conv => whnf)
      | (refine iteF ht ?_; conv => whnf)
      | (refine iteT q0 ?_; conv => whnf)
      | (refine iteF q0 ?_; conv => whnf)
      | (refine iteT q1 ?_; conv => whnf)
      | (refine iteF q1 ?_; conv => whnf)
      | (refine iteT q2 ?_; conv => whnf)
      | (refine iteF q2 ?_; conv => whnf)
      | (refine ⟨_, b0, ?_⟩; conv => whnf)
      | (refine ⟨_, b1, ?_⟩; conv => whnf)
      | (refine ⟨_, b2, ?_⟩; conv => whnf))
    refine LoopJ.unroll (I := [ 81 ]) (base' := 5000) hX hm (by kernel_rfl) ?_
    conv => whnf
    repeat (first
      | (refine iteT rfl ?_; conv => whnf)
      | (refine iteF rfl ?_; conv => whnf)
      | (refine iteT ht ?_; conv => whnf)
      | (refine iteF ht ?_; conv => whnf)
      | (refine iteT q0 ?_; conv => whnf)
      | (refine iteF q0 ?_; conv => whnf)
      | (refine iteT q1 ?_; conv => whnf)
      | (refine iteF q1 ?_; conv => whnf)
      | (refine iteT q2 ?_; conv => whnf)
      | (refine iteF q2 ?_; conv => whnf)
      | (refine ⟨_, b0, ?_⟩; conv => whnf)
      | (refine ⟨_, b1, ?_⟩; conv => whnf)
      | (refine ⟨_, b2, ?_⟩; conv => whnf))
    repeat' (refine iteC (fun hh => ?_) (fun hh => ?_) <;> conv => whnf)
    all_goals first
      | (refine (congrArg (fun b => some (AV.p (PV.b b))) (isC_t ?_))
         clear b0 b1 b2
         try simp only [chkLm_eq] at *
         simp_all [okC, PV.same, PV.sameL]
         try omega
         done)
      | (refine (congrArg (fun b => some (AV.p (PV.b b))) (isC_f ?_))
         clear b0 b1 b2
         try simp only [chkLm_eq] at *
         simp_all [okC, PV.same, PV.sameL]
         try omega
         done)
set_option maxHeartbeats 8000000 in
theorem f57_ok (c : Cm) (hc : c.ok) : Fn Tryd.prog X.G 57 [.p (cmv c)] (.p (.b (isC c))) := by
  obtain ⟨op, t, u, l0, l1, l2, us, en, x, d⟩ := c
  have h1 := hc.op.1
  have h2 := hc.us.1
  have h3 := hc.en.1
  dsimp only at h1 h2 h3
  clear hc
  by_cases e1 : op = 1
  · subst e1
    exact f92_1 t u l0 l1 l2 us en x d h2 h3
  by_cases e3 : op = 3
  · subst e3
    exact f92_3 t u l0 l1 l2 us en x d h2 h3
  refine Fn.intro (I := [ 81 ]) hX hm 0 Tryd.func57 rfl rfl (by kernel_rfl) rfl ?_
  have key : op = 0 ∨ op = 2 ∨ op = 4 ∨ op = 5 ∨ op > 5 := by omega
  rcases key with rfl | rfl | rfl | rfl | h5
  case inr.inr.inr.inr =>
    have k1 : (op == 1) = false := beq_eq_false_iff_ne.2 (by omega)
    have k2 : (op == 2) = false := beq_eq_false_iff_ne.2 (by omega)
    have k3 : (op == 3) = false := beq_eq_false_iff_ne.2 (by omega)
    have k4 : (op == 4) = false := beq_eq_false_iff_ne.2 (by omega)
    have k5 : (op == 5) = false := beq_eq_false_iff_ne.2 (by omega)
    rw [← isC_f (by unfold okC; dsimp only; omega)]
    conv => whnf
    refine iteC (fun hh => ?_) (fun hh => ?_)
    all_goals
      conv => whnf
      repeat (first
        | (refine iteF k1 ?_; conv => whnf)
        | (refine iteF k2 ?_; conv => whnf)
        | (refine iteF k3 ?_; conv => whnf)
        | (refine iteF k4 ?_; conv => whnf)
        | (refine iteF k5 ?_; conv => whnf))
      rfl
  case inl =>
    rw [← isC_f (by unfold okC; dsimp only; omega)]
    conv => whnf
    refine iteC (fun hh => ?_) (fun hh => ?_)
    all_goals
      conv => whnf
      repeat (refine iteF rfl ?_; conv => whnf)
      rfl
  all_goals
    cases ht : decide (t < 16)
  all_goals
    conv => whnf
    repeat (first
      | (refine iteT rfl ?_; conv => whnf)
      | (refine iteF rfl ?_; conv => whnf)
      | (refine iteT ht ?_; conv => whnf)
      | (refine iteF ht ?_; conv => whnf))
    repeat' (refine iteC (fun hh => ?_) (fun hh => ?_) <;> conv => whnf)
    all_goals first
      | (refine (congrArg (fun b => some (AV.p (PV.b b))) (isC_t ?_))
         simp_all [okC, Lm.none, PV.same, PV.sameL]
         try omega
         done)
      | (refine (congrArg (fun b => some (AV.p (PV.b b))) (isC_f ?_))
         simp_all [okC, Lm.none, PV.same, PV.sameL]
         try omega
         done)
end Go.Proofs.YtipmkjfbdflneaaDoor.AM
