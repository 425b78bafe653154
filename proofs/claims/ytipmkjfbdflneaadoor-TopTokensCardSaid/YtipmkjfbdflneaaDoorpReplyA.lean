/- Ported by name: ReplyA. -/
import Derived.Test.YtipmkjfbdflneaaDoorpFieldZ
namespace Go.Proofs.YtipmkjfbdflneaaDoor.AM
open Go Go.Proofs
set_option maxRecDepth 100000
structure Rp where
  c : Int
  t : Int
  l0 : Int
  l1 : Int
  l2 : Int
  w : Int
abbrev wshR : Sh := .int .u32
abbrev rsh : Sh := .st [.int .u8, .int .u32, .arr 3 wshR, .int .u64]
abbrev rpv (r : Rp) : PV := .st [.i .u8 r.c, .i .u32 r.t, .arr 3 wshR [.i .u32 r.l0, .i .u32 r.l1, .i .u32 r.l2], .i .u64 r.w]
structure Rp.ok (r : Rp) : Prop where
  c : 0 ≤ r.c ∧ r.c < 256
  t : 0 ≤ r.t ∧ r.t < 4294967296
  l0 : 0 ≤ r.l0 ∧ r.l0 < 4294967296
  l1 : 0 ≤ r.l1 ∧ r.l1 < 4294967296
  l2 : 0 ≤ r.l2 ∧ r.l2 < 4294967296
  w : 0 ≤ r.w ∧ r.w < 18446744073709551616
instance : DecidableEq Rp := fun x y =>
  if h : x.c = y.c ∧ x.t = y.t ∧ x.l0 = y.l0 ∧ x.l1 = y.l1 ∧ x.l2 = y.l2 ∧ x.w = y.w then isTrue (by cases x; cases y; simp_all) else isFalse (by rintro rfl; exact h ⟨rfl, rfl, rfl, rfl, rfl, rfl⟩)
def longP (c : Int) : Bool := c == 2 || c == 3
def okP (r : Rp) : Prop :=
  if r.c = 2 ∨ r.c = 3 then r.t < 16 ∧ r.l0 ≤ 1000000000 ∧ r.l1 ≤ 1000000000 ∧ r.l2 ≤ 1000000000 ∧ (r.w > 0 ↔ r.c = 3)
  else 1 ≤ r.c ∧ r.c ≤ 8 ∧ r.t = 0 ∧ r.l0 = 0 ∧ r.l1 = 0 ∧ r.l2 = 0 ∧ r.w = 0
instance (r : Rp) : Decidable (okP r) := by unfold okP; infer_instance
def chkP (r : Rp) : Int := if okP r then 0 else 8
theorem chk_0 {r : Rp} (h : okP r) : (0 : Int) = chkP r := by unfold chkP; rw [if_pos h]
theorem chk_8 {r : Rp} (h : ¬ okP r) : (8 : Int) = chkP r := by unfold chkP; rw [if_neg h]
theorem f69_ok (c : Int) : Fn Tryd.prog X.G 69 [.p (.i .u8 c)] (.p (.b (longP c))) := by
  refine Fn.intro (I := []) hX hm 0 Tryd.func69 rfl rfl (by kernel_rfl) rfl ?_
  conv => whnf
  refine iteC (fun h => ?_) (fun h => ?_)
  · rw [show longP c = true from by unfold longP; rw [h]; rfl]
    rfl
  conv => whnf
  refine iteC (fun h2 => ?_) (fun h2 => ?_)
  all_goals (rw [show longP c = _ from by unfold longP; rw [h, h2]]; rfl)
set_option maxHeartbeats 1000000 in
theorem f35_ok (r : Rp) (hr : r.ok) : Fn Tryd.prog X.G 35 [.p (rpv r)] (.p (.i .i64 (chkP r))) := by
  refine Fn.intro (I := []) hX hm 0 Tryd.func35 rfl rfl (by kernel_rfl) rfl ?_
  obtain ⟨c, t, l0, l1, l2, w⟩ := r
  have hw := hr.w.1
  dsimp only at hw
  conv => whnf
  repeat' (first
    | (refine iteC (fun hh => ?_) (fun hh => ?_) <;> conv => whnf)
    | (refine ⟨_, f69_ok c, ?_⟩; conv => whnf))
  all_goals first
    | (refine (congrArg (fun c => some (AV.p (PV.i IntKind.i64 c))) (chk_0 ?_))
       simp_all [okP, longP, PV.same, PV.sameL]
       try omega
       done)
    | (refine (congrArg (fun c => some (AV.p (PV.i IntKind.i64 c))) (chk_8 ?_))
       simp_all [okP, longP, PV.same, PV.sameL]
       try omega
       done)
def codeL (c : Int) : Rp × Int := if longP c = true ∨ ¬ okP ⟨c, 0, 0, 0, 0, 0⟩ then (⟨0, 0, 0, 0, 0, 0⟩, 2) else (⟨c, 0, 0, 0, 0, 0⟩, 0)
theorem bare_ok {c : Int} (h : 0 ≤ c ∧ c < 256) : (⟨c, 0, 0, 0, 0, 0⟩ : Rp).ok := by
  have z : (0 : Int) ≤ 0 ∧ (0 : Int) < 4294967296 := by decide
  have y : (0 : Int) ≤ 0 ∧ (0 : Int) < 18446744073709551616 := by decide
  exact ⟨h, z, z, z, z, y⟩
theorem chkP_ne {r : Rp} : (chkP r != 0) = !decide (okP r) := by
  unfold chkP
  by_cases h : okP r <;> simp [h]
end Go.Proofs.YtipmkjfbdflneaaDoor.AM
