/- ShaSums: the walk of the law. -/
import Derived.Test.YtpbildnhhafohaaDoorShaI
namespace Go.Proofs.YtpbildnhhafohaaDoor.AM
open Go Go.Proofs
set_option maxRecDepth 100000

theorem same_dvl (a b : List Int) : PV.sameL (bv a) (bv b) = decide (a = b) := by
  induction a generalizing b with
  | nil => cases b <;> simp [PV.sameL]
  | cons x a ih =>
    cases b with
    | nil => simp [PV.sameL]
    | cons y b =>
      simp only [bv, List.map_cons, PV.sameL, PV.same]
      rw [ih, Bool.eq_iff_iff]
      simp
theorem same_dv (a b : List Int) : PV.same (dv a) (dv b) = decide (a = b) := same_dvl a b
theorem same_dvT (a : List Int) : PV.same (dv a) (dv a) = true := by rw [same_dv]; exact decide_eq_true rfl
theorem same_hwT (v : V8) : PV.same (hw v) (hw v) = true := by rw [same_hw]; exact decide_eq_true rfl
theorem f3_ok (b : List Int) (n : Int) (v : V8) (hb : byt b) : Fn Tryd.prog X.G 3 [bvs b, .p (.i .i64 n), .p (hw v)] (.p (.b true)) := by
  refine Fn.intro (I := []) hX hm 0 Tryd.func3 rfl rfl (by kernel_rfl) rfl ?_
  conv => whnf
  refine iteC (fun h => ?_) (fun h => ?_)
  · rfl
  have h := of_decide_eq_false h
  rw [List.length_map] at h
  have c1 := f14_ok b hb
  have c2 := f15_ok b hb
  have c3 := f16_ok n
  have c4 := f17_ok n
  have c5 := f18_ok v b hb
  have c6 := f19_ok v b hb
  have hp : (padP n).length < 9223372036854775807 := by
    have := zeros_lt n.toNat
    have := padL_length n.toNat
    unfold padP
    split <;> simp <;> omega
  have c7 := f20_ok (padP n) (padP n) hp
  have c8 := f20_ok b b (by omega)
  rw [decide_eq_true rfl] at c7 c8
  generalize sumD b = d1 at *
  generalize sumE b = e1 at *
  generalize padP n = d2 at *
  generalize padE n = e2 at *
  generalize blkV v b = d3 at *
  generalize blkE b = e3 at *
  conv => whnf
  conv => arg 2; repeat (first | rw [capN _ (by simp; omega)] | (whnf; arg 2))
  conv => whnf
  refine ⟨_, c1, ?_⟩
  conv => whnf
  refine ⟨_, c2, ?_⟩
  conv => whnf
  refine ⟨_, c3, ?_⟩
  conv => whnf
  refine ⟨_, c4, ?_⟩
  conv => whnf
  refine ⟨_, c5, ?_⟩
  conv => whnf
  refine ⟨_, c6, ?_⟩
  conv => whnf
  refine iteT (same_dvT d1) ?_
  conv => whnf
  refine iteT (beq_self_eq_true _) ?_
  conv => whnf
  refine ⟨_, c7, ?_⟩
  conv => whnf
  refine iteT rfl ?_
  conv => whnf
  refine iteT (beq_self_eq_true _) ?_
  conv => whnf
  refine iteT (same_hwT d3) ?_
  conv => whnf
  refine iteT (beq_self_eq_true _) ?_
  conv => whnf
  refine ⟨_, c8, ?_⟩
  conv => whnf
  refine iteT rfl ?_
  rfl
end Go.Proofs.YtpbildnhhafohaaDoor.AM
