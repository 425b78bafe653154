/- ShaSums: the walk of the law. -/
import Derived.Test.YtipmkjfbdflneaaDoorShaI
namespace Go.Proofs.YtipmkjfbdflneaaDoor.AM
open Go Go.Proofs
set_option maxRecDepth 100000

theorem same_dvl (a b : List Int) : PV.sameL (bv a) (bv b) = decide (a = b) := by
  induction a generalizing b with
  | nil => cases b <;> simp [PV.sameL]
  | cons x a ih =>
    cases b with
    | nil => simp [PV.sameL]
    | cons y b =>
      simp only [bv, List.map_cons, PV.sameL, PV.same]
      rw [ih, Bool.eq_iff_iff]
      simp
theorem same_dv (a b : List Int) : PV.same (dv a) (dv b) = decide (a = b) := same_dvl a b
theorem same_dvT (a : List Int) : PV.same (dv a) (dv a) = true := by rw [same_dv]; exact decide_eq_true rfl
theorem same_hwT (v : V8) : PV.same (hw v) (hw v) = true := by rw [same_hw]; exact decide_eq_true rfl
end Go.Proofs.YtipmkjfbdflneaaDoor.AM
