/- Ported by name: FieldH. -/
import Derived.Test.YtgdpmnkmllelmaapFieldG
namespace Go.Proofs.Ytgdpmnkmllelmaa.AM
open Go Go.Proofs
set_option maxRecDepth 100000
def readL (ks b : List Int) : List Fd × Int :=
  if (frstL ks b).2.2 ≠ 0 then ([], (frstL ks b).2.2) else if (frstL ks b).2.1.length > 0 then ([], 12) else ((frstL ks b).1, 0)
theorem same_fv (x y : Fd) : PV.same (fv x) (fv y) = decide (x = y) := by
  obtain ⟨a, b, c⟩ := x
  obtain ⟨d, e, f⟩ := y
  simp only [PV.same, PV.sameL, sameL_bv, Fd.mk.injEq, Bool.and_true]
  by_cases h1 : a = d <;> by_cases h2 : b = e <;> by_cases h3 : c = f <;> simp [h1, h2, h3]
theorem goF_len : ∀ (ks b : List Int) (acc : List Fd), (goF ks b acc).1.length ≤ acc.length + ks.length ∧ (goF ks b acc).2.1.length ≤ b.length
  | [], b, acc => by simp [goF]
  | k :: ks, b, acc => by
    unfold goF
    split
    · simp
    · split
      · simp
      · have := goF_len ks (b.drop (widK k).toNat) (acc ++ [rdF k b])
        simp at this ⊢
        omega
theorem frstL_len (ks b : List Int) : (frstL ks b).1.length ≤ 40 ∧ (frstL ks b).2.1.length ≤ b.length := by
  unfold frstL
  split
  · simp
  · split
    · simp
    · have := goF_len ks b []
      simp at this
      omega
theorem readL_len (ks b : List Int) : (readL ks b).1.length ≤ 40 := by
  unfold readL
  split
  · simp
  · split
    · simp
    · exact (frstL_len ks b).1
end Go.Proofs.Ytgdpmnkmllelmaa.AM
