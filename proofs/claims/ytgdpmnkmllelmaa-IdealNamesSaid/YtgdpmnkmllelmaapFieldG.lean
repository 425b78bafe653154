/- Ported by name: FieldG. -/
import Derived.Test.YtgdpmnkmllelmaapFieldF
namespace Go.Proofs.Ytgdpmnkmllelmaa.AM
open Go Go.Proofs
set_option maxRecDepth 100000
theorem bad_of {F : Fd} (h : (chkF F != 0) = true) : badF F = true := by
  unfold chkF at h
  by_cases hb : badF F = true
  · exact hb
  · rw [if_neg hb] at h; simp at h
theorem bad_not {F : Fd} (h : (chkF F != 0) = false) : ¬ badF F = true := by
  unfold chkF at h
  intro hb
  rw [if_pos hb] at h; simp at h
theorem setD_step {d : List Int} {b : List Int} {j : Nat} (hd : d.length = 32) (hj : j < 32) (hb : 32 ≤ b.length) :
    (bv (b.take j ++ d.drop j)).set j (.i .u8 b[j]) = bv (b.take (j + 1) ++ d.drop (j + 1)) := by
  apply List.ext_getElem
  · simp; omega
  · intro n h1 h2
    simp only [List.length_set, List.length_map, List.length_append, List.length_take, List.length_drop] at h1
    rw [List.getElem_set]
    by_cases hn : j = n
    · subst hn
      rw [if_pos rfl]
      simp only [List.getElem_map]
      rw [List.getElem_append_left (by rw [List.length_take]; omega)]
      simp
    · rw [if_neg hn]
      simp only [List.getElem_map]
      by_cases hlt : n < j
      · rw [List.getElem_append_left (by rw [List.length_take]; omega), List.getElem_append_left (by rw [List.length_take]; omega)]
        simp
      · rw [List.getElem_append_right (by rw [List.length_take]; omega), List.getElem_append_right (by rw [List.length_take]; omega)]
        simp only [List.length_take, List.getElem_drop]
        congr 2
        omega
end Go.Proofs.Ytgdpmnkmllelmaa.AM
