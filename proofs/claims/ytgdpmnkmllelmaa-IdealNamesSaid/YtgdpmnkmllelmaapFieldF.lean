/- Ported by name: FieldF. -/
import Derived.Test.YtgdpmnkmllelmaapFieldE
namespace Go.Proofs.Ytgdpmnkmllelmaa.AM
open Go Go.Proofs
set_option maxRecDepth 100000
theorem widK_nat (k : Int) : widK k = ((widK k).toNat : Int) := by
  unfold widK
  repeat' split
  all_goals rfl
theorem slice_tail (b : List Int) (w : Nat) : AV.ro ush (List.take ((bv b).length - (w : Int).toNat) (List.drop (w : Int).toNat (bv b))) = bvs (b.drop w) := by
  rw [List.take_of_length_le (by simp)]
  simp
theorem slice_head (b : List Int) (w : Nat) : AV.ro ush (List.take (w : Int).toNat (List.drop 0 (bv b))) = bvs (b.take w) := by
  simp
theorem slice_hlen {b : List Int} {w : Nat} (h : w ≤ b.length) : AV.p (.i .i64 ((List.take (w : Int).toNat (List.drop 0 (bv b))).length : Nat)) = .p (.i .i64 w) := by
  simp [h]
abbrev FS := Nat × List Fd × List Int
end Go.Proofs.Ytgdpmnkmllelmaa.AM
