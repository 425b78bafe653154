/- Sha: the chapter's examples. -/
import Derived.Test.YtipmkjfbdflneaaDoorShaJ
namespace Go.Proofs.YtipmkjfbdflneaaDoor.AM
open Go Go.Proofs
set_option maxRecDepth 100000
def isV (v : V8) (a b c d z : Int) : Bool := (byW v.a 24 == a) && ((byW v.a 16 == b) && ((byW v.a 8 == c) && ((byW v.a 0 == d) && (byW v.z 0 == z))))
theorem ex0 : isV (afterV first ([] ++ padL ([] : List Int).length)) 227 176 196 66 85 = true := by kernel_rfl
theorem ex1 : isV (afterV first ([97, 98, 99] ++ padL ([97, 98, 99] : List Int).length)) 186 120 22 191 173 = true := by kernel_rfl
def p3 : List Int := [128, 0, 0, 0, 0, 0, 0, 0, 0, 0, 0, 0, 0, 0, 0, 0, 0, 0, 0, 0, 0, 0, 0, 0, 0, 0, 0, 0, 0, 0, 0, 0, 0, 0, 0, 0, 0, 0, 0, 0, 0, 0, 0, 0, 0, 0, 0, 0, 0, 0, 0, 0, 0, 0, 0, 0, 0, 0, 0, 0, 24]
theorem p3_eq : padP 3 = p3 := by kernel_rfl
theorem p3_zero : ∀ i, i < 60 → 1 ≤ i → p3.getD i 0 = 0 := by decide +kernel
end Go.Proofs.YtipmkjfbdflneaaDoor.AM
