/- Sha: paddings; digests of words. -/
import Derived.Test.YtgdpmnkmllelmaaShaD
namespace Go.Proofs.Ytgdpmnkmllelmaa.AM
open Go Go.Proofs
set_option maxRecDepth 100000

def zerosN (n : Nat) : Nat := (119 - n % 64) % 64
def padL (n : Nat) : List Int := 128 :: (List.replicate (zerosN n) 0 ++ bytesU ((8 * n : Nat) : Int) 8)
theorem padL_length (n : Nat) : (padL n).length = zerosN n + 9 := by simp [padL, bytesU_length]
theorem wrU (n : Nat) (h : n < 18446744073709551616) : IntKind.u64.wrap (n : Int) = n := wr_u64 (by omega) (by omega)
end Go.Proofs.Ytgdpmnkmllelmaa.AM
