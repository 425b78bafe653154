/- The chapter's examples of prices. -/
import Derived.Test.YtmngcmfcbfkimaaCostC
namespace Go.Proofs.Ytmngcmfcbfkimaa.AM
open Go Go.Proofs
set_option maxRecDepth 100000
def gs : List R := [⟨0, 9, 5, 1, 2, 3⟩, ⟨0, 65535, 4294967295, 0, 1, 0⟩]
def zq (e n : Int) : Q := ⟨0, 0, 0, 0, List.replicate 32 0, e, n⟩
theorem f33_ok : Fn Try.prog X.G 33 [] (rvs gs) := by
  refine Fn.intro (I := []) hX hm 0 Try.func33 rfl rfl (by kernel_rfl) rfl ?_
  conv => whnf
  rfl
theorem f34_ok (e n : Int) : Fn Try.prog X.G 34 [.p (.i .u16 e), .p (.i .u32 n)] (.p (qv (zq e n))) := by
  refine Fn.intro (I := []) hX hm 0 Try.func34 rfl rfl (by kernel_rfl) rfl ?_
  conv => whnf
  rfl
theorem f35_ok : Fn Try.prog X.G 35 [] (.p (.b true)) := by
  refine Fn.intro (I := []) hX hm 0 Try.func35 rfl rfl (by kernel_rfl) rfl ?_
  have a1 := f26_ok gs 4 5
  rw [show priceL gs 4 5 = (1, 13, 0) from by rfl] at a1
  have a2 := f26_ok gs 4 6
  rw [show priceL gs 4 6 = (0, 6, 0) from by rfl] at a2
  have a3 := f30_ok gs [zq 4 5, zq 4 6]
  unfold totA at a3
  rw [show errQ gs [zq 4 5, zq 4 6] = 0 from by rfl, show linesL 10 ([zq 4 5, zq 4 6].map (priceQ gs)) = [⟨0, 1, 6⟩, ⟨1, 1, 13⟩] from by rfl] at a3
  have a4 := f32_ok [⟨0, 1, 6⟩, ⟨1, 1, 13⟩] [⟨0, 1, 6⟩, ⟨1, 1, 13⟩] (by decide)
  rw [decide_eq_true rfl] at a4
  conv => whnf
  refine ⟨_, f33_ok, ?_⟩
  conv => whnf
  refine ⟨_, a1, ?_⟩
  conv => whnf
  refine ⟨_, f33_ok, ?_⟩
  conv => whnf
  refine ⟨_, a2, ?_⟩
  conv => whnf
  refine ⟨_, f33_ok, ?_⟩
  conv => whnf
  refine ⟨_, f34_ok 4 5, ?_⟩
  conv => whnf
  refine ⟨_, f34_ok 4 6, ?_⟩
  conv => whnf
  refine ⟨_, a3, ?_⟩
  conv => whnf
  iterate 7
    refine iteT rfl ?_
    conv => whnf
  refine ⟨_, a4, ?_⟩
  conv => whnf
  refine iteT rfl ?_
  rfl
end Go.Proofs.Ytmngcmfcbfkimaa.AM
