/- CostNames: the walk of the law. -/
import Derived.Test.YtmngcmfcbfkimaaCostG
import Derived.Test.YtmngcmfcbfkimaaAm30
namespace Go.Proofs.Ytmngcmfcbfkimaa.AM
open Go Go.Proofs
set_option maxRecDepth 100000
def zr : R := ⟨0, 0, 0, 0, 0, 0⟩
def g1 : R := ⟨0, 9, 5, 1, 2, 3⟩
def b0 : R := ⟨1, 0, 0, 0, 0, 0⟩
def b1 : R := ⟨0, 0, 0, 10, 0, 0⟩
def b2 : R := ⟨0, 0, 0, -1, 0, 0⟩
def b3 : R := ⟨0, 0, 0, 0, 10001, 0⟩
def b4 : R := ⟨0, 0, 0, 0, 0, 10001⟩
theorem f6_ok : Fn Try.prog X.G 6 [] (.p (.b true)) := by
  refine Fn.intro (I := []) hX hm 0 Try.func6 rfl rfl (by kernel_rfl) rfl ?_
  have t1 := f30_ok gs (List.replicate 61 (zq 0 0))
  unfold totA at t1
  rw [show errQ gs (List.replicate 61 (zq 0 0)) = 4 from by rfl, if_pos (by decide)] at t1
  have t2 := f30_ok [g1] [zq 1 1, zq 10 1]
  unfold totA at t2
  rw [show errQ [g1] [zq 1 1, zq 10 1] = 6 from by rfl, if_pos (by decide)] at t2
  have t3 := Fn.nil2 (t := .one) (Fn.nil1 (t := .one) (f30_ok [] []))
  unfold totA at t3
  rw [show errQ [] [] = 0 from by rfl, show linesL 10 (([] : List Q).map (priceQ [])) = [] from by rfl, if_neg (by decide)] at t3
  conv => whnf
  repeat (first
    | (refine iteT rfl ?_; conv => whnf)
    | (refine iteF rfl ?_; conv => whnf)
    | (refine LoopJ.unroll (I := []) (base' := 0) hX hm (by kernel_rfl) ?_; conv => whnf)
    | (refine ⟨_, f24_ok [b0] 0 0, ?_⟩; conv => whnf)
    | (refine ⟨_, f28_ok [b0], ?_⟩; conv => whnf)
    | (refine ⟨_, f24_ok [b1] 0 0, ?_⟩; conv => whnf)
    | (refine ⟨_, f28_ok [b1], ?_⟩; conv => whnf)
    | (refine ⟨_, f24_ok [b2] 0 0, ?_⟩; conv => whnf)
    | (refine ⟨_, f28_ok [b2], ?_⟩; conv => whnf)
    | (refine ⟨_, f24_ok [b3] 0 0, ?_⟩; conv => whnf)
    | (refine ⟨_, f28_ok [b3], ?_⟩; conv => whnf)
    | (refine ⟨_, f24_ok [b4] 0 0, ?_⟩; conv => whnf)
    | (refine ⟨_, f28_ok [b4], ?_⟩; conv => whnf)
    | (refine ⟨_, f28_ok (List.replicate 21 zr), ?_⟩; conv => whnf)
    | (refine ⟨_, f28_ok (List.replicate 20 zr), ?_⟩; conv => whnf)
    | (refine ⟨_, Fn.nil1 (f24_ok [] 0 0), ?_⟩; conv => whnf)
    | (refine ⟨_, f33_ok, ?_⟩; conv => whnf)
    | (refine ⟨_, f35_ok, ?_⟩; conv => whnf)
    | (refine ⟨_, f24_ok [g1] 10 0, ?_⟩; conv => whnf)
    | (refine ⟨_, f24_ok [g1] 9 6, ?_⟩; conv => whnf)
    | (refine ⟨_, f24_ok gs 9 5, ?_⟩; conv => whnf)
    | (refine ⟨_, f24_ok gs 65535 4294967295, ?_⟩; conv => whnf)
    | (refine ⟨_, f34_ok 1 1, ?_⟩; conv => whnf)
    | (refine ⟨_, f34_ok 10 1, ?_⟩; conv => whnf)
    | (refine ⟨_, t1, ?_⟩; conv => whnf)
    | (refine ⟨_, t2, ?_⟩; conv => whnf)
    | (refine ⟨_, t3, ?_⟩; conv => whnf)
    | (refine ⟨_, f26_ok [⟨0, 65535, 4294967295, 9, 10000, 10000⟩] 0 4294967295, ?_⟩; conv => whnf))
  rfl
end Go.Proofs.Ytmngcmfcbfkimaa.AM
