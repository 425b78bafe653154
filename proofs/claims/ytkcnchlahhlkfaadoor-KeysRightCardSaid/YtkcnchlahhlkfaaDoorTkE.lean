/- Tokens: TokenNames: the walk of the law. -/
import Derived.Test.YtkcnchlahhlkfaaDoorTkD
namespace Go.Proofs.YtkcnchlahhlkfaaDoor.AM
open Go Go.Proofs
set_option maxRecDepth 100000

def eT : Tk := ⟨4294967295, 4294967295, 4294967295, 18446744073709551615, zd⟩
theorem eT_ok : eT.ok := ⟨by decide, by decide, by decide, by decide, ⟨rfl, zd_byt⟩⟩
def zT : Tk := ⟨0, 0, 0, 0, zd⟩
theorem zT_ok : zT.ok := ⟨by decide, by decide, by decide, by decide, ⟨rfl, zd_byt⟩⟩
def b0M : List Int := [0, 0, 0, 1, 0, 0, 0, 2, 0, 0, 0, 3, 0, 0, 0, 0, 0, 0, 1, 2, 13, 103, 12, 186, 90, 255, 171, 147, 213, 180, 31, 87, 62, 95, 50, 22, 49, 103, 96, 89, 62, 59, 55, 101, 98, 69, 23, 41, 89, 253, 235, 31]
theorem b0M_eq : bytesT w0M = b0M := by kernel_rfl
theorem e20 : msgT eT = List.replicate 20 255 := by kernel_rfl
theorem z20 : msgT zT = List.replicate 20 0 := by kernel_rfl
set_option maxHeartbeats 4000000 in
theorem f9_ok : Fn Tryd.prog X.G 9 [] (.p (.b true)) := by
  refine Fn.intro (I := []) hX hm 0 Tryd.func9 rfl rfl (by kernel_rfl) rfl ?_
  have c0 := f41_ok
  rw [mint0] at c0
  have c1 := f33_ok k0 eT k0_byt rfl eT_ok
  have c2 := f33_ok zd zT zd_byt rfl zT_ok
  have c3 := f42_ok w0M w0M_ok
  rw [b0M_eq] at c3
  have c4 := f43_ok (b0M.take 51) (byt_allT rfl) (by decide)
  rw [show readT_ (b0M.take 51) = (t0T, 12) from rfl] at c4
  have c5 := f43_ok (b0M ++ [0]) (byt_allT rfl) (by decide)
  rw [show readT_ (b0M ++ [0]) = (t0T, 12) from rfl] at c5
  have c6 := f43_ok [] (byt_allT rfl) (by decide)
  rw [show readT_ [] = (t0T, 12) from rfl] at c6
  have c7 := f31_ok (mintT k0 eT) (mint_ok eT_ok)
  rw [show msgT (mintT k0 eT) = msgT eT from rfl, e20] at c7
  have c8 := f37_ok k0 (mintT k0 eT) 18446744073709551615 k0_byt rfl (mint_ok eT_ok)
  have c9 := f37_ok zd (mintT zd zT) 0 zd_byt rfl (mint_ok zT_ok)
  have c10 := f37_ok zd (mintT zd zT) 1 zd_byt rfl (mint_ok zT_ok)
  have c11 := f31_ok (mintT zd zT) (mint_ok zT_ok)
  rw [show msgT (mintT zd zT) = msgT zT from rfl, z20] at c11
  have c12 := f40_ok
  unfold mintT at *
  rw [valE_mk, if_pos rfl, show (if (18446744073709551615 : Int) > eT.x then (24 : Int) else 0) = 0 from rfl] at c8
  rw [valE_mk, if_pos rfl, show (if (0 : Int) > zT.x then (24 : Int) else 0) = 0 from rfl] at c9
  rw [valE_mk, if_pos rfl, show (if (1 : Int) > zT.x then (24 : Int) else 0) = 24 from rfl] at c10
  generalize tagD k0 (msgT eT) = de at *
  generalize tagD zd (msgT zT) = dz at *
  conv => whnf
  refine ⟨_, c0, ?_⟩
  conv => whnf
  refine ⟨_, c1, ?_⟩
  conv => whnf
  refine ⟨_, c2, ?_⟩
  conv => whnf
  refine ⟨_, c3, ?_⟩
  conv => whnf
  refine iteF rfl ?_
  conv => whnf
  refine ⟨_, c4, ?_⟩
  conv => whnf
  refine ⟨_, c5, ?_⟩
  conv => whnf
  refine ⟨_, c6.nil1, ?_⟩
  conv => whnf
  refine ⟨_, c7, ?_⟩
  repeat' (conv => whnf
           first
              | refine ⟨_, c8, ?_⟩
              | refine ⟨_, c9, ?_⟩
              | refine ⟨_, c10, ?_⟩
              | refine ⟨_, c11, ?_⟩
              | refine ⟨_, c12, ?_⟩
              | refine iteT rfl ?_)
  all_goals rfl
end Go.Proofs.YtkcnchlahhlkfaaDoor.AM
