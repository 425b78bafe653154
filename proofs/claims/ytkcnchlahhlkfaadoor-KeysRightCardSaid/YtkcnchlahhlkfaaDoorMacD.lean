/- Mac: the reference's sums. -/
import Derived.Test.YtkcnchlahhlkfaaDoorMacC
namespace Go.Proofs.YtkcnchlahhlkfaaDoor.AM
open Go Go.Proofs
set_option maxRecDepth 100000

theorem f74_ok (k b : List Int) (hk : byt k) (hb : byt b) (lk : k.length ≤ 100000) (lb : b.length ≤ 128000) : Fn Tryd.prog X.G 74 [bvs k, bvs b] (.p (dv (ofB (mixK k 92 ++ ofB (mixK k 54 ++ b))))) := by
  refine Fn.intro (I := []) hX hm 0 Tryd.func74 rfl rfl (by kernel_rfl) rfl ?_
  have hm1 := mixK_len k 54
  have hm2 := mixK_len k 92
  have c1 := f112_ok k 54 hk lk
  have c2 := f111_ok (mixK k 54 ++ b) (byt_append (mixK_byt _ _) hb) (by simp; omega)
  rw [show bvs (mixK k 54 ++ b) = .ro ush (bv (mixK k 54) ++ bv b) from by rw [← bv_app]] at c2
  have hd := ofB_length (mixK k 54 ++ b)
  have hdb := ofB_byt (mixK k 54 ++ b)
  generalize ofB (mixK k 54 ++ b) = d at *
  have c3 := f112_ok k 92 hk lk
  have c4 := f111_ok (mixK k 92 ++ d) (byt_append (mixK_byt _ _) hdb) (by simp; omega)
  rw [show bvs (mixK k 92 ++ d) = .ro ush (bv (mixK k 92) ++ ((bv d).drop 0).take 32) from by rw [List.drop_zero, List.take_of_length_le (by rw [List.length_map, hd]; omega), ← bv_app]] at c4
  generalize ofB (mixK k 92 ++ d) = r at *
  generalize mixK k 92 = p at *
  generalize mixK k 54 = q at *
  conv => whnf
  refine ⟨_, c1, ?_⟩
  conv => whnf
  conv => arg 2; repeat (first | rw [capN _ (by simp; omega)] | (whnf; arg 2))
  conv => whnf
  refine ⟨_, c2, ?_⟩
  conv => whnf
  refine ⟨_, c3, ?_⟩
  conv => whnf
  conv => arg 2; repeat (first | rw [capN _ (by simp; omega)] | (whnf; arg 2))
  conv => whnf
  refine ⟨_, c4, ?_⟩
  rfl
end Go.Proofs.YtkcnchlahhlkfaaDoor.AM
