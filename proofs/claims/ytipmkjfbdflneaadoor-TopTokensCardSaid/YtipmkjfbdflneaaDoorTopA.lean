/- TopTokens: a tag by the pads and two digests; the checks of the examples. -/
import Derived.Test.YtipmkjfbdflneaaDoorIdR
namespace Go.Proofs.YtipmkjfbdflneaaDoor.AM
open Go Go.Proofs
set_option maxRecDepth 100000

set_option maxHeartbeats 4000000 in
theorem f37_ok (k b : List Int) (hk : byt k) (hb : byt b) (lk : k.length ≤ 200) (lb : b.length ≤ 1000) : Fn Tryd.prog X.G 37 [bvs k, bvs b] (.tup [.p (dv (tagD k b)), .p (.b true)]) := by
  refine Fn.intro (I := []) hX hm 0 Tryd.func37 rfl rfl (by kernel_rfl) rfl ?_
  have hm1 := mixK_len k 54
  have hm2 := mixK_len k 92
  have c1 := f71_ok k hk
  rw [if_neg (by omega), if_neg (by omega), if_neg (by omega)] at c1
  have c2 := f72_ok (mixK k 54 ++ b) (byt_append (mixK_byt _ _) hb)
  rw [show sumD (mixK k 54 ++ b) = ofB (mixK k 54 ++ b) from by unfold sumD; rw [if_neg (by simp; omega)], show sumE (mixK k 54 ++ b) = 0 from by unfold sumE; rw [if_neg (by simp; omega)]] at c2
  rw [show bvs (mixK k 54 ++ b) = .ro ush (((bv (mixK k 54)).drop 0).take 64 ++ bv b) from by rw [List.drop_zero, List.take_of_length_le (by rw [List.length_map, hm1]; omega), ← bv_app]] at c2
  unfold tagD
  have hd := ofB_length (mixK k 54 ++ b)
  have hdb := ofB_byt (mixK k 54 ++ b)
  generalize ofB (mixK k 54 ++ b) = d at *
  have c4 := f72_ok (mixK k 92 ++ d) (byt_append (mixK_byt _ _) hdb)
  rw [show sumD (mixK k 92 ++ d) = ofB (mixK k 92 ++ d) from by unfold sumD; rw [if_neg (by simp; omega)], show sumE (mixK k 92 ++ d) = 0 from by unfold sumE; rw [if_neg (by simp; omega)]] at c4
  rw [show bvs (mixK k 92 ++ d) = .ro ush (((bv (mixK k 92)).drop 0).take 64 ++ ((bv d).drop 0).take 32) from by rw [List.drop_zero, List.take_of_length_le (by rw [List.length_map, hm2]; omega), List.drop_zero, List.take_of_length_le (l := bv d) (by rw [List.length_map, hd]; omega), ← bv_app]] at c4
  generalize ofB (mixK k 92 ++ d) = r at *
  generalize mixK k 92 = p at *
  generalize mixK k 54 = q at *
  conv => whnf
  refine ⟨_, c1, ?_⟩
  iterate 3 (try (conv => whnf
                  conv => arg 2; repeat (first | rw [capN _ (by simp; omega)] | (whnf; arg 2))))
  conv => whnf
  refine ⟨_, c2, ?_⟩
  iterate 3 (try (conv => whnf
                  conv => arg 2; repeat (first | rw [capN _ (by simp; omega)] | (whnf; arg 2))))
  conv => whnf
  refine ⟨_, c4, ?_⟩
  iterate 5 (try (conv => whnf
                  refine iteT rfl ?_))
  rfl
end Go.Proofs.YtipmkjfbdflneaaDoor.AM
