/- Mac: the reference's sums. -/
import Derived.Test.YtpbildnhhafohaaDoorMacC
namespace Go.Proofs.YtpbildnhhafohaaDoor.AM
open Go Go.Proofs
set_option maxRecDepth 100000

theorem f33_ok (k b : List Int) (hk : byt k) (hb : byt b) : Fn Tryd.prog X.G 33 [bvs k, bvs b] (.tup [.p (dv (inD k b)), .p (.i .i64 (inE k b))]) := by
  refine Fn.intro (I := []) hX hm 0 Tryd.func33 rfl rfl (by kernel_rfl) rfl ?_
  conv => whnf
  refine iteC (fun h => ?_) (fun h => ?_)
  · have h := of_decide_eq_true h
    rw [List.length_map] at h
    rw [show inD k b = zd from by unfold inD; rw [if_pos (.inl (by omega))], show inE k b = 4 from by unfold inE; rw [if_pos (.inl (by omega))]]
    rfl
  have h := of_decide_eq_false h
  rw [List.length_map] at h
  conv => whnf
  refine iteC (fun h1 => ?_) (fun h1 => ?_)
  · have h1 := of_decide_eq_true h1
    rw [List.length_map] at h1
    rw [show inD k b = zd from by unfold inD; rw [if_pos (.inr (by omega))], show inE k b = 4 from by unfold inE; rw [if_pos (.inr (by omega))]]
    rfl
  have h1 := of_decide_eq_false h1
  rw [List.length_map] at h1
  have hm := mixK_len k 54
  rw [show inD k b = ofB (mixK k 54 ++ b) from by unfold inD; rw [if_neg (by omega)], show inE k b = 0 from by unfold inE; rw [if_neg (by omega)]]
  have c1 := f55_ok k 54 hk (by omega)
  have c2 := f45_ok (mixK k 54 ++ b) (byt_append (mixK_byt _ _) hb) (by simp; omega)
  rw [show bvs (mixK k 54 ++ b) = .ro ush (bv (mixK k 54) ++ bv b) from by rw [← bv_app]] at c2
  generalize ofB (mixK k 54 ++ b) = d at *
  generalize mixK k 54 = p at *
  conv => whnf
  refine ⟨_, c1, ?_⟩
  conv => whnf
  conv => arg 2; repeat (first | rw [capN _ (by simp; omega)] | (whnf; arg 2))
  conv => whnf
  refine ⟨_, c2, ?_⟩
  rfl
theorem f35_ok (k d : List Int) (hk : byt k) (hd : byt d) (hl : d.length = 32) : Fn Tryd.prog X.G 35 [bvs k, .p (dv d)] (.tup [.p (dv (ouD k d)), .p (.i .i64 (ouE k))]) := by
  refine Fn.intro (I := []) hX hm 0 Tryd.func35 rfl rfl (by kernel_rfl) rfl ?_
  conv => whnf
  refine iteC (fun h => ?_) (fun h => ?_)
  · have h := of_decide_eq_true h
    rw [List.length_map] at h
    rw [show ouD k d = zd from by unfold ouD; rw [if_pos (by omega)], show ouE k = 4 from by unfold ouE; rw [if_pos (by omega)]]
    rfl
  have h := of_decide_eq_false h
  rw [List.length_map] at h
  have hm := mixK_len k 92
  rw [show ouD k d = ofB (mixK k 92 ++ d) from by unfold ouD; rw [if_neg (by omega)], show ouE k = 0 from by unfold ouE; rw [if_neg (by omega)]]
  have c1 := f55_ok k 92 hk (by omega)
  have c2 := f45_ok (mixK k 92 ++ d) (byt_append (mixK_byt _ _) hd) (by simp; omega)
  rw [show bvs (mixK k 92 ++ d) = .ro ush (bv (mixK k 92) ++ ((bv d).drop 0).take 32) from by rw [List.drop_zero, List.take_of_length_le (by rw [List.length_map, hl]; omega), ← bv_app]] at c2
  generalize ofB (mixK k 92 ++ d) = r at *
  generalize mixK k 92 = p at *
  conv => whnf
  refine ⟨_, c1, ?_⟩
  conv => whnf
  conv => arg 2; repeat (first | rw [capN _ (by simp; omega)] | (whnf; arg 2))
  conv => whnf
  refine ⟨_, c2, ?_⟩
  rfl
theorem f57_ok (k b : List Int) (hk : byt k) (hb : byt b) (lk : k.length ≤ 100000) (lb : b.length ≤ 128000) : Fn Tryd.prog X.G 57 [bvs k, bvs b] (.p (dv (ofB (mixK k 92 ++ ofB (mixK k 54 ++ b))))) := by
  refine Fn.intro (I := []) hX hm 0 Tryd.func57 rfl rfl (by kernel_rfl) rfl ?_
  have hm1 := mixK_len k 54
  have hm2 := mixK_len k 92
  have c1 := f55_ok k 54 hk lk
  have c2 := f45_ok (mixK k 54 ++ b) (byt_append (mixK_byt _ _) hb) (by simp; omega)
  rw [show bvs (mixK k 54 ++ b) = .ro ush (bv (mixK k 54) ++ bv b) from by rw [← bv_app]] at c2
  have hd := ofB_length (mixK k 54 ++ b)
  have hdb := ofB_byt (mixK k 54 ++ b)
  generalize ofB (mixK k 54 ++ b) = d at *
  have c3 := f55_ok k 92 hk lk
  have c4 := f45_ok (mixK k 92 ++ d) (byt_append (mixK_byt _ _) hdb) (by simp; omega)
  rw [show bvs (mixK k 92 ++ d) = .ro ush (bv (mixK k 92) ++ ((bv d).drop 0).take 32) from by rw [List.drop_zero, List.take_of_length_le (by rw [List.length_map, hd]; omega), ← bv_app]] at c4
  generalize ofB (mixK k 92 ++ d) = r at *
  generalize mixK k 92 = p at *
  generalize mixK k 54 = q at *
  conv => whnf
  refine ⟨_, c1, ?_⟩
  conv => whnf
  conv => arg 2; repeat (first | rw [capN _ (by simp; omega)] | (whnf; arg 2))
  conv => whnf
  refine ⟨_, c2, ?_⟩
  conv => whnf
  refine ⟨_, c3, ?_⟩
  conv => whnf
  conv => arg 2; repeat (first | rw [capN _ (by simp; omega)] | (whnf; arg 2))
  conv => whnf
  refine ⟨_, c4, ?_⟩
  rfl
theorem f37_ok (k b : List Int) (hk : byt k) (hb : byt b) : Fn Tryd.prog X.G 37 [bvs k, bvs b] (.tup [.p (dv (macD k b)), .p (.i .i64 (inE k b))]) := by
  refine Fn.intro (I := []) hX hm 0 Tryd.func37 rfl rfl (by kernel_rfl) rfl ?_
  conv => whnf
  refine iteC (fun h => ?_) (fun h => ?_)
  · have h := of_decide_eq_true h
    rw [List.length_map] at h
    rw [show macD k b = zd from by unfold macD; rw [if_pos (.inl (by omega))], show inE k b = 4 from by unfold inE; rw [if_pos (.inl (by omega))]]
    rfl
  have h := of_decide_eq_false h
  rw [List.length_map] at h
  conv => whnf
  refine iteC (fun h1 => ?_) (fun h1 => ?_)
  · have h1 := of_decide_eq_true h1
    rw [List.length_map] at h1
    rw [show macD k b = zd from by unfold macD; rw [if_pos (.inr (by omega))], show inE k b = 4 from by unfold inE; rw [if_pos (.inr (by omega))]]
    rfl
  have h1 := of_decide_eq_false h1
  rw [List.length_map] at h1
  have c := f57_ok k b hk hb (by omega) (by omega)
  rw [show ofB (mixK k 92 ++ ofB (mixK k 54 ++ b)) = macD k b from by unfold macD; rw [if_neg (by omega)]] at c
  rw [show inE k b = 0 from by unfold inE; rw [if_neg (by omega)]]
  generalize macD k b = r at *
  conv => whnf
  refine ⟨_, c, ?_⟩
  rfl
end Go.Proofs.YtpbildnhhafohaaDoor.AM
