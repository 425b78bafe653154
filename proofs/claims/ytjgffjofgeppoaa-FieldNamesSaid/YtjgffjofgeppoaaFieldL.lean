/- FieldJoins and FieldBack: the walks of the laws. -/
import Derived.Test.YtjgffjofgeppoaaFieldK
namespace Go.Proofs.Ytjgffjofgeppoaa.AM
open Go Go.Proofs
set_option maxRecDepth 100000
theorem f5_ok (l m : List Fd) (hl : ∀ f ∈ l, f.ok) (hm' : ∀ f ∈ m, f.ok) : Fn Try.prog X.G 5 [fvs l, fvs m] (.p (.b true)) := by
  refine Fn.intro (I := []) hX hm 0 Try.func5 rfl rfl (by kernel_rfl) rfl ?_
  conv => whnf
  refine iteC (fun h => ?_) (fun h => ?_)
  · conv => whnf
    refine ⟨_, f37_ok, ?_⟩
    conv => whnf
    refine iteT rfl ?_
    rfl
  have h := of_decide_eq_false h
  rw [List.length_map] at h
  conv => whnf
  refine iteC (fun h2 => ?_) (fun h2 => ?_)
  · conv => whnf
    refine ⟨_, f37_ok, ?_⟩
    conv => whnf
    refine iteT rfl ?_
    rfl
  have h2 := of_decide_eq_false h2
  rw [List.length_map] at h2
  conv => whnf
  refine ⟨_, f36_ok l hl, ?_⟩
  conv => whnf
  refine iteC (fun h3 => ?_) (fun h3 => ?_)
  · conv => whnf
    refine ⟨_, f37_ok, ?_⟩
    conv => whnf
    refine iteT rfl ?_
    rfl
  have h3 : rowE l = 0 := by simpa using h3
  conv => whnf
  refine ⟨_, f36_ok m hm', ?_⟩
  conv => whnf
  refine iteC (fun h4 => ?_) (fun h4 => ?_)
  · conv => whnf
    refine ⟨_, f37_ok, ?_⟩
    conv => whnf
    refine iteT rfl ?_
    rfl
  have h4 : rowE m = 0 := by simpa using h4
  have c1 := f28_ok l hl (by omega)
  have c2 := f28_ok m hm' (by omega)
  rw [h3, rowL_eq h3] at c1
  rw [h4, rowL_eq h4] at c2
  have l1 := flatF_len fun f hf => (hl f hf).d.1
  have l2 := flatF_len fun f hf => (hm' f hf).d.1
  have k1 := row_good h3
  have k2 := row_good h4
  have c3 := f38_ok l (by omega)
  have c4 := f33_ok (kindsL l) (flatF l ++ flatF m) (kinds_byt hl) (fun x hx => by
    rcases List.mem_append.1 hx with hx | hx
    · exact flatF_byt hl x hx
    · exact flatF_byt hm' x hx) (by simp; omega) (by simp [kindsL]; omega)
  rw [frst_write hl h3] at c4
  have c5 := f35_ok l l (by omega)
  have c6 := f30_ok (flatF m) (flatF m) (by omega)
  have c7 := f30_ok (flatF l ++ flatF m) (flatF l ++ flatF m) (by simp; omega)
  rw [decide_eq_true rfl] at c5 c6 c7
  unfold bvs at c4 c7
  rw [bv_app] at c4 c7
  have hlm : (l ++ m).length ≤ 40 → rowE (l ++ m) = 0 := fun hh => row_of hh fun f hf => by
    rcases List.mem_append.1 hf with hf | hf
    · exact k1.2 f hf
    · exact k2.2 f hf
  have c8 := f28_ok (l ++ m) (fun f hf => by
    rcases List.mem_append.1 hf with hf | hf
    · exact hl f hf
    · exact hm' f hf) (by simp; omega)
  unfold fvs at c8
  rw [List.map_append] at c8
  conv => whnf
  refine ⟨_, c1, ?_⟩
  conv => whnf
  refine ⟨_, c2, ?_⟩
  conv => whnf
  refine iteF rfl ?_
  conv => whnf
  refine iteF rfl ?_
  conv => whnf
  conv => arg 2; repeat (first | rw [capN _ (by simp; omega)] | (whnf; arg 2))
  conv => whnf
  conv => arg 2; repeat (first | rw [capN _ (by simp; omega)] | (whnf; arg 2))
  conv => whnf
  refine ⟨_, c3, ?_⟩
  conv => whnf
  refine ⟨_, c4, ?_⟩
  conv => whnf
  refine iteF rfl ?_
  conv => whnf
  refine ⟨_, c5, ?_⟩
  conv => whnf
  refine iteT rfl ?_
  conv => whnf
  refine ⟨_, c6, ?_⟩
  conv => whnf
  refine iteT rfl ?_
  conv => whnf
  refine iteC (fun h5 => ?_) (fun h5 => ?_)
  · conv => whnf
    refine ⟨_, f37_ok, ?_⟩
    conv => whnf
    refine iteT rfl ?_
    rfl
  have h5 := of_decide_eq_false h5
  rw [List.length_map, List.length_map, wr_i64 (by omega) (by omega)] at h5
  have h6 := hlm (by simp; omega)
  rw [h6, rowL_eq h6, flatF_app] at c8
  unfold bvs at c8
  rw [bv_app] at c8
  conv => whnf
  conv => arg 2; repeat (first | rw [capN _ (by simp; omega)] | (whnf; arg 2))
  conv => whnf
  conv => arg 2; repeat (first | rw [capN _ (by simp; omega)] | (whnf; arg 2))
  conv => whnf
  refine ⟨_, c8, ?_⟩
  conv => whnf
  refine iteT rfl ?_
  conv => whnf
  refine ⟨_, c7, ?_⟩
  conv => whnf
  refine iteT rfl ?_
  conv => whnf
  refine ⟨_, f37_ok, ?_⟩
  conv => whnf
  refine iteT rfl ?_
  rfl

theorem back_tail (ks b : List Int) (hk : byt ks) (hb : byt b) (_hkl : ks.length ≤ 60) (_hbl : b.length ≤ 1500) (K : Prop)
    (h1 : (readL ks b).2 ≠ 0 → ((readL ks b).2 = 4 ∨ (readL ks b).2 = 2 ∨ (readL ks b).2 = 12) → K)
    (h2 : ∀ m, readL ks b = (m, 0) → kindsL m = ks → rowE m = 0 → flatF m = b → (∀ f ∈ m, f.ok) → m.length ≤ 40 → K) : K := by
  by_cases h : (readL ks b).2 = 0
  · obtain ⟨g1, g2, g3, g4⟩ := read_back hk hb h
    exact h2 (readL ks b).1 (by rw [← h]) g1 g2 g3 g4 (rowE_len g2)
  · refine h1 h ?_
    rcases readL_err ks b with h' | h'
    · exact absurd h' h
    · exact h'
theorem f7_ok (l : List Fd) (ks b : List Int) (hl : ∀ f ∈ l, f.ok) (hk : byt ks) (hb : byt b) : Fn Try.prog X.G 7 [fvs l, bvs ks, bvs b] (.p (.b true)) := by
  refine Fn.intro (I := []) hX hm 0 Try.func7 rfl rfl (by kernel_rfl) rfl ?_
  conv => whnf
  refine iteC (fun h => ?_) (fun h => ?_)
  · conv => whnf
    refine ⟨_, f37_ok, ?_⟩
    conv => whnf
    refine iteT rfl ?_
    rfl
  have h := of_decide_eq_false h
  rw [List.length_map] at h
  conv => whnf
  refine iteC (fun h2 => ?_) (fun h2 => ?_)
  · conv => whnf
    refine ⟨_, f37_ok, ?_⟩
    conv => whnf
    refine iteT rfl ?_
    rfl
  have h2 := of_decide_eq_false h2
  rw [List.length_map] at h2
  conv => whnf
  refine iteC (fun h3 => ?_) (fun h3 => ?_)
  · conv => whnf
    refine ⟨_, f37_ok, ?_⟩
    conv => whnf
    refine iteT rfl ?_
    rfl
  have h3 := of_decide_eq_false h3
  rw [List.length_map] at h3
  have d1 := f31_ok ks b hk hb (by omega) (by omega)
  have tail : ∀ (K : Prop), ((readL ks b).2 ≠ 0 → ((readL ks b).2 = 4 ∨ (readL ks b).2 = 2 ∨ (readL ks b).2 = 12) → K) → (∀ m, readL ks b = (m, 0) → kindsL m = ks → rowE m = 0 → flatF m = b → (∀ f ∈ m, f.ok) → m.length ≤ 40 → K) → K :=
    fun K => back_tail ks b hk hb (by omega) (by omega) K
  have d5 := f30_ok ks ks (by omega)
  have d6 := f30_ok b b (by omega)
  rw [decide_eq_true rfl] at d5 d6
  conv => whnf
  refine ⟨_, f36_ok l hl, ?_⟩
  conv => whnf
  refine iteC (fun h4 => ?_) (fun h4 => ?_)
  · have h4 : rowE l = 0 := by simpa using h4
    have k1 := row_good h4
    have l1 := flatF_len fun f hf => (hl f hf).d.1
    have c1 := f28_ok l hl (by omega)
    have c2 := f26_ok l hl (by omega)
    rw [h4, rowL_eq h4] at c1 c2
    have c3 := f38_ok l (by omega)
    have c4 := f31_ok (kindsL l) (flatF l) (kinds_byt hl) (flatF_byt hl) (by omega) (by simp [kindsL]; omega)
    rw [read_write hl h4] at c4
    have c5 := f31_ok (kindsL l) (flatF l ++ [0]) (kinds_byt hl) (fun x hx => by
      rcases List.mem_append.1 hx with hx | hx
      · exact flatF_byt hl x hx
      · simp at hx; omega) (by simp; omega) (by simp [kindsL]; omega)
    rw [read_more hl h4] at c5
    unfold bvs at c5
    rw [bv_snoc] at c5
    have c6 := f35_ok l l (by omega)
    rw [decide_eq_true rfl] at c6
    conv => whnf
    refine ⟨_, c1, ?_⟩
    conv => whnf
    refine ⟨_, c2, ?_⟩
    conv => whnf
    refine ⟨_, c3, ?_⟩
    conv => whnf
    refine ⟨_, c4, ?_⟩
    conv => whnf
    refine ⟨_, c3, ?_⟩
    conv => whnf
    conv => arg 2; repeat (first | rw [capN _ (by simp; omega)] | (whnf; arg 2))
    conv => whnf
    conv => arg 2; repeat (first | rw [capN _ (by simp; omega)] | (whnf; arg 2))
    conv => whnf
    refine ⟨_, c5, ?_⟩
    conv => whnf
    refine iteF rfl ?_
    conv => whnf
    refine iteF rfl ?_
    conv => whnf
    refine iteF (by simp) ?_
    conv => whnf
    refine iteF rfl ?_
    conv => whnf
    refine ⟨_, c6, ?_⟩
    conv => whnf
    refine iteT rfl ?_
    conv => whnf
    refine iteF rfl ?_
    conv => whnf
    refine iteC (fun h5 => ?_) (fun h5 => ?_)
    · have h5 := of_decide_eq_true h5
      rw [List.length_map] at h5
      have e7 : IntKind.i64.wrap (((bv (flatF l)).length : Int) - 1) = (((flatF l).length - 1 : Nat) : Int) := by
        rw [List.length_map, wr_i64 (by omega) (by omega)]
        omega
      have d2 : decide (0 ≤ IntKind.i64.wrap (((bv (flatF l)).length : Int) - 1)) = true := decide_eq_true (by rw [e7]; omega)
      have d3 : decide (IntKind.i64.wrap (((bv (flatF l)).length : Int) - 1) ≤ ((bv (flatF l)).length : Int)) = true := decide_eq_true (by rw [e7, List.length_map]; omega)
      conv => whnf
      refine ⟨_, c3, ?_⟩
      conv => whnf
      conv => arg 2; repeat (first | rw [d2] | rw [d3] | (whnf; arg 2))
      conv => whnf
      conv => arg 2; repeat (first | rw [d2] | rw [d3] | (whnf; arg 2))
      conv => whnf
      have e8 : List.take (IntKind.i64.wrap (((bv (flatF l)).length : Int) - 1)).toNat (List.drop 0 (bv (flatF l))) = bv ((flatF l).take ((flatF l).length - 1)) := by
        rw [e7]
        simp
      have c9 := f31_ok (kindsL l) ((flatF l).take ((flatF l).length - 1)) (kinds_byt hl) (fun x hx => flatF_byt hl x (List.mem_of_mem_take hx)) (by simp; omega) (by simp [kindsL]; omega)
      rw [read_short hl h4 (by simp; omega)] at c9
      unfold bvs at c9
      rw [← e8] at c9
      refine ⟨_, c9, ?_⟩
      conv => whnf
      refine iteF rfl ?_
      conv => whnf
      refine tail _ (fun e1 e2 => ?_) (fun m e1 e2 e3 e4 e5 e6 => ?_)
      · rcases e2 with e | e | e
        all_goals
          rw [e] at d1
          refine ⟨_, d1, ?_⟩
          conv => whnf
          repeat (first
            | (refine iteT rfl ?_; conv => whnf)
            | (refine iteF rfl ?_; conv => whnf)
            | (refine ⟨_, f37_ok, ?_⟩; conv => whnf))
          rfl
      · rw [e1] at d1
        have g1 := f28_ok m e5 (by omega)
        rw [e3, rowL_eq e3, e4] at g1
        have g2 := f38_ok m (by omega)
        rw [e2] at g2
        refine ⟨_, d1, ?_⟩
        conv => whnf
        repeat (first
          | (refine iteT rfl ?_; conv => whnf)
          | (refine iteF rfl ?_; conv => whnf)
          | (refine ⟨_, g1, ?_⟩; conv => whnf)
          | (refine ⟨_, g2, ?_⟩; conv => whnf)
          | (refine ⟨_, d5, ?_⟩; conv => whnf)
          | (refine ⟨_, d6, ?_⟩; conv => whnf)
          | (refine ⟨_, f37_ok, ?_⟩; conv => whnf))
        rfl
    · conv => whnf
      refine tail _ (fun e1 e2 => ?_) (fun m e1 e2 e3 e4 e5 e6 => ?_)
      · rcases e2 with e | e | e
        all_goals
          rw [e] at d1
          refine ⟨_, d1, ?_⟩
          conv => whnf
          repeat (first
            | (refine iteT rfl ?_; conv => whnf)
            | (refine iteF rfl ?_; conv => whnf)
            | (refine ⟨_, f37_ok, ?_⟩; conv => whnf))
          rfl
      · rw [e1] at d1
        have g1 := f28_ok m e5 (by omega)
        rw [e3, rowL_eq e3, e4] at g1
        have g2 := f38_ok m (by omega)
        rw [e2] at g2
        refine ⟨_, d1, ?_⟩
        conv => whnf
        repeat (first
          | (refine iteT rfl ?_; conv => whnf)
          | (refine iteF rfl ?_; conv => whnf)
          | (refine ⟨_, g1, ?_⟩; conv => whnf)
          | (refine ⟨_, g2, ?_⟩; conv => whnf)
          | (refine ⟨_, d5, ?_⟩; conv => whnf)
          | (refine ⟨_, d6, ?_⟩; conv => whnf)
          | (refine ⟨_, f37_ok, ?_⟩; conv => whnf))
        rfl
  · conv => whnf
    refine tail _ (fun e1 e2 => ?_) (fun m e1 e2 e3 e4 e5 e6 => ?_)
    · rcases e2 with e | e | e
      all_goals
        rw [e] at d1
        refine ⟨_, d1, ?_⟩
        conv => whnf
        repeat (first
          | (refine iteT rfl ?_; conv => whnf)
          | (refine iteF rfl ?_; conv => whnf)
          | (refine ⟨_, f37_ok, ?_⟩; conv => whnf))
        rfl
    · rw [e1] at d1
      have g1 := f28_ok m e5 (by omega)
      rw [e3, rowL_eq e3, e4] at g1
      have g2 := f38_ok m (by omega)
      rw [e2] at g2
      refine ⟨_, d1, ?_⟩
      conv => whnf
      repeat (first
        | (refine iteT rfl ?_; conv => whnf)
        | (refine iteF rfl ?_; conv => whnf)
        | (refine ⟨_, g1, ?_⟩; conv => whnf)
        | (refine ⟨_, g2, ?_⟩; conv => whnf)
        | (refine ⟨_, d5, ?_⟩; conv => whnf)
        | (refine ⟨_, d6, ?_⟩; conv => whnf)
        | (refine ⟨_, f37_ok, ?_⟩; conv => whnf))
      rfl
end Go.Proofs.Ytjgffjofgeppoaa.AM
