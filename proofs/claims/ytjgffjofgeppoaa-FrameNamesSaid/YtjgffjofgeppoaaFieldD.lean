/- Fields: bytes compared, sizes; FieldWrites: the walk of the law. -/
import Derived.Test.YtjgffjofgeppoaaFieldC
namespace Go.Proofs.Ytjgffjofgeppoaa.AM
open Go Go.Proofs
set_option maxRecDepth 100000
theorem f30_ok (a b : List Int) (hl : a.length < 9223372036854775807) : Fn Try.prog X.G 30 [bvs a, bvs b] (.p (.b (decide (a = b)))) := by
  refine Fn.intro (I := []) hX hm 0 Try.func30 rfl rfl (by kernel_rfl) rfl ?_
  conv => whnf
  refine iteC (fun h => ?_) (fun h => ?_)
  · rw [decide_eq_false (by rintro rfl; simp at h)]
    rfl
  have h : a.length = b.length := Int.ofNat.inj (by simpa using h)
  conv => whnf
  refine LoopJ.intro (I := []) (base' := 0) hX hm (by kernel_rfl) (σ := Nat) (fun i => [(0, bvs a), (1, bvs b), (5, .p (.i .i64 i))]) (fun _ => []) (fun i => i ≤ a.length ∧ ∀ j (h1 : j < a.length) (h2 : j < b.length), j < i → a[j] = b[j]) (fun i => a.length - i) 0 []
    ⟨Nat.zero_le _, by intro j _ _ h; omega⟩ ⟨nofun, rfl, ⟨rfl, rfl, rfl, rfl, rfl, rfl, trivial⟩, trivial⟩ ?_
  intro i hi
  conv => whnf
  refine iteC (fun h1 => ?_) (fun h1 => ?_)
  · have h1 := of_decide_eq_true h1
    rw [List.length_map] at h1
    have hlt : i < a.length := by omega
    have hlt2 : i < b.length := by omega
    have ga := getM (f := PV.i .u8) hlt
    have gb := getM (f := PV.i .u8) hlt2
    conv => whnf
    conv => arg 2; repeat (first | rw [ga] | (whnf; arg 2))
    conv => whnf
    conv => arg 2; repeat (first | rw [gb] | (whnf; arg 2))
    conv => whnf
    refine iteC (fun h2 => ?_) (fun h2 => ?_)
    · have h2 : a[i] ≠ b[i] := by simpa using h2
      rw [decide_eq_false (by rintro rfl; exact h2 rfl)]
      rfl
    · have h2 : a[i] = b[i] := by simpa using h2
      conv => whnf
      refine ⟨i + 1, [], ⟨by omega, fun j g1 g2 hj => ?_⟩, by dsimp only; omega, nofun, rfl, ⟨rfl, rfl, rfl, rfl, incN (by omega), rfl, trivial⟩, trivial⟩
      by_cases hji : j = i
      · subst hji; exact h2
      · exact hi.2 j g1 g2 (by omega)
  · have h1 := of_decide_eq_false h1
    rw [List.length_map] at h1
    conv => whnf
    rw [decide_eq_true (List.ext_getElem h fun j g1 g2 => hi.2 j g1 g2 (by omega))]
    rfl
theorem f24_ok (k : Int) (h0 : 0 ≤ k) (h1 : k < 256) : Fn Try.prog X.G 24 [.p (.i .u8 k)] (.tup [.p (.i .i64 (widK k)), .p (.i .i64 (if widK k = 0 then 2 else 0))]) := by
  refine Fn.intro (I := []) hX hm 0 Try.func24 rfl rfl (by kernel_rfl) rfl ?_
  have c := f69_ok k h0 h1
  generalize widK k = w at *
  conv => whnf
  refine ⟨_, c, ?_⟩
  conv => whnf
  refine iteC (fun h => ?_) (fun h => ?_)
  · have h : w = 0 := by simpa using h
    subst h
    rfl
  · have h : w ≠ 0 := by simpa using h
    conv => whnf
    refine ⟨_, c, ?_⟩
    rw [if_neg h]
    rfl
theorem f25_ok (k : Int) : Fn Try.prog X.G 25 [.p (.i .u8 k)] (.tup [.p (.i .i64 (widK k)), .p (.i .i64 (if widK k = 0 then 2 else 0))]) := by
  refine Fn.intro (I := []) hX hm 0 Try.func25 rfl rfl (by kernel_rfl) rfl ?_
  have c := f71_ok k
  generalize widK k = w at *
  conv => whnf
  refine ⟨_, c, ?_⟩
  conv => whnf
  refine iteC (fun h => ?_) (fun h => ?_)
  · have h : w = 0 := by simpa using h
    subst h
    rfl
  · have h : w ≠ 0 := by simpa using h
    conv => whnf
    refine ⟨_, c, ?_⟩
    rw [if_neg h]
    rfl
theorem f26_ok (l : List Fd) (hl : ∀ f ∈ l, f.ok) (hll : l.length < 9223372036854775807) : Fn Try.prog X.G 26 [fvs l] (.tup [.p (.i .i64 (rowL l).length), .p (.i .i64 (rowE l))]) := by
  have e : (rowL l).length = (bv (rowL l)).length := by simp
  rw [e]
  refine Fn.intro (I := []) hX hm 0 Try.func26 rfl rfl (by kernel_rfl) rfl ?_
  conv => whnf
  refine ⟨_, f28_ok l hl hll, ?_⟩
  rfl
theorem f27_ok (l : List Fd) (hl : ∀ f ∈ l, f.ok) : Fn Try.prog X.G 27 [fvs l] (.tup [.p (.i .i64 (rowL l).length), .p (.i .i64 (rowE l))]) := by
  have e : (rowL l).length = (bv (rowL l)).length := by simp
  rw [e]
  refine Fn.intro (I := []) hX hm 0 Try.func27 rfl rfl (by kernel_rfl) rfl ?_
  conv => whnf
  refine ⟨_, f29_ok l hl, ?_⟩
  rfl
theorem rowL_len {l : List Fd} (hl : ∀ f ∈ l, f.ok) : (rowL l).length ≤ 1280 := by
  unfold rowL
  split
  · simp
  · rename_i h
    have := rowE_len (l := l) (by simpa using h)
    have := flatF_len fun f hf => (hl f hf).d.1
    omega
theorem f3_ok (k : Int) (h0 : 0 ≤ k) (hk1 : k < 256) (l : List Fd) (hl : ∀ f ∈ l, f.ok) : Fn Try.prog X.G 3 [.p (.i .u8 k), fvs l] (.p (.b true)) := by
  refine Fn.intro (I := []) hX hm 0 Try.func3 rfl rfl (by kernel_rfl) rfl ?_
  conv => whnf
  refine iteC (fun h => ?_) (fun h => ?_)
  · rfl
  have h := of_decide_eq_false h
  rw [List.length_map] at h
  conv => whnf
  refine LoopJ.intro (I := []) (base' := 0) hX hm (by kernel_rfl) (σ := Nat) (fun i => [(0, .p (.i .u8 k)), (1, fvs l), (5, .p (.i .i64 i))]) (fun _ => []) (fun i => i ≤ l.length) (fun i => l.length - i) 0 []
    (Nat.zero_le _) ⟨nofun, rfl, ⟨rfl, rfl, rfl, rfl, rfl, rfl, trivial⟩, trivial⟩ ?_
  intro i hi
  conv => whnf
  refine iteC (fun h1 => ?_) (fun h1 => ?_)
  · have h1 := of_decide_eq_true h1
    rw [List.length_map] at h1
    have hlt : i < l.length := by omega
    have hg := getM (f := fv) hlt
    have ho := hl _ (List.getElem_mem hlt)
    conv => whnf
    conv => arg 2; repeat (first | rw [hg] | (whnf; arg 2))
    conv => whnf
    refine ⟨_, f22_ok _ ho, ?_⟩
    conv => whnf
    conv => arg 2; repeat (first | rw [hg] | (whnf; arg 2))
    conv => whnf
    refine ⟨_, f23_ok _ ho, ?_⟩
    conv => whnf
    refine iteF (bne_self_eq_false _) ?_
    conv => whnf
    exact ⟨i + 1, [], by omega, by dsimp only; omega, nofun, rfl, ⟨rfl, rfl, rfl, rfl, incN (by omega), rfl, trivial⟩, trivial⟩
  · have c1 := f24_ok k h0 hk1
    have c2 := f25_ok k
    have c3 := f26_ok l hl (by omega)
    have c4 := f27_ok l hl
    have c5 := f28_ok l hl (by omega)
    have c6 := f29_ok l hl
    have c7 := f30_ok (rowL l) (rowL l) (by have := rowL_len hl; omega)
    rw [decide_eq_true rfl] at c7
    generalize (if widK k = 0 then (2 : Int) else 0) = ek at *
    generalize widK k = wk at *
    generalize rowE l = el at *
    conv => whnf
    repeat (first
      | (refine ⟨_, c1, ?_⟩; conv => whnf)
      | (refine ⟨_, c2, ?_⟩; conv => whnf)
      | (refine ⟨_, c3, ?_⟩; conv => whnf)
      | (refine ⟨_, c4, ?_⟩; conv => whnf)
      | (refine ⟨_, c5, ?_⟩; conv => whnf)
      | (refine ⟨_, c6, ?_⟩; conv => whnf)
      | (refine ⟨_, c7, ?_⟩; conv => whnf)
      | (refine iteT (beq_self_eq_true _) ?_; conv => whnf)
      | (refine iteT rfl ?_; conv => whnf))
    rfl
end Go.Proofs.Ytjgffjofgeppoaa.AM
