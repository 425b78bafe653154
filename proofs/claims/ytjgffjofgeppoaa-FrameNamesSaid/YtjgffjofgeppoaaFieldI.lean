/- Fields: the chapter's examples; the kinds of a row. -/
import Derived.Test.YtjgffjofgeppoaaFieldH
namespace Go.Proofs.Ytjgffjofgeppoaa.AM
open Go Go.Proofs
set_option maxRecDepth 100000
abbrev numF (k n : Int) : Fd := ⟨k, n, zd⟩
theorem numF_ok {k n : Int} (h1 : 0 ≤ k ∧ k < 256) (h2 : 0 ≤ n ∧ n < 18446744073709551616) : (numF k n).ok :=
  ⟨h1, h2, by simp, fun x hx => by have := List.eq_of_mem_replicate hx; omega⟩
theorem f45_ok (k n : Int) : Fn Try.prog X.G 45 [.p (.i .u8 k), .p (.i .u64 n)] (.p (fv (numF k n))) := by
  refine Fn.intro (I := []) hX hm 0 Try.func45 rfl rfl (by kernel_rfl) rfl ?_
  conv => whnf
  rfl
def gf : List Fd := [numF 4 258, numF 1 1, numF 3 3]
theorem gf_ok : ∀ f ∈ gf, f.ok := by
  intro f hf
  simp only [gf, List.mem_cons, List.not_mem_nil, or_false] at hf
  rcases hf with rfl | rfl | rfl <;> exact numF_ok (by decide) (by decide)
theorem f80_ok : Fn Try.prog X.G 80 [] (fvs gf) := by
  refine Fn.intro (I := []) hX hm 0 Try.func80 rfl rfl (by kernel_rfl) rfl ?_
  conv => whnf
  refine ⟨_, f45_ok 4 258, ?_⟩
  conv => whnf
  refine ⟨_, f45_ok 1 1, ?_⟩
  conv => whnf
  refine ⟨_, f45_ok 3 3, ?_⟩
  conv => whnf
  rfl
theorem f81_ok (k : Int) (b : List Int) (hk : 0 ≤ k ∧ k < 256) (hb : byt b) (hl : b.length ≤ 100000) : Fn Try.prog X.G 81 [.p (.i .u8 k), bvs b] (.p (.b ((readL [k] b).2 == 12))) := by
  refine Fn.intro (I := []) hX hm 0 Try.func81 rfl rfl (by kernel_rfl) rfl ?_
  have c := f31_ok [k] b (fun x hx => by simp at hx; subst hx; exact hk) hb hl (by simp)
  conv => whnf
  refine ⟨_, c, ?_⟩
  conv => whnf
  refine iteC (fun h => ?_) (fun h => ?_)
  all_goals (rw [h]; rfl)
theorem byt_of {l : List Int} (h : l.all (fun x => decide (0 ≤ x) && decide (x < 256)) = true) : byt l := fun x hx => by
  have := List.all_eq_true.1 h x hx
  simpa using this
theorem f37_ok : Fn Try.prog X.G 37 [] (.p (.b true)) := by
  refine Fn.intro (I := []) hX hm 0 Try.func37 rfl rfl (by kernel_rfl) rfl ?_
  have c1 := f28_ok gf gf_ok (by decide)
  rw [show rowL gf = [0, 0, 1, 2, 1, 0, 3] from by rfl, show rowE gf = 0 from by rfl] at c1
  have c2 := f31_ok [4, 1, 3] [0, 0, 1, 2, 1, 0, 3] (byt_of rfl) (byt_of rfl) (by decide) (by decide)
  rw [show readL [4, 1, 3] [0, 0, 1, 2, 1, 0, 3] = (gf, 0) from by rfl] at c2
  have c3 := f30_ok [0, 0, 1, 2, 1, 0, 3] [0, 0, 1, 2, 1, 0, 3] (by decide)
  have c4 := f35_ok gf gf (by decide)
  rw [decide_eq_true rfl] at c3 c4
  have c5 := f81_ok 1 [2] (by decide) (byt_of rfl) (by decide)
  have c6 := f81_ok 7 [1] (by decide) (byt_of rfl) (by decide)
  have c7 := f22_ok (numF 2 256) (numF_ok (by decide) (by decide))
  conv => whnf
  repeat (first
    | (refine iteT rfl ?_; conv => whnf)
    | (refine ⟨_, f80_ok, ?_⟩; conv => whnf)
    | (refine ⟨_, c1, ?_⟩; conv => whnf)
    | (refine ⟨_, c2, ?_⟩; conv => whnf)
    | (refine ⟨_, c3, ?_⟩; conv => whnf)
    | (refine ⟨_, c4, ?_⟩; conv => whnf)
    | (refine ⟨_, c5, ?_⟩; conv => whnf)
    | (refine ⟨_, c6, ?_⟩; conv => whnf)
    | (refine ⟨_, f45_ok 2 256, ?_⟩; conv => whnf)
    | (refine ⟨_, c7, ?_⟩; conv => whnf))
  rfl
def kindsL (l : List Fd) : List Int := l.map Fd.k
theorem kinds_step {l : List Fd} {i : Nat} (h : i < l.length) : kindsL (l.take (i + 1)) = kindsL (l.take i) ++ [l[i].k] := by
  unfold kindsL
  rw [List.take_add_one, List.map_append]
  simp [h]
theorem f38_ok (l : List Fd) (hl : l.length ≤ 100000) : Fn Try.prog X.G 38 [fvs l] (bvs (kindsL l)) := by
  refine Fn.intro (I := []) hX hm 0 Try.func38 rfl rfl (by kernel_rfl) rfl ?_
  conv => whnf
  refine LoopJ.nil 3 1000 ush rfl rfl ?_
  refine LoopJ.intro (I := []) (base' := 0) hX hm (by kernel_rfl) (σ := Nat) (fun i => [(0, fvs l), (3, .own 1000), (4, .p (.i .i64 i))]) (fun i => [(1000, .els true ush (bv (kindsL (l.take i))))]) (fun i => i ≤ l.length) (fun i => l.length - i) 0 []
    (Nat.zero_le _) ⟨nofun, rfl, ⟨rfl, rfl, rfl, rfl, rfl, rfl, trivial⟩, ⟨rfl, rfl, trivial⟩⟩ ?_
  intro i hi
  conv => whnf
  refine iteC (fun h1 => ?_) (fun h1 => ?_)
  · have h1 := of_decide_eq_true h1
    rw [List.length_map] at h1
    have hlt : i < l.length := by omega
    have hg := getM (f := fv) hlt
    have hll : (kindsL (l.take i)).length = i := by simp [kindsL]; omega
    conv => whnf
    conv => arg 2; repeat (first | rw [hg] | (whnf; arg 2))
    conv => whnf
    conv => arg 2; repeat (first | rw [capN _ (by simp [hll]; omega)] | (whnf; arg 2))
    conv => whnf
    refine ⟨i + 1, [(1000, 144)], by omega, by dsimp only; omega, nofun, rfl, ⟨rfl, rfl, rfl, rfl, incN (by omega), rfl, trivial⟩, ⟨?_, rfl, trivial⟩⟩
    rw [kinds_step hlt, bv_snoc]
    rfl
  · have h1 := of_decide_eq_false h1
    rw [List.length_map] at h1
    have htk : l.take i = l := List.take_of_length_le (by omega)
    rw [htk]
    conv => whnf
    rfl
end Go.Proofs.Ytjgffjofgeppoaa.AM
