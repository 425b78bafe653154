/- FrameWrites: the walk of the law. -/
import Derived.Test.YtjgffjofgeppoaaFrameE
namespace Go.Proofs.Ytjgffjofgeppoaa.AM
open Go Go.Proofs
set_option maxRecDepth 100000
theorem bytesF_len {f : Fr} (hf : f.ok) : (bytesF f).length = if f.k = 2 then 88 else 59 := by
  have hbt := bytesT_len hf.tk
  unfold bytesF
  split
  · exact bytesC_len hf.cm
  · simp [bytesR, bytesU_length, hbt]
theorem writeF_len {f : Fr} (hf : f.ok) : (writeF f).length ≤ 88 := by
  unfold writeF
  split
  · rw [bytesF_len hf]
    split <;> decide
  · simp
theorem befC_len (c : Cm) : (befC c).length ≤ 56 := by
  unfold befC
  split
  · rw [msgC_len]; decide
  · simp
theorem f12_ok (f : Fr) (hf : f.ok) : Fn Try.prog X.G 12 [.p (frv f)] (.p (.b true)) := by
  refine Fn.intro (I := []) hX hm 0 Try.func12 rfl rfl (by kernel_rfl) rfl ?_
  have c1 := f52_ok f hf
  have c2 := f53_ok f hf
  have c3 := f54_ok f hf
  have c4 := f55_ok f hf
  have c5 := f56_ok f.cm hf.cm
  have c6 := f57_ok f.cm hf.cm
  have c7 := f58_ok f hf
  have c8 := f59_ok f hf
  have wl := writeF_len hf
  have bl := befC_len f.cm
  generalize writeF f = w at *
  generalize tenF f = t at *
  generalize chkFr f = e at *
  generalize befC f.cm = b at *
  generalize befE f.cm = g at *
  have c9 := f30_ok w w (by omega)
  have c10 := f30_ok b b (by omega)
  rw [decide_eq_true rfl] at c9 c10
  conv => whnf
  refine ⟨_, c1, ?_⟩
  conv => whnf
  refine ⟨_, c2, ?_⟩
  conv => whnf
  refine ⟨_, c3, ?_⟩
  conv => whnf
  refine ⟨_, c4, ?_⟩
  conv => whnf
  refine ⟨_, c5, ?_⟩
  conv => whnf
  refine ⟨_, c6, ?_⟩
  conv => whnf
  refine ⟨_, c7, ?_⟩
  conv => whnf
  refine ⟨_, c8, ?_⟩
  conv => whnf
  refine iteT (beq_self_eq_true _) ?_
  conv => whnf
  refine ⟨_, c9, ?_⟩
  conv => whnf
  refine iteT rfl ?_
  conv => whnf
  refine iteT (beq_self_eq_true _) ?_
  conv => whnf
  refine iteT (beq_self_eq_true _) ?_
  conv => whnf
  refine iteT (beq_self_eq_true _) ?_
  conv => whnf
  refine ⟨_, c10, ?_⟩
  conv => whnf
  refine iteT rfl ?_
  conv => whnf
  refine iteT (beq_self_eq_true _) ?_
  rfl
end Go.Proofs.Ytjgffjofgeppoaa.AM
