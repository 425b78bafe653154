/- ReplyWrites, ReplyReads: the walks of the laws; the chapter's examples. -/
import Derived.Test.YtjgffjofgeppoaaReplyD
namespace Go.Proofs.Ytjgffjofgeppoaa.AM
open Go Go.Proofs
set_option maxRecDepth 100000
theorem same_rp (x y : Rp) : PV.same (rpv x) (rpv y) = decide (x = y) := by
  obtain ⟨a, b, c, d, e, f⟩ := x
  obtain ⟨a', b', c', d', e', f'⟩ := y
  simp only [PV.same, PV.sameL, Rp.mk.injEq, Bool.and_true]
  by_cases h1 : a = a' <;> by_cases h2 : b = b' <;> by_cases h3 : c = c' <;> by_cases h4 : d = d' <;> by_cases h5 : e = e' <;> by_cases h6 : f = f' <;> simp [h1, h2, h3, h4, h5, h6]
theorem same_rpT (x : Rp) : PV.same (rpv x) (rpv x) = true := by rw [same_rp]; exact decide_eq_true rfl
theorem writeP_len (r : Rp) : (writeP r).length ≤ 32 := by
  unfold writeP
  split
  · rw [bytesP_len]; exact Nat.le_refl _
  · simp
theorem f6_ok (r : Rp) (hr : r.ok) (c : Int) (hc : 0 ≤ c ∧ c < 256) : Fn Try.prog X.G 6 [.p (rpv r), .p (.i .u8 c)] (.p (.b true)) := by
  refine Fn.intro (I := []) hX hm 0 Try.func6 rfl rfl (by kernel_rfl) rfl ?_
  have c1 := f39_ok c hc
  have c2 := f40_ok c hc
  have c3 := f41_ok r hr
  have c4 := f42_ok r hr
  have c5 := f43_ok r hr
  have c6 := f44_ok r hr
  have c7 := f30_ok (writeP r) (writeP r) (by have := writeP_len r; omega)
  rw [decide_eq_true rfl] at c7
  rw [show (if okP r then bytesP r else []) = writeP r from rfl] at c4
  generalize codeL c = u at *
  obtain ⟨u, e⟩ := u
  dsimp only at c1 c2
  generalize chkP r = k at *
  generalize writeP r = wr at *
  have hs := same_rpT u
  conv => whnf
  refine ⟨_, c1, ?_⟩
  conv => whnf
  refine ⟨_, c2, ?_⟩
  conv => whnf
  refine ⟨_, c3, ?_⟩
  conv => whnf
  refine ⟨_, c4, ?_⟩
  conv => whnf
  refine ⟨_, c5, ?_⟩
  conv => whnf
  refine ⟨_, c6, ?_⟩
  conv => whnf
  refine iteT (beq_self_eq_true _) ?_
  conv => whnf
  refine iteT hs ?_
  conv => whnf
  refine iteT (beq_self_eq_true _) ?_
  conv => whnf
  refine ⟨_, c7, ?_⟩
  conv => whnf
  refine iteT rfl ?_
  conv => whnf
  refine iteT (beq_self_eq_true _) ?_
  rfl
theorem f11_ok (b : List Int) (hb : byt b) : Fn Try.prog X.G 11 [bvs b] (.p (.b true)) := by
  refine Fn.intro (I := []) hX hm 0 Try.func11 rfl rfl (by kernel_rfl) rfl ?_
  conv => whnf
  refine iteC (fun h => ?_) (fun h => ?_)
  · rfl
  have h := of_decide_eq_false h
  rw [List.length_map] at h
  have c1 := f50_ok b hb (by omega)
  have c2 := f51_ok b hb (by omega)
  have c3 := f30_ok b b (by omega)
  rw [decide_eq_true rfl] at c3
  generalize parseP b = u at *
  obtain ⟨u, e⟩ := u
  dsimp only at c1 c2
  have hs := same_rpT u
  conv => whnf
  conv => arg 2; repeat (first | rw [capN _ (by simp; omega)] | (whnf; arg 2))
  conv => whnf
  refine ⟨_, c1, ?_⟩
  conv => whnf
  refine ⟨_, c2, ?_⟩
  conv => whnf
  refine iteT hs ?_
  conv => whnf
  refine iteT (beq_self_eq_true _) ?_
  conv => whnf
  refine ⟨_, c3, ?_⟩
  conv => whnf
  refine iteT rfl ?_
  rfl
def gP : Rp := ⟨3, 2, 5, 0, 258, 3⟩
theorem gP_ok : gP.ok := ⟨by decide, by decide, by decide, by decide, by decide, by decide⟩
theorem f60_ok : Fn Try.prog X.G 60 [] (.p (rpv gP)) := by
  refine Fn.intro (I := []) hX hm 0 Try.func60 rfl rfl (by kernel_rfl) rfl ?_
  conv => whnf
  rfl
def gPb : List Int := [3, 0, 0, 0, 0, 0, 0, 2, 0, 0, 0, 5, 0, 0, 0, 0, 0, 0, 1, 2, 0, 0, 0, 0, 0, 0, 0, 3, 0, 0, 0, 0]
def onePb : List Int := 1 :: List.replicate 31 0
theorem f61_ok : Fn Try.prog X.G 61 [] (.p (.b true)) := by
  refine Fn.intro (I := []) hX hm 0 Try.func61 rfl rfl (by kernel_rfl) rfl ?_
  have c1 := f39_ok 1 (by decide)
  rw [show codeL 1 = (⟨1, 0, 0, 0, 0, 0⟩, 0) from by decide] at c1
  have c2 := f41_ok ⟨1, 0, 0, 0, 0, 0⟩ (bare_ok (by decide))
  rw [show writeP ⟨1, 0, 0, 0, 0, 0⟩ = onePb from by decide, show chkP ⟨1, 0, 0, 0, 0, 0⟩ = 0 from by decide] at c2
  have c3 := f41_ok gP gP_ok
  rw [show writeP gP = gPb from by decide, show chkP gP = 0 from by decide] at c3
  have c4 := f30_ok onePb onePb (by decide)
  have c5 := f30_ok gPb gPb (by decide)
  rw [decide_eq_true rfl] at c4 c5
  have c6 := f43_ok ⟨2, 2, 5, 0, 258, 3⟩ ⟨by decide, by decide, by decide, by decide, by decide, by decide⟩
  rw [show chkP ⟨2, 2, 5, 0, 258, 3⟩ = 8 from by decide] at c6
  conv => whnf
  repeat (first
    | (refine iteT rfl ?_; conv => whnf)
    | (refine ⟨_, f60_ok, ?_⟩; conv => whnf)
    | (refine ⟨_, c1, ?_⟩; conv => whnf)
    | (refine ⟨_, c2, ?_⟩; conv => whnf)
    | (refine ⟨_, c3, ?_⟩; conv => whnf)
    | (refine ⟨_, c4, ?_⟩; conv => whnf)
    | (refine ⟨_, c5, ?_⟩; conv => whnf)
    | (refine ⟨_, c6, ?_⟩; conv => whnf))
  rfl
end Go.Proofs.Ytjgffjofgeppoaa.AM
