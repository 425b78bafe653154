/- TopTokens: the check. -/
import Derived.Test.YtipmkjfbdflneaaDoorTopC
import Derived.Test.YtipmkjfbdflneaaDoorTopD
namespace Go.Proofs.YtipmkjfbdflneaaDoor.AM
open Go Go.Proofs
set_option maxRecDepth 100000

set_option maxHeartbeats 8000000 in
theorem f3_ok (s : List Int) (f : Fr) (hs : byt s) (ls : s.length = 32) (hf : f.ok) : Fn Tryd.prog X.G 3 [.p (dv s), .p (frv f)] (.p (.b true)) := by
  refine Fn.intro (I := []) hX hm 0 Tryd.func3 rfl rfl (by kernel_rfl) rfl ?_
  have c0 := f5_ok f hf
  by_cases h : okF f
  · rw [chkFr_ok h] at c0
    have c1 := f6_ok
    have c2 := f7_ok s f hs ls hf
    have c3 := f8_ok f hf
    rw [show writeF f = bytesF f from by unfold writeF; rw [if_pos h]] at c3
    rw [chkFr_ok h] at c2 c3
    have hbb := bytesF_byt hf h
    have hbl := bytesF_len hf
    have c4 := f9_ok (bytesF f) hbb
    rw [parse_bytesF hf h] at c4
    have c5 := f10_ok (bytesF f) hbb (by rw [hbl]; split <;> decide)
    rw [show parseP (bytesF f) = (r0, 12) from by unfold parseP; rw [if_neg (fun hg => by have := hg.1; rw [hbl] at this; split at this <;> cases this)]] at c5
    have hsm := congrArg (fun b => !b) (same_frT f)
    have hsm : (!PV.same (frv f) (frv f)) = false := hsm
    have hrb := rightB_ok (s := s) h
    rcases okF_cases h with ⟨hk, _, h16, _⟩ | ⟨hk, _, hc, _⟩
    · have q : (f.k == 2) = false := beq_eq_false_iff_ne.2 (by omega)
      have hR : rightB s f = (isK f.tk.t f.tk.e && decide (tagD (tagD s (keyM f.tk.t f.tk.e)) (msgT f.tk) = f.tk.d)) := by
        rw [hrb]; unfold trueB; rw [if_neg (by omega)]
      have c6 := f12_ok s f (rightB s f) hs ls hf hk h16 h hR
      rw [show bytesF f = bytesR f from by unfold bytesF; rw [if_neg (by omega)]] at c3 c4 c5
      clear hR hrb hbb hbl
      generalize bytesR f = b at *
      generalize rightB s f = R at *
      cases R
      all_goals
        conv => whnf
        refine ⟨_, c0, ?_⟩
        conv => whnf
        refine iteF rfl ?_
        conv => whnf
        refine ⟨_, c1, ?_⟩
        iterate 2 (try (conv => whnf
                        first | refine iteT rfl ?_ | refine iteF rfl ?_))
        conv => whnf
        refine ⟨_, c2, ?_⟩
        conv => whnf
        refine ⟨_, c3, ?_⟩
        conv => whnf
        refine ⟨_, c4, ?_⟩
        conv => whnf
        refine ⟨_, c2, ?_⟩
        conv => whnf
        refine ⟨_, c5, ?_⟩
        iterate 16 (try (conv => whnf
                         first | refine iteF hsm ?_ | refine iteF q ?_ | refine iteT rfl ?_ | refine iteF rfl ?_))
        conv => whnf
        refine ⟨_, c6, ?_⟩
        conv => whnf
        refine iteT rfl ?_
        rfl
    · have q : (f.k == 2) = true := beq_iff_eq.2 hk
      have hR : rightB s f = decide (sgD s f.cm = f.cm.d) := by rw [hrb]; unfold trueB; rw [if_pos hk]
      have hbm : (bytesF f).take 56 = msgC f.cm := by
        unfold bytesF
        rw [if_pos hk]
        exact List.take_left' (msgC_len _)
      have hb88 : (bytesF f).length = 88 := by rw [hbl, if_pos hk]
      have c6 := f11_ok s f.cm (bytesF f) (rightB s f) hs ls hf.cm hc hb88 hbm hR
      clear hR hrb hbb hbl hbm hb88
      generalize bytesF f = b at *
      generalize rightB s f = R at *
      cases R
      all_goals
        conv => whnf
        refine ⟨_, c0, ?_⟩
        conv => whnf
        refine iteF rfl ?_
        conv => whnf
        refine ⟨_, c1, ?_⟩
        iterate 2 (try (conv => whnf
                        first | refine iteT rfl ?_ | refine iteF rfl ?_))
        conv => whnf
        refine ⟨_, c2, ?_⟩
        conv => whnf
        refine ⟨_, c3, ?_⟩
        conv => whnf
        refine ⟨_, c4, ?_⟩
        conv => whnf
        refine ⟨_, c2, ?_⟩
        conv => whnf
        refine ⟨_, c5, ?_⟩
        iterate 16 (try (conv => whnf
                         first | refine iteF hsm ?_ | refine iteT q ?_ | refine iteT rfl ?_ | refine iteF rfl ?_))
        conv => whnf
        refine ⟨_, c6, ?_⟩
        conv => whnf
        refine iteT rfl ?_
        rfl
  · rw [chkFr_no h] at c0
    conv => whnf
    refine ⟨_, c0, ?_⟩
    conv => whnf
    refine iteT rfl ?_
    rfl
end Go.Proofs.YtipmkjfbdflneaaDoor.AM
