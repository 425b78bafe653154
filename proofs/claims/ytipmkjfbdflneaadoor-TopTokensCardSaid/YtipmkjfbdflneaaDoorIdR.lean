/- Tables: what is accepted of what is right. -/
import Derived.Test.YtipmkjfbdflneaaDoorIdI
import Derived.Test.YtipmkjfbdflneaaDoorKeyR
namespace Go.Proofs.YtipmkjfbdflneaaDoor.AM
open Go Go.Proofs
set_option maxRecDepth 100000

theorem rightB_ok {s : List Int} {f : Fr} (h : okF f) : rightB s f = trueB s f := by unfold rightB; rw [if_pos h]
theorem tk_bare {a b : Tk} (h : bareK a = bareK b) (hd : a.d = b.d) : a = b := by
  cases a; cases b
  simp only [bareK, Tk.mk.injEq] at h ⊢
  exact ⟨h.1, h.2.1, h.2.2.1, h.2.2.2.1, hd⟩
theorem cm_plain {a b : Cm} (h : plainC a = plainC b) (hd : a.d = b.d) : a = b := by
  cases a; cases b
  simp only [plainC, Cm.mk.injEq] at h ⊢
  simp_all
/-- A table of what is right accepts what is right and there. -/
theorem real_iff {s : List Int} {d : Id} {f : Fr} (hF : d.fine) (h : okF f) (hT : ∀ t ∈ d.ts, rightB s (tokF t) = true) (hC : ∀ c ∈ d.cs, rightB s (comF c) = true) : sameB d f = (rightB s f && thereB d f) := by
  rw [rightB_ok h]
  rcases okF_cases h with ⟨hk, _, h16, _⟩ | ⟨hk, _, hc, _⟩
  · have e : trueB s f = trueB s (tokF f.tk) := by
      unfold trueB
      rw [if_neg (by omega), if_neg (show ¬ (tokF f.tk).k = 2 from show ¬ (1 : Int) = 2 by decide)]
      rfl
    rw [e]
    by_cases hth : thereP d f
    · obtain ⟨_, t, ht, hb⟩ : f.k = 1 ∧ ∃ t ∈ d.ts, bareK t = bareK f.tk := hth.elim id fun h => by omega
      have hr := hT t ht
      rw [rightB_ok (tokF_okF.2 (hF.valid.1 t ht))] at hr
      rw [thereB_t hth, Bool.and_true]
      have hm : msgT t = msgT f.tk := by show msgT (bareK t) = msgT (bareK f.tk); rw [hb]
      have h1 : t.t = f.tk.t := by show (bareK t).t = (bareK f.tk).t; rw [hb]
      have h2 : t.e = f.tk.e := by show (bareK t).e = (bareK f.tk).e; rw [hb]
      unfold trueB at hr ⊢
      rw [if_neg (show ¬ (tokF t).k = 2 from show ¬ (1 : Int) = 2 by decide)] at hr
      rw [if_neg (show ¬ (tokF f.tk).k = 2 from show ¬ (1 : Int) = 2 by decide)]
      have hr : (isK t.t t.e && decide (tagD (tagD s (keyM t.t t.e)) (msgT t) = t.d)) = true := hr
      show sameB d f = (isK f.tk.t f.tk.e && decide (tagD (tagD s (keyM f.tk.t f.tk.e)) (msgT f.tk) = f.tk.d))
      rw [h1, h2, hm, Bool.and_eq_true, decide_eq_true_eq] at hr
      rw [hr.1, hr.2, Bool.true_and]
      exact sameB_dec ⟨fun h => by
        have hm : f.tk ∈ d.ts := h.elim (fun h => h.2) fun h => by omega
        rw [once_eq hF.once.1 ht hm hb], fun h => .inl ⟨hk, tk_bare hb h ▸ ht⟩⟩
    · rw [thereB_f hth, Bool.and_false, sameB_f fun h => hth (same_there h)]
  · have e : trueB s f = decide (sgD s f.cm = f.cm.d) := by unfold trueB; rw [if_pos hk]
    rw [e]
    by_cases hth : thereP d f
    · obtain ⟨_, c, hcm, hb⟩ : f.k = 2 ∧ ∃ c ∈ d.cs, plainC c = plainC f.cm := hth.elim (fun h => by omega) id
      have hr := hC c hcm
      rw [rightB_ok (comF_okF.2 (hF.valid.2 c hcm))] at hr
      rw [thereB_t hth, Bool.and_true]
      unfold trueB at hr
      rw [if_pos (show (comF c).k = 2 from rfl)] at hr
      have hr : decide (sgD s c = c.d) = true := hr
      rw [decide_eq_true_eq] at hr
      have hs : sgD s c = sgD s f.cm := by show sgD s (plainC c) = sgD s (plainC f.cm); rw [hb]
      rw [← hs, hr]
      exact sameB_dec ⟨fun h => by
        have hm : f.cm ∈ d.cs := h.elim (fun h => by omega) fun h => h.2
        rw [once_eq hF.once.2 hcm hm hb], fun h => .inr ⟨hk, cm_plain hb h ▸ hcm⟩⟩
    · rw [thereB_f hth, Bool.and_false, sameB_f fun h => hth (same_there h)]
theorem f18_ok (d : Id) (f : Fr) (hn : d.ts.length ≤ 100 ∧ d.cs.length ≤ 100) (h : okF f) : Fn Tryd.prog X.G 18 [idv d, .p (frv f)] (.p (.b (thereB d f))) := by
  refine Fn.intro (I := []) hX hm 0 Tryd.func18 rfl rfl (by kernel_rfl) rfl ?_
  have c1 := f50_ok d.ts f.tk (by omega)
  have c2 := f49_ok d.cs f.cm (by omega)
  rcases okF_cases h with ⟨hk, _, _, _⟩ | ⟨hk, _, _, _⟩
  · have q : (f.k == 2) = false := beq_eq_false_iff_ne.2 (by omega)
    rcases atT_spec d.ts f.tk with ⟨e, hno⟩ | ⟨j, hj, e, hb⟩
    · rw [e] at c1
      rw [thereB_f fun h => hno (h.elim (fun h => h.2) fun h => by omega)]
      conv => whnf
      refine iteF q ?_
      conv => whnf
      refine ⟨_, c1, ?_⟩
      conv => whnf
      refine iteF rfl ?_
      rfl
    · rw [e] at c1
      rw [thereB_t (.inl ⟨hk, _, List.getElem_mem hj, hb⟩)]
      conv => whnf
      refine iteF q ?_
      conv => whnf
      refine ⟨_, c1, ?_⟩
      conv => whnf
      refine iteT (decide_eq_true (by omega)) ?_
      rfl
  · have q : (f.k == 2) = true := beq_iff_eq.2 hk
    rcases atC_spec d.cs f.cm with ⟨e, hno⟩ | ⟨j, hj, e, hb⟩
    · rw [e] at c2
      rw [thereB_f fun h => hno (h.elim (fun h => by omega) fun h => h.2)]
      conv => whnf
      refine iteT q ?_
      conv => whnf
      refine ⟨_, c2, ?_⟩
      conv => whnf
      refine iteF rfl ?_
      rfl
    · rw [e] at c2
      rw [thereB_t (.inr ⟨hk, _, List.getElem_mem hj, hb⟩)]
      conv => whnf
      refine iteT q ?_
      conv => whnf
      refine ⟨_, c2, ?_⟩
      conv => whnf
      refine iteT (decide_eq_true (by omega)) ?_
      rfl
end Go.Proofs.YtipmkjfbdflneaaDoor.AM
