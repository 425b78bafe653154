/- Keys: KeysRight: the walk of the law. -/
import Derived.Test.YtkcnchlahhlkfaaDoorKeyX
namespace Go.Proofs.YtkcnchlahhlkfaaDoor.AM
open Go Go.Proofs
set_option maxRecDepth 100000

theorem rightB_ok' {s : List Int} {f : Fr} (h : okF f) : rightB s f = trueB s f := by unfold rightB; rw [if_pos h]
theorem chk_ok' {f : Fr} (h : okF f) : chkFr f = 0 := by unfold chkFr; rw [if_pos h]
theorem withD_ok {c : Cm} {d : List Int} (hc : c.ok) (hd : d.length = 32 ∧ byt d) : (withD c d).ok := ⟨hc.op, hc.t, hc.u, hc.l0, hc.l1, hc.l2, hc.us, hc.en, hc.x, hd⟩
theorem c00_ok' : c00.ok := c00_ok
set_option maxHeartbeats 8000000 in
theorem f14_ok (s : List Int) (f : Fr) (o : List Int) (hs : byt s) (ls : s.length = 32) (hf : f.ok) (ho : byt o) (lo : o.length = 32) :
    Fn Tryd.prog X.G 14 [.p (dv s), .p (frv f), .p (dv o)] (.p (.b true)) := by
  refine Fn.intro (I := []) hX hm 0 Tryd.func14 rfl rfl (by kernel_rfl) rfl ?_
  have c0 := f50_ok
  have c1 := f17_ok f hf
  by_cases h : okF f
  case neg =>
    unfold chkFr at c1
    rw [if_neg h] at c1
    conv => whnf
    refine ⟨_, c1, ?_⟩
    conv => whnf
    refine iteT rfl ?_
    conv => whnf
    refine ⟨_, c0, ?_⟩
    conv => whnf
    refine iteT rfl ?_
    rfl
  rw [chk_ok' h] at c1
  have c2 := f19_ok s f hs ls hf
  rw [rightB_ok' h, chk_ok' h] at c2
  by_cases hk2 : f.k = 2
  · have hC := okF_C h hk2
    have hN : noRq f := by
      rcases h with x | x
      · exact absurd x.1 (by omega)
      · exact x.2.1
    have hq : (f.k == 2) = true := beq_iff_eq.2 hk2
    have c3 := f45_ok s f.cm hs ls hf.cm
    unfold signC signE at c3
    rw [if_pos hC, if_pos hC] at c3
    have hD : (sgD s f.cm).length = 32 ∧ byt (sgD s f.cm) := ⟨sgD_len _ _, sgD_byt _ _⟩
    have c4 := f48_ok (withD f.cm (sgD s f.cm))
    have o1 : okF (cmF (withD f.cm (sgD s f.cm))) := Or.inr ⟨rfl, ⟨rfl, rfl, rfl⟩, hC⟩
    have c5 := f19_ok s (cmF (withD f.cm (sgD s f.cm))) hs ls ⟨⟨(by decide : (0 : Int) ≤ 2), (by decide : (2 : Int) < 256)⟩, zT_ok, ⟨(by decide : (0 : Int) ≤ 0), (by decide : (0 : Int) < 65536)⟩, ⟨(by decide : (0 : Int) ≤ 0), (by decide : (0 : Int) < 4294967296)⟩, withD_ok hf.cm hD⟩
    rw [rightB_ok' o1, chk_ok' o1, show trueB s (cmF (withD f.cm (sgD s f.cm))) = decide (sgD s f.cm = sgD s f.cm) from by unfold trueB; rw [if_pos (show (cmF (withD f.cm (sgD s f.cm))).k = 2 from rfl)]; rfl, decide_eq_true rfl] at c5
    have o2 : okF ⟨f.k, f.tk, f.ep, f.co, withD f.cm o⟩ := Or.inr ⟨hk2, hN, hC⟩
    have c6 := f19_ok s ⟨f.k, f.tk, f.ep, f.co, withD f.cm o⟩ hs ls ⟨hf.k, hf.tk, hf.ep, hf.co, withD_ok hf.cm ⟨lo, ho⟩⟩
    rw [rightB_ok' o2, chk_ok' o2, show trueB s ⟨f.k, f.tk, f.ep, f.co, withD f.cm o⟩ = decide (sgD s f.cm = o) from by unfold trueB; rw [if_pos hk2]; rfl] at c6
    unfold trueB at c2
    rw [if_pos hk2] at c2
    unfold withD at c3 c4 c5 c6
    have s1 := same_dv f.cm.d (sgD s f.cm)
    have s2 := same_dv o (sgD s f.cm)
    generalize sgD s f.cm = d at *
    by_cases e1 : d = f.cm.d
    all_goals
      first | rw [decide_eq_true e1] at c2; rw [decide_eq_true e1.symm] at s1 | rw [decide_eq_false e1] at c2; rw [decide_eq_false (Ne.symm e1)] at s1
      by_cases e2 : d = o
      all_goals
        first | rw [decide_eq_true e2] at c6; rw [decide_eq_true e2.symm] at s2 | rw [decide_eq_false e2] at c6; rw [decide_eq_false (Ne.symm e2)] at s2
        conv => whnf
        refine ⟨_, c1, ?_⟩
        repeat' (conv => whnf
                 first
                  | refine ⟨_, c2, ?_⟩
                  | refine ⟨_, c3, ?_⟩
                  | refine ⟨_, c4, ?_⟩
                  | refine ⟨_, c5, ?_⟩
                  | refine ⟨_, c6, ?_⟩
                  | refine ⟨_, c0, ?_⟩
                  | refine iteT hq ?_
                  | refine iteT rfl ?_
                  | refine iteF rfl ?_
                  | refine iteT s1 ?_
                  | refine iteF s1 ?_
                  | refine iteT s2 ?_
                  | refine iteF s2 ?_)
    all_goals rfl
  · have h1 : f.k = 1 ∧ f.cm = c00 ∧ f.tk.t < 16 := h.resolve_right fun x => hk2 x.1
    have hq : (f.k == 2) = false := beq_eq_false_iff_ne.2 hk2
    have c3 := f27_ok s f.tk hs ls hf.tk
    have hK : isK f.tk.t f.tk.e = decide (f.tk.e ≤ 1000000) := by unfold isK; rw [decide_eq_true h1.2.2]; rfl
    unfold trueB at c2
    rw [if_neg hk2] at c2
    unfold mintK keyE at c3
    have c4 := f49_ok (mintT (tagD s (keyM f.tk.t f.tk.e)) f.tk) f.ep f.co
    have c5 := f19_ok s (rqF (mintT (tagD s (keyM f.tk.t f.tk.e)) f.tk) f.ep f.co) hs ls (rqF_ok (mint_ok hf.tk) hf.ep hf.co)
    rw [rightB_rq _ _ _ _ (show (mintT (tagD s (keyM f.tk.t f.tk.e)) f.tk).t < 16 from h1.2.2), chk_rq _ _ _ (show (mintT (tagD s (keyM f.tk.t f.tk.e)) f.tk).t < 16 from h1.2.2)] at c5
    have c6 := f49_ok ⟨f.tk.t, f.tk.u, f.tk.e, f.tk.x, o⟩ f.ep f.co
    have c7 := f19_ok s (rqF ⟨f.tk.t, f.tk.u, f.tk.e, f.tk.x, o⟩ f.ep f.co) hs ls (rqF_ok ⟨hf.tk.t, hf.tk.u, hf.tk.e, hf.tk.x, ⟨lo, ho⟩⟩ hf.ep hf.co)
    rw [rightB_rq _ _ _ _ (show (Tk.mk f.tk.t f.tk.u f.tk.e f.tk.x o).t < 16 from h1.2.2), chk_rq _ _ _ (show (Tk.mk f.tk.t f.tk.u f.tk.e f.tk.x o).t < 16 from h1.2.2)] at c7
    unfold mintT at c3 c4 c5
    dsimp only at c5 c7
    generalize tagD s (keyM f.tk.t f.tk.e) = k at *
    have e5 : ∀ d, msgT ⟨f.tk.t, f.tk.u, f.tk.e, f.tk.x, d⟩ = msgT f.tk := fun _ => rfl
    rw [e5 (tagD k (msgT f.tk))] at c5
    rw [e5 o] at c7
    have s1 := same_dv f.tk.d (tagD k (msgT f.tk))
    have s2 := same_dv o (tagD k (msgT f.tk))
    generalize tagD k (msgT f.tk) = d at *
    rw [hK] at c2 c3 c5 c7
    by_cases hE : f.tk.e ≤ 1000000
    · rw [decide_eq_true hE] at c2 c3 c5 c7
      rw [if_pos rfl, if_pos rfl] at c3
      rw [Bool.true_and] at c2 c5 c7
      rw [decide_eq_true rfl] at c5
      by_cases e1 : d = f.tk.d
      all_goals
        first | rw [decide_eq_true e1] at c2; rw [decide_eq_true e1.symm] at s1 | rw [decide_eq_false e1] at c2; rw [decide_eq_false (Ne.symm e1)] at s1
        by_cases e2 : d = o
        all_goals
          first | rw [decide_eq_true e2] at c7; rw [decide_eq_true e2.symm] at s2 | rw [decide_eq_false e2] at c7; rw [decide_eq_false (Ne.symm e2)] at s2
          conv => whnf
          refine ⟨_, c1, ?_⟩
          repeat' (conv => whnf
                   first
                    | refine ⟨_, c2, ?_⟩
                    | refine ⟨_, c3, ?_⟩
                    | refine ⟨_, c4, ?_⟩
                    | refine ⟨_, c5, ?_⟩
                    | refine ⟨_, c6, ?_⟩
                    | refine ⟨_, c7, ?_⟩
                    | refine ⟨_, c0, ?_⟩
                    | refine iteF hq ?_
                    | refine iteT rfl ?_
                    | refine iteF rfl ?_
                    | refine iteT s1 ?_
                    | refine iteF s1 ?_
                    | refine iteT s2 ?_
                    | refine iteF s2 ?_)
      all_goals rfl
    · rw [decide_eq_false hE] at c2 c3
      rw [if_neg (by decide), if_neg (by decide)] at c3
      rw [Bool.false_and] at c2
      have hg : decide (f.tk.e > 1000000) = true := decide_eq_true (by omega)
      conv => whnf
      refine ⟨_, c1, ?_⟩
      repeat' (conv => whnf
               first
                | refine ⟨_, c2, ?_⟩
                | refine ⟨_, c3, ?_⟩
                | refine ⟨_, c0, ?_⟩
                | refine iteF hq ?_
                | refine iteT hg ?_
                | refine iteT rfl ?_
                | refine iteF rfl ?_)
      all_goals rfl
end Go.Proofs.YtkcnchlahhlkfaaDoor.AM
