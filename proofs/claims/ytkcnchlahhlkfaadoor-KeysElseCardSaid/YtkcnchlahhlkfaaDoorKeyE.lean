/- Keys: KeysElse: the walk of the law. -/
import Derived.Test.YtkcnchlahhlkfaaDoorKeyX
namespace Go.Proofs.YtkcnchlahhlkfaaDoor.AM
open Go Go.Proofs
set_option maxRecDepth 100000

theorem rightB_ok {s : List Int} {f : Fr} (h : okF f) : rightB s f = trueB s f := by unfold rightB; rw [if_pos h]
theorem chk_ok {f : Fr} (h : okF f) : chkFr f = 0 := by unfold chkFr; rw [if_pos h]
set_option maxHeartbeats 8000000 in
theorem f15_ok (s : List Int) (f : Fr) (e c : Int) (hs : byt s) (ls : s.length = 32) (hf : f.ok) (he : 0 ≤ e ∧ e < 65536) (hc : 0 ≤ c ∧ c < 4294967296) :
    Fn Tryd.prog X.G 15 [.p (dv s), .p (frv f), .p (.i .u16 e), .p (.i .u32 c)] (.p (.b true)) := by
  refine Fn.intro (I := []) hX hm 0 Tryd.func15 rfl rfl (by kernel_rfl) rfl ?_
  have c0 := f50_ok
  have c1 := f17_ok f hf
  by_cases h : okF f
  case neg =>
    unfold chkFr at c1
    rw [if_neg h] at c1
    conv => whnf
    refine ⟨_, c1, ?_⟩
    conv => whnf
    refine iteT rfl ?_
    conv => whnf
    refine ⟨_, c0, ?_⟩
    conv => whnf
    refine iteT rfl ?_
    rfl
  rw [chk_ok h] at c1
  have c2 := f19_ok s f hs ls hf
  rw [rightB_ok h, chk_ok h] at c2
  by_cases hk2 : f.k = 2
  · have hC := okF_C h hk2
    have hq : (f.k == 1) = false := beq_eq_false_iff_ne.2 (by omega)
    have c3 := f51_ok f.cm hf.cm
    unfold befC befE at c3
    rw [if_pos hC, if_pos hC] at c3
    have c4 := f29_ok s hs ls
    have lk := cmdD_len s
    have c5 := f39_ok (cmdD s) (msgC f.cm) (cmdD_byt s) (msgC_byt hf.cm) (by rw [msgC_len]; decide)
    rw [(mac_tag (k := cmdD s) (m := msgC f.cm) (by omega) (by rw [msgC_len]; decide)).1, (mac_tag (k := cmdD s) (m := msgC f.cm) (by omega) (by rw [msgC_len]; decide)).2] at c5
    rw [show bvs (cmdD s) = .ro ush (((bv (cmdD s)).drop 0).take 32) from by rw [List.drop_zero, List.take_of_length_le (by rw [List.length_map, lk]; omega)]] at c5
    have c6 := f53_ok (sgD s f.cm) f.cm.d (sgD_len _ _) hf.cm.d.1 (sgD_byt _ _) hf.cm.d.2
    unfold trueB at c2
    rw [if_pos hk2] at c2
    unfold sgD at c2 c6
    generalize tagD (cmdD s) (msgC f.cm) = d at *
    generalize msgC f.cm = m at *
    generalize cmdD s = k at *
    generalize decide (d = f.cm.d) = b at *
    cases b
    all_goals
      conv => whnf
      refine ⟨_, c1, ?_⟩
      repeat' (conv => whnf
               first
                | refine ⟨_, c2, ?_⟩
                | refine ⟨_, c3, ?_⟩
                | refine ⟨_, c4, ?_⟩
                | refine ⟨_, c5, ?_⟩
                | refine ⟨_, c6, ?_⟩
                | refine ⟨_, c0, ?_⟩
                | refine iteF hq ?_
                | refine iteT rfl ?_
                | refine iteF rfl ?_)
    all_goals rfl
  · have h1 : f.k = 1 ∧ f.cm = c00 ∧ f.tk.t < 16 := h.resolve_right fun x => hk2 x.1
    have hq : (f.k == 1) = true := beq_iff_eq.2 h1.1
    have h' : okF ⟨f.k, f.tk, e, c, f.cm⟩ := Or.inl h1
    have c3 := f19_ok s ⟨f.k, f.tk, e, c, f.cm⟩ hs ls ⟨hf.k, hf.tk, he, hc, hf.cm⟩
    rw [rightB_ok h', chk_ok h', show trueB s ⟨f.k, f.tk, e, c, f.cm⟩ = trueB s f from rfl] at c3
    have c4 := f25_ok s f.tk.t f.tk.e hs ls hf.tk.t hf.tk.e
    have c5 := f35_ok (tagD s (keyM f.tk.t f.tk.e)) f.tk (tagD_byt _ _) (tagD_len _ _) hf.tk
    unfold verE at c5
    unfold keyD keyE at c4
    unfold trueB at c2 c3
    rw [if_neg hk2] at c2 c3
    generalize isK f.tk.t f.tk.e = p at *
    generalize tagD s (keyM f.tk.t f.tk.e) = k at *
    generalize tagD k (msgT f.tk) = d at *
    cases p
    · rw [if_neg (by decide), if_neg (by decide)] at c4
      rw [Bool.false_and] at c2 c3
      conv => whnf
      refine ⟨_, c1, ?_⟩
      repeat' (conv => whnf
               first
                | refine ⟨_, c2, ?_⟩
                | refine ⟨_, c3, ?_⟩
                | refine ⟨_, c4, ?_⟩
                | refine ⟨_, c0, ?_⟩
                | refine iteT hq ?_
                | refine iteT rfl ?_
                | refine iteF rfl ?_)
      all_goals rfl
    · rw [if_pos rfl, if_pos rfl] at c4
      rw [Bool.true_and] at c2 c3
      by_cases hd : d = f.tk.d
      all_goals
        first | rw [if_pos hd] at c5; rw [decide_eq_true hd] at c2 c3 | rw [if_neg hd] at c5; rw [decide_eq_false hd] at c2 c3
        conv => whnf
        refine ⟨_, c1, ?_⟩
        repeat' (conv => whnf
                 first
                  | refine ⟨_, c2, ?_⟩
                  | refine ⟨_, c3, ?_⟩
                  | refine ⟨_, c4, ?_⟩
                  | refine ⟨_, c5, ?_⟩
                  | refine ⟨_, c0, ?_⟩
                  | refine iteT hq ?_
                  | refine iteT rfl ?_
                  | refine iteF rfl ?_)
      all_goals rfl
end Go.Proofs.YtkcnchlahhlkfaaDoor.AM
