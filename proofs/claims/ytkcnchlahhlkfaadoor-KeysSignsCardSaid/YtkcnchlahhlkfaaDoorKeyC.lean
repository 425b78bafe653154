/- Keys: frames looked at; KeysSigns: the walk of the law. -/
import Derived.Test.YtkcnchlahhlkfaaDoorKeyB
namespace Go.Proofs.YtkcnchlahhlkfaaDoor.AM
open Go Go.Proofs
set_option maxRecDepth 100000

def trueB (s : List Int) (f : Fr) : Bool := if f.k = 2 then decide (sgD s f.cm = f.cm.d) else (isK f.tk.t f.tk.e && decide (tagD (tagD s (keyM f.tk.t f.tk.e)) (msgT f.tk) = f.tk.d))
def rightB (s : List Int) (f : Fr) : Bool := if okF f then trueB s f else false
theorem okF_C {f : Fr} (h : okF f) (hk : f.k = 2) : okC f.cm := by
  unfold okF at h
  simp_all
theorem sgD_len (s : List Int) (c : Cm) : (sgD s c).length = 32 := tagD_len _ _
theorem sgD_byt (s : List Int) (c : Cm) : byt (sgD s c) := tagD_byt _ _
theorem f83_ok (s : List Int) (f : Fr) (hs : byt s) (ls : s.length = 32) (hf : f.ok) (h : okF f) : Fn Tryd.prog X.G 83 [.p (dv s), .p (frv f)] (.p (.b (trueB s f))) := by
  refine Fn.intro (I := []) hX hm 0 Tryd.func83 rfl rfl (by kernel_rfl) rfl ?_
  unfold trueB
  by_cases hk : f.k = 2
  · have c1 := f82_ok s f.cm hs ls hf.cm (okF_C h hk)
    have hsm := same_dv f.cm.d (sgD s f.cm)
    rw [if_pos hk]
    generalize sgD s f.cm = d at *
    conv => whnf
    refine iteT (by simpa using hk) ?_
    conv => whnf
    refine ⟨_, c1, ?_⟩
    by_cases he : d = f.cm.d
    · rw [decide_eq_true he]
      rw [decide_eq_true he.symm] at hsm
      conv => whnf
      refine iteT hsm ?_
      rfl
    · rw [decide_eq_false he]
      rw [decide_eq_false (Ne.symm he)] at hsm
      conv => whnf
      refine iteF hsm ?_
      rfl
  · have c1 := f52_ok f.tk.t f.tk.e
    have c2 := f73_ok s f.tk.t f.tk.e hs ls hf.tk.t hf.tk.e
    have c3 := f36_ok (tagD s (keyM f.tk.t f.tk.e)) f.tk (tagD_byt _ _) (tagD_len _ _) hf.tk
    unfold verE at c3
    rw [if_neg hk]
    generalize isK f.tk.t f.tk.e = p at *
    generalize tagD s (keyM f.tk.t f.tk.e) = k at *
    generalize tagD k (msgT f.tk) = d at *
    cases p
    · conv => whnf
      refine iteF (by simpa using hk) ?_
      conv => whnf
      refine ⟨_, c1, ?_⟩
      conv => whnf
      refine iteF rfl ?_
      rfl
    · by_cases he : d = f.tk.d
      all_goals
        first | rw [if_pos he] at c3; rw [decide_eq_true he] | rw [if_neg he] at c3; rw [decide_eq_false he]
        conv => whnf
        refine iteF (by simpa using hk) ?_
        conv => whnf
        refine ⟨_, c1, ?_⟩
        conv => whnf
        refine iteT rfl ?_
        conv => whnf
        refine ⟨_, c2, ?_⟩
        conv => whnf
        refine ⟨_, c3, ?_⟩
        conv => whnf
        first | refine iteT rfl ?_ | refine iteF rfl ?_
        rfl
theorem f47_ok (s : List Int) (f : Fr) (hs : byt s) (ls : s.length = 32) (hf : f.ok) : Fn Tryd.prog X.G 47 [.p (dv s), .p (frv f)] (.tup [.p (.b (rightB s f)), .p (.i .i64 (chkFr f))]) := by
  refine Fn.intro (I := []) hX hm 0 Tryd.func47 rfl rfl (by kernel_rfl) rfl ?_
  have c1 := f17_ok f hf
  unfold chkFr at c1
  unfold chkFr rightB
  by_cases h : okF f
  · have c2 := f83_ok s f hs ls hf h
    rw [if_pos h] at c1
    rw [if_pos h, if_pos h]
    generalize trueB s f = b at *
    conv => whnf
    refine ⟨_, c1, ?_⟩
    conv => whnf
    refine iteF rfl ?_
    conv => whnf
    refine ⟨_, c2, ?_⟩
    cases b
    all_goals
      conv => whnf
      first | refine iteT rfl ?_ | refine iteF rfl ?_
      rfl
  · rw [if_neg h] at c1
    rw [if_neg h, if_neg h]
    conv => whnf
    refine ⟨_, c1, ?_⟩
    conv => whnf
    refine iteT rfl ?_
    rfl
theorem f19_ok (s : List Int) (f : Fr) (hs : byt s) (ls : s.length = 32) (hf : f.ok) : Fn Tryd.prog X.G 19 [.p (dv s), .p (frv f)] (.tup [.p (.b (rightB s f)), .p (.i .i64 (chkFr f))]) := by
  refine Fn.intro (I := []) hX hm 0 Tryd.func19 rfl rfl (by kernel_rfl) rfl ?_
  have c1 := f63_ok f hf
  unfold chkFr at c1
  unfold chkFr rightB
  by_cases h : okF f
  · rw [if_pos h] at c1
    rw [if_pos h, if_pos h]
    unfold trueB
    by_cases hk : f.k = 2
    · have c2 := f45_ok s f.cm hs ls hf.cm
      have ho := okF_C h hk
      unfold signC signE withD at c2
      rw [if_pos ho, if_pos ho] at c2
      have c3 := f53_ok (sgD s f.cm) f.cm.d (sgD_len _ _) hf.cm.d.1 (sgD_byt _ _) hf.cm.d.2
      rw [if_pos hk]
      generalize sgD s f.cm = d at *
      generalize decide (d = f.cm.d) = b at *
      conv => whnf
      refine ⟨_, c1, ?_⟩
      conv => whnf
      refine iteF rfl ?_
      conv => whnf
      refine iteT (by simpa using hk) ?_
      conv => whnf
      refine ⟨_, c2, ?_⟩
      conv => whnf
      refine ⟨_, c3, ?_⟩
      cases b
      all_goals
        conv => whnf
        first | refine iteT rfl ?_ | refine iteF rfl ?_
        rfl
    · have c2 := f25_ok s f.tk.t f.tk.e hs ls hf.tk.t hf.tk.e
      have c3 := f35_ok (tagD s (keyM f.tk.t f.tk.e)) f.tk (tagD_byt _ _) (tagD_len _ _) hf.tk
      unfold verE at c3
      unfold keyD keyE at c2
      rw [if_neg hk]
      generalize isK f.tk.t f.tk.e = p at *
      generalize tagD s (keyM f.tk.t f.tk.e) = k at *
      generalize tagD k (msgT f.tk) = d at *
      cases p
      · rw [if_neg (by decide), if_neg (by decide)] at c2
        conv => whnf
        refine ⟨_, c1, ?_⟩
        conv => whnf
        refine iteF rfl ?_
        conv => whnf
        refine iteF (by simpa using hk) ?_
        conv => whnf
        refine ⟨_, c2, ?_⟩
        conv => whnf
        refine iteF rfl ?_
        rfl
      · rw [if_pos rfl, if_pos rfl] at c2
        by_cases he : d = f.tk.d
        all_goals
          first | rw [if_pos he] at c3; rw [decide_eq_true he] | rw [if_neg he] at c3; rw [decide_eq_false he]
          conv => whnf
          refine ⟨_, c1, ?_⟩
          conv => whnf
          refine iteF rfl ?_
          conv => whnf
          refine iteF (by simpa using hk) ?_
          conv => whnf
          refine ⟨_, c2, ?_⟩
          conv => whnf
          refine iteT rfl ?_
          conv => whnf
          refine ⟨_, c3, ?_⟩
          conv => whnf
          first | refine iteT rfl ?_ | refine iteF rfl ?_
          rfl
  · rw [if_neg h] at c1
    rw [if_neg h, if_neg h]
    conv => whnf
    refine ⟨_, c1, ?_⟩
    conv => whnf
    refine iteT rfl ?_
    rfl
set_option maxHeartbeats 4000000 in
theorem f11_ok (s : List Int) (c : Cm) (f : Fr) (hs : byt s) (ls : s.length = 32) (hc : c.ok) (hf : f.ok) : Fn Tryd.prog X.G 11 [.p (dv s), .p (cmv c), .p (frv f)] (.p (.b true)) := by
  refine Fn.intro (I := []) hX hm 0 Tryd.func11 rfl rfl (by kernel_rfl) rfl ?_
  have c1 := f45_ok s c hs ls hc
  have c2 := f46_ok s c hs ls hc
  have c3 := f19_ok s f hs ls hf
  have c4 := f47_ok s f hs ls hf
  have hsm := same_cm (signC s c) (signC s c)
  rw [decide_eq_true rfl] at hsm
  generalize signC s c = w at *
  generalize signE c = e at *
  generalize rightB s f = b at *
  generalize chkFr f = q at *
  cases b
  all_goals
    conv => whnf
    refine ⟨_, c1, ?_⟩
    repeat' (conv => whnf
             first
              | refine ⟨_, c2, ?_⟩
              | refine ⟨_, c3, ?_⟩
              | refine ⟨_, c4, ?_⟩
              | refine iteT hsm ?_
              | refine iteT rfl ?_
              | refine iteF rfl ?_
              | refine iteT (beq_self_eq_true _) ?_)
  all_goals rfl
end Go.Proofs.YtkcnchlahhlkfaaDoor.AM
