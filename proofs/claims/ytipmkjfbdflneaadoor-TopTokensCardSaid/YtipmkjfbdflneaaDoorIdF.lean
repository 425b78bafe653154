/- Tables: put, the tables that come of it; the reference's too. -/
import Derived.Test.YtipmkjfbdflneaaDoorIdM
namespace Go.Proofs.YtipmkjfbdflneaaDoor.AM
open Go Go.Proofs
set_option maxRecDepth 100000

theorem f22_ok : Fn Tryd.prog X.G 22 [] (idv ⟨[], []⟩) := by
  refine Fn.intro (I := []) hX hm 0 Tryd.func22 rfl rfl (by kernel_rfl) rfl ?_
  conv => whnf
  rfl
theorem f79_ok (l : List Tk) (hl : l.length ≤ 1000) : Fn Tryd.prog X.G 79 [tks l] (tks l) := by
  refine Fn.intro (I := []) hX hm 0 Tryd.func79 rfl rfl (by kernel_rfl) rfl ?_
  conv => whnf
  intro y hy
  cases y with
  | true =>
    have hy := hy rfl
    have : l = [] := by simpa using hy
    subst this
    conv => whnf
    refine iteT rfl ?_
    rfl
  | false =>
    conv => whnf
    refine iteF rfl ?_
    conv => whnf
    conv => arg 2; repeat (first | rw [capN _ (by simp; omega)] | (whnf; arg 2))
    conv => whnf
    rfl
theorem f80_ok (l : List Cm) (hl : l.length ≤ 1000) : Fn Tryd.prog X.G 80 [cms l] (cms l) := by
  refine Fn.intro (I := []) hX hm 0 Tryd.func80 rfl rfl (by kernel_rfl) rfl ?_
  conv => whnf
  intro y hy
  cases y with
  | true =>
    have hy := hy rfl
    have : l = [] := by simpa using hy
    subst this
    conv => whnf
    refine iteT rfl ?_
    rfl
  | false =>
    conv => whnf
    refine iteF rfl ?_
    conv => whnf
    conv => arg 2; repeat (first | rw [capN _ (by simp; omega)] | (whnf; arg 2))
    conv => whnf
    rfl
theorem f56_ok (d : Id) (hn : d.ts.length ≤ 100 ∧ d.cs.length ≤ 100) : Fn Tryd.prog X.G 56 [idv d] (idv d) := by
  refine Fn.intro (I := []) hX hm 0 Tryd.func56 rfl rfl (by kernel_rfl) rfl ?_
  have c1 := f79_ok d.ts (by omega)
  have c2 := f80_ok d.cs (by omega)
  conv => whnf
  refine ⟨_, c1, ?_⟩
  conv => whnf
  refine ⟨_, c2, ?_⟩
  conv => whnf
  rfl
noncomputable def pErr (d : Id) (f : Fr) : Int := if chkI d = 0 then (if chkFr f = 0 then (if thereB d f then (if sameB d f then 0 else 14) else (if d.n = 100 then 4 else 0)) else 8) else chkI d
noncomputable def pThere (d : Id) (f : Fr) : Bool := if chkI d = 0 then (if chkFr f = 0 then thereB d f else false) else false
theorem chkFr_8 {f : Fr} (h : ¬ chkFr f = 0) : chkFr f = 8 := by
  unfold chkFr at h ⊢
  split at h
  · exact absurd rfl h
  · rename_i h1
    rw [if_neg h1]
theorem chkFr_0 {f : Fr} (h : chkFr f = 0) : okF f := by
  unfold chkFr at h
  split at h
  · assumption
  · cases h
theorem neq0 {x : Int} (h : ¬ x = 0) : (!(x == 0)) = true := by rw [beq_eq_false_iff_ne.2 h]; rfl
set_option maxHeartbeats 4000000 in
theorem f54_ok (d : Id) (f : Fr) (hd : d.ok) (hf : f.ok) : Fn Tryd.prog X.G 54 [idv d, .p (frv f)] (.tup [.p (.b (pThere d f)), .p (.i .i64 (pErr d f))]) := by
  refine Fn.intro (I := []) hX hm 0 Tryd.func54 rfl rfl (by kernel_rfl) rfl ?_
  have c1 := f47_ok d hd
  have c2 := f23_ok f hf
  by_cases h0 : chkI d = 0
  · by_cases h1 : chkFr f = 0
    · have c3 := f48_ok d f hd hf (fine_iff.1 h0) (chkFr_0 h1)
      have hs := d.sum hd
      have q1 : (IntKind.i64.wrap (((d.ts.map fun t => tkv t).length : Int) + ((d.cs.map fun c => cmv c).length : Int)) == 100) = decide (d.n = 100) := by
        rw [hs, Bool.eq_iff_iff, beq_iff_eq, decide_eq_true_eq]; omega
      have hB : pThere d f = thereB d f := by unfold pThere; rw [if_pos h0, if_pos h1]
      have hE : pErr d f = if thereB d f then (if sameB d f then 0 else 14) else (if d.n = 100 then 4 else 0) := by unfold pErr; rw [if_pos h0, if_pos h1]
      rw [hB, hE]
      rw [h0] at c1
      rw [h1] at c2
      generalize thereB d f = b1 at *
      generalize sameB d f = b2 at *
      by_cases hn : d.n = 100
      · rw [decide_eq_true hn] at q1
        rw [if_pos hn]
        cases b1 <;> cases b2
        all_goals
          repeat' (conv => whnf
                   first
                    | refine ⟨_, c1, ?_⟩
                    | refine ⟨_, c2, ?_⟩
                    | refine ⟨_, c3, ?_⟩
                    | refine iteT q1 ?_
                    | refine iteT rfl ?_
                    | refine iteF rfl ?_)
        all_goals rfl
      · rw [decide_eq_false hn] at q1
        rw [if_neg hn]
        cases b1 <;> cases b2
        all_goals
          repeat' (conv => whnf
                   first
                    | refine ⟨_, c1, ?_⟩
                    | refine ⟨_, c2, ?_⟩
                    | refine ⟨_, c3, ?_⟩
                    | refine iteF q1 ?_
                    | refine iteT rfl ?_
                    | refine iteF rfl ?_)
        all_goals rfl
    · rw [show pThere d f = false from by unfold pThere; rw [if_pos h0, if_neg h1], show pErr d f = 8 from by unfold pErr; rw [if_pos h0, if_neg h1]]
      rw [h0] at c1
      rw [chkFr_8 h1] at c2
      conv => whnf
      refine ⟨_, c1, ?_⟩
      conv => whnf
      refine iteF rfl ?_
      conv => whnf
      refine ⟨_, c2, ?_⟩
      conv => whnf
      refine iteT rfl ?_
      rfl
  · rw [show pThere d f = false from by unfold pThere; rw [if_neg h0], show pErr d f = chkI d from by unfold pErr; rw [if_neg h0]]
    have hq := neq0 h0
    generalize chkI d = z at *
    conv => whnf
    refine ⟨_, c1, ?_⟩
    conv => whnf
    refine iteT hq ?_
    rfl
/-! ### Minted -/
noncomputable def addT (d : Id) (t : Tk) : Id := if pErr d (tokF t) = 0 then (if thereB d (tokF t) then d else ⟨d.ts ++ [t], d.cs⟩) else ⟨[], []⟩
noncomputable def addC (d : Id) (c : Cm) : Id := if pErr d (comF c) = 0 then (if thereB d (comF c) then d else ⟨d.ts, d.cs ++ [c]⟩) else ⟨[], []⟩
theorem pErr_0 {d : Id} {f : Fr} (h : pErr d f = 0) : d.fine ∧ okF f ∧ pThere d f = thereB d f := by
  unfold pErr at h
  by_cases h0 : chkI d = 0
  · rw [if_pos h0] at h
    by_cases h1 : chkFr f = 0
    · exact ⟨fine_iff.1 h0, chkFr_0 h1, by unfold pThere; rw [if_pos h0, if_pos h1]⟩
    · rw [if_neg h1] at h
      cases h
  · rw [if_neg h0] at h
    exact absurd h h0
set_option maxHeartbeats 4000000 in
theorem f21_ok (d : Id) (t : Tk) (hd : d.ok) (hx : t.ok) : Fn Tryd.prog X.G 21 [idv d, .p (tkv t)] (.tup [idv (addT d t), .p (.i .i64 (pErr d (tokF t)))]) := by
  refine Fn.intro (I := []) hX hm 0 Tryd.func21 rfl rfl (by kernel_rfl) rfl ?_
  have c0 := f55_ok t
  have c1 := f54_ok d (tokF t) hd (tokF_ok hx)
  by_cases h : pErr d (tokF t) = 0
  · obtain ⟨hF, hk, hb⟩ := pErr_0 h
    have hnn : d.ts.length ≤ 100 ∧ d.cs.length ≤ 100 := by have := hF.n; unfold Id.n at this; omega
    have c2 := f56_ok d hnn
    rw [hb] at c1
    rw [h] at c1
    by_cases hT : thereB d (tokF t) = true
    · rw [show addT d t = d from by unfold addT; rw [if_pos h, if_pos hT], h]
      rw [hT] at c1
      conv => whnf
      refine ⟨_, c0, ?_⟩
      conv => whnf
      refine ⟨_, c1, ?_⟩
      conv => whnf
      refine iteT rfl ?_
      conv => whnf
      refine ⟨_, c2, ?_⟩
      conv => whnf
      rfl
    · rw [show addT d t = ⟨d.ts ++ [t], d.cs⟩ from by unfold addT; rw [if_pos h, if_neg hT], h]
      rw [Bool.eq_false_iff.2 hT] at c1
      rw [show idv ⟨d.ts ++ [t], d.cs⟩ = .st [.ro tsh ((d.ts.map fun t => tkv t) ++ [tkv t]), cms d.cs] from by unfold idv tks cms; rw [List.map_append]; rfl]
      conv => whnf
      refine ⟨_, c0, ?_⟩
      conv => whnf
      refine ⟨_, c1, ?_⟩
      conv => whnf
      refine iteF rfl ?_
      conv => whnf
      refine ⟨_, c2, ?_⟩
      conv => whnf
      conv => arg 2; repeat (first | rw [capN _ (by simp; omega)] | (whnf; arg 2))
      conv => whnf
      rfl
  · rw [show addT d t = ⟨[], []⟩ from by unfold addT; rw [if_neg h]]
    have hq := neq0 h
    generalize pErr d (tokF t) = z at *
    generalize pThere d (tokF t) = b at *
    conv => whnf
    refine ⟨_, c0, ?_⟩
    conv => whnf
    refine ⟨_, c1, ?_⟩
    conv => whnf
    cases b with
    | true =>
      refine iteT rfl ?_
      conv => whnf
      refine iteT hq ?_
      rfl
    | false =>
      refine iteF rfl ?_
      conv => whnf
      refine iteT hq ?_
      rfl
set_option maxHeartbeats 4000000 in
theorem f40_ok (d : Id) (c : Cm) (hd : d.ok) (hx : c.ok) : Fn Tryd.prog X.G 40 [idv d, .p (cmv c)] (.tup [idv (addC d c), .p (.i .i64 (pErr d (comF c)))]) := by
  refine Fn.intro (I := []) hX hm 0 Tryd.func40 rfl rfl (by kernel_rfl) rfl ?_
  have c0 := f73_ok c
  have c1 := f54_ok d (comF c) hd (comF_ok hx)
  by_cases h : pErr d (comF c) = 0
  · obtain ⟨hF, hk, hb⟩ := pErr_0 h
    have hnn : d.ts.length ≤ 100 ∧ d.cs.length ≤ 100 := by have := hF.n; unfold Id.n at this; omega
    have c2 := f56_ok d hnn
    rw [hb] at c1
    rw [h] at c1
    by_cases hT : thereB d (comF c) = true
    · rw [show addC d c = d from by unfold addC; rw [if_pos h, if_pos hT], h]
      rw [hT] at c1
      conv => whnf
      refine ⟨_, c0, ?_⟩
      conv => whnf
      refine ⟨_, c1, ?_⟩
      conv => whnf
      refine iteT rfl ?_
      conv => whnf
      refine ⟨_, c2, ?_⟩
      conv => whnf
      rfl
    · rw [show addC d c = ⟨d.ts, d.cs ++ [c]⟩ from by unfold addC; rw [if_pos h, if_neg hT], h]
      rw [Bool.eq_false_iff.2 hT] at c1
      rw [show idv ⟨d.ts, d.cs ++ [c]⟩ = .st [tks d.ts, .ro csh ((d.cs.map fun c => cmv c) ++ [cmv c])] from by unfold idv tks cms; rw [List.map_append]; rfl]
      conv => whnf
      refine ⟨_, c0, ?_⟩
      conv => whnf
      refine ⟨_, c1, ?_⟩
      conv => whnf
      refine iteF rfl ?_
      conv => whnf
      refine ⟨_, c2, ?_⟩
      conv => whnf
      conv => arg 2; repeat (first | rw [capN _ (by simp; omega)] | (whnf; arg 2))
      conv => whnf
      rfl
  · rw [show addC d c = ⟨[], []⟩ from by unfold addC; rw [if_neg h]]
    have hq := neq0 h
    generalize pErr d (comF c) = z at *
    generalize pThere d (comF c) = b at *
    conv => whnf
    refine ⟨_, c0, ?_⟩
    conv => whnf
    refine ⟨_, c1, ?_⟩
    conv => whnf
    cases b with
    | true =>
      refine iteT rfl ?_
      conv => whnf
      refine iteT hq ?_
      rfl
    | false =>
      refine iteF rfl ?_
      conv => whnf
      refine iteT hq ?_
      rfl
end Go.Proofs.YtipmkjfbdflneaaDoor.AM
