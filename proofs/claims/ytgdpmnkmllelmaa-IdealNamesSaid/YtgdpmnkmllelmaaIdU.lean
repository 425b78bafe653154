/- Tables: put, what is accepted, the laws helpers, what is minted, a full one. -/
import Derived.Test.YtgdpmnkmllelmaaIdF
namespace Go.Proofs.Ytgdpmnkmllelmaa.AM
open Go Go.Proofs
set_option maxRecDepth 100000

section
variable {d : Id} {f : Fr}
theorem pErr_bad (h0 : ¬ chkI d = 0) : pErr d f = chkI d := by unfold pErr; rw [if_neg h0]
theorem chkFr_ok (h : okF f) : chkFr f = 0 := by unfold chkFr; rw [if_pos h]
theorem chkFr_no (h : ¬ okF f) : chkFr f = 8 := by unfold chkFr; rw [if_neg h]
theorem pErr_8 (h0 : chkI d = 0) (h1 : ¬ okF f) : pErr d f = 8 := by
  unfold pErr
  rw [if_pos h0, if_neg (by rw [chkFr_no h1]; decide)]
theorem pErr_ok (h0 : chkI d = 0) (h1 : okF f) : pErr d f = if thereB d f then (if sameB d f then 0 else 14) else (if d.n = 100 then 4 else 0) := by
  unfold pErr
  rw [if_pos h0, if_pos (chkFr_ok h1)]
theorem pErr_same (h0 : chkI d = 0) (h1 : okF f) (h2 : sameP d f) : pErr d f = 0 := by
  rw [pErr_ok h0 h1, if_pos (thereB_t (same_there h2)), if_pos (sameB_t h2)]
theorem pErr_14 (h0 : chkI d = 0) (h1 : okF f) (h2 : thereP d f) (h3 : ¬ sameP d f) : pErr d f = 14 := by
  rw [pErr_ok h0 h1, if_pos (thereB_t h2), if_neg (by rw [sameB_f h3]; decide)]
theorem pErr_4 (h0 : chkI d = 0) (h1 : okF f) (h2 : ¬ thereP d f) (h3 : d.n = 100) : pErr d f = 4 := by
  rw [pErr_ok h0 h1, if_neg (by rw [thereB_f h2]; decide), if_pos h3]
theorem pErr_new (h0 : chkI d = 0) (h1 : okF f) (h2 : ¬ thereP d f) (h3 : ¬ d.n = 100) : pErr d f = 0 := by
  rw [pErr_ok h0 h1, if_neg (by rw [thereB_f h2]; decide), if_neg h3]
end
section
variable {d : Id} {t : Tk} {c : Cm}
theorem addT_err (h : ¬ pErr d (tokF t) = 0) : addT d t = ⟨[], []⟩ := by unfold addT; rw [if_neg h]
theorem addT_old (h : pErr d (tokF t) = 0) (h2 : thereP d (tokF t)) : addT d t = d := by unfold addT; rw [if_pos h, if_pos (thereB_t h2)]
theorem addT_new (h : pErr d (tokF t) = 0) (h2 : ¬ thereP d (tokF t)) : addT d t = ⟨d.ts ++ [t], d.cs⟩ := by unfold addT; rw [if_pos h, if_neg (by rw [thereB_f h2]; decide)]
theorem addC_err (h : ¬ pErr d (comF c) = 0) : addC d c = ⟨[], []⟩ := by unfold addC; rw [if_neg h]
theorem addC_old (h : pErr d (comF c) = 0) (h2 : thereP d (comF c)) : addC d c = d := by unfold addC; rw [if_pos h, if_pos (thereB_t h2)]
theorem addC_new (h : pErr d (comF c) = 0) (h2 : ¬ thereP d (comF c)) : addC d c = ⟨d.ts, d.cs ++ [c]⟩ := by unfold addC; rw [if_pos h, if_neg (by rw [thereB_f h2]; decide)]
theorem there_t : thereP d (tokF t) ↔ ∃ x ∈ d.ts, bareK x = bareK t := ⟨fun h => h.elim (fun h => h.2) fun h => absurd h.1 (show ¬ (1 : Int) = 2 by decide), fun h => .inl ⟨rfl, h⟩⟩
theorem there_c : thereP d (comF c) ↔ ∃ x ∈ d.cs, plainC x = plainC c := ⟨fun h => h.elim (fun h => absurd h.1 (show ¬ (2 : Int) = 1 by decide)) fun h => h.2, fun h => .inr ⟨rfl, h⟩⟩
theorem same_t : sameP d (tokF t) ↔ t ∈ d.ts := ⟨fun h => h.elim (fun h => h.2) fun h => absurd h.1 (show ¬ (1 : Int) = 2 by decide), fun h => .inl ⟨rfl, h⟩⟩
theorem same_c : sameP d (comF c) ↔ c ∈ d.cs := ⟨fun h => h.elim (fun h => absurd h.1 (show ¬ (2 : Int) = 1 by decide)) fun h => h.2, fun h => .inr ⟨rfl, h⟩⟩
theorem snoc_once {α β : Type} {κ : α → β} {l : List α} {x : α} (h : (l.map κ).Nodup) (hx : ¬ ∃ y ∈ l, κ y = κ x) : ((l ++ [x]).map κ).Nodup := by
  rw [List.map_append, List.nodup_append]
  refine ⟨h, by simp, fun a ha b hb e => ?_⟩
  obtain ⟨y, hy, rfl⟩ := List.mem_map.1 ha
  simp only [List.map_cons, List.map_nil, List.mem_singleton] at hb
  exact hx ⟨y, hy, by rw [e, hb]⟩
theorem all_snoc {α : Type} {q : α → Prop} {l : List α} {x : α} (h : ∀ y ∈ l, q y) (hx : q x) : ∀ y ∈ l ++ [x], q y := by
  intro y hy
  rcases List.mem_append.1 hy with hy | hy
  · exact h y hy
  · rw [List.mem_singleton.1 hy]; exact hx
theorem newT (h : d.fine) (ht : t.t < 16) (hn : ¬ thereP d (tokF t)) (h100 : ¬ d.n = 100) : chkI ⟨d.ts ++ [t], d.cs⟩ = 0 := by
  refine chkI_0 ?_ ⟨all_snoc h.valid.1 ht, h.valid.2⟩ ⟨snoc_once h.once.1 fun hx => hn (there_t.2 hx), h.once.2⟩
  have := h.n
  simp only [Id.n, List.length_append, List.length_singleton] at *
  omega
theorem newC (h : d.fine) (hc : okC c) (hn : ¬ thereP d (comF c)) (h100 : ¬ d.n = 100) : chkI ⟨d.ts, d.cs ++ [c]⟩ = 0 := by
  refine chkI_0 ?_ ⟨h.valid.1, all_snoc h.valid.2 hc⟩ ⟨h.once.1, snoc_once h.once.2 fun hx => hn (there_c.2 hx)⟩
  have := h.n
  simp only [Id.n, List.length_append, List.length_singleton] at *
  omega
theorem fullT (h100 : d.n = 100) : chkI ⟨d.ts ++ [t], d.cs⟩ = 4 := chkI_4 (by simp only [Id.n, List.length_append, List.length_singleton] at *; omega)
theorem fullC (h100 : d.n = 100) : chkI ⟨d.ts, d.cs ++ [c]⟩ = 4 := chkI_4 (by simp only [Id.n, List.length_append, List.length_singleton] at *; omega)
theorem okT_snoc (hd : d.ok) (ht : t.ok) (hn : d.n ≤ 100) : (⟨d.ts ++ [t], d.cs⟩ : Id).ok := ⟨all_snoc hd.ts ht, hd.cs, by simp only [Id.n, List.length_append, List.length_singleton] at *; omega⟩
theorem okC_snoc (hd : d.ok) (hc : c.ok) (hn : d.n ≤ 100) : (⟨d.ts, d.cs ++ [c]⟩ : Id).ok := ⟨hd.ts, all_snoc hd.cs hc, by simp only [Id.n, List.length_append, List.length_singleton] at *; omega⟩
theorem ok_nil : (⟨[], []⟩ : Id).ok := ⟨by simp, by simp, by simp [Id.n]⟩
/-- Where it stands. -/
theorem atT_spec (l : List Tk) (t : Tk) : (atT l t = -1 ∧ ¬ ∃ x ∈ l, bareK x = bareK t) ∨ ∃ j, ∃ h : j < l.length, atT l t = ((j : Nat) : Int) ∧ bareK l[j] = bareK t := by
  rcases idxB_spec (pT t) l 0 with ⟨h1, h2⟩ | ⟨j, hj, h1, h2, _⟩
  · refine .inl ⟨h1, fun ⟨x, hx, he⟩ => ?_⟩
    have := h2 x hx
    rw [(pT_iff t x).2 he] at this
    cases this
  · exact .inr ⟨j, hj, by unfold atT; rw [h1, Nat.zero_add], (pT_iff _ _).1 h2⟩
theorem atC_spec (l : List Cm) (c : Cm) : (atC l c = -1 ∧ ¬ ∃ x ∈ l, plainC x = plainC c) ∨ ∃ j, ∃ h : j < l.length, atC l c = ((j : Nat) : Int) ∧ plainC l[j] = plainC c := by
  rcases idxB_spec (pC c) l 0 with ⟨h1, h2⟩ | ⟨j, hj, h1, h2, _⟩
  · refine .inl ⟨h1, fun ⟨x, hx, he⟩ => ?_⟩
    have := h2 x hx
    rw [(pC_iff c x).2 he] at this
    cases this
  · exact .inr ⟨j, hj, by unfold atC; rw [h1, Nat.zero_add], (pC_iff _ _).1 h2⟩
theorem foundT (h : d.fine) {j : Nat} (hj : j < d.ts.length) (hb : bareK d.ts[j] = bareK t) : t ∈ d.ts ↔ d.ts[j] = t :=
  ⟨fun hm => once_eq h.once.1 (List.getElem_mem hj) hm hb, fun e => e ▸ List.getElem_mem hj⟩
theorem foundC (h : d.fine) {j : Nat} (hj : j < d.cs.length) (hb : plainC d.cs[j] = plainC c) : c ∈ d.cs ↔ d.cs[j] = c :=
  ⟨fun hm => once_eq h.once.2 (List.getElem_mem hj) hm hb, fun e => e ▸ List.getElem_mem hj⟩
end
set_option maxHeartbeats 8000000 in
theorem f32_ok (d : Id) (t : Tk) (hd : d.ok) (hx0 : t.ok) : Fn Try.prog X.G 32 [idv d, .p (tkv t)] (.tup [idv (addT d t), .p (.i .i64 (pErr d (tokF t)))]) := by
  refine Fn.intro (I := []) hX hm 0 Try.func32 rfl rfl (by kernel_rfl) rfl ?_
  have c1 := f37_ok d hd
  by_cases h0 : chkI d = 0
  · rw [h0] at c1
    have hF := fine_iff.1 h0
    have hn := hF.n
    have hnn : d.ts.length ≤ 100 ∧ d.cs.length ≤ 100 := by unfold Id.n at hn; omega
    have c2 := f31_ok d hnn
    have c3 := f58_ok d.ts t (by omega)
    have c4 := f37_ok ⟨d.ts ++ [t], d.cs⟩ (okT_snoc hd hx0 (by omega))
    rw [show idv ⟨d.ts ++ [t], d.cs⟩ = .st [.ro tsh ((d.ts.map fun t => tkv t) ++ [tkv t]), cms d.cs] from by unfold idv tks cms; rw [List.map_append]; rfl] at c4
    conv => whnf
    refine ⟨_, c1, ?_⟩
    conv => whnf
    refine iteF rfl ?_
    conv => whnf
    refine iteC (fun h1 => ?_) (fun h1 => ?_)
    · have h1 := of_decide_eq_true h1
      have hk : ¬ okF (tokF t) := fun h => by have := tokF_okF.1 h; omega
      have hp := pErr_8 (f := tokF t) h0 hk
      rw [addT_err (by rw [hp]; decide), hp]
      conv => whnf
      rfl
    have h1 := of_decide_eq_false h1
    have hx : t.t < 16 := by omega
    have hk : okF (tokF t) := tokF_okF.2 hx
    rcases atT_spec d.ts t with ⟨e, hno⟩ | ⟨j, hj, e, hb⟩
    · rw [e] at c3
      have hth : ¬ thereP d (tokF t) := fun h => hno (there_t.1 h)
      conv => whnf
      refine ⟨_, c2, ?_⟩
      conv => whnf
      refine ⟨_, c3, ?_⟩
      conv => whnf
      refine iteF rfl ?_
      conv => whnf
      conv => arg 2; repeat (first | rw [capN _ (by simp; omega)] | (whnf; arg 2))
      conv => whnf
      refine ⟨_, c4, ?_⟩
      by_cases h100 : d.n = 100
      · rw [fullT h100]
        have hp := pErr_4 h0 hk hth h100
        rw [addT_err (by rw [hp]; decide), hp]
        conv => whnf
        refine iteT rfl ?_
        conv => whnf
        rfl
      · rw [newT hF hx hth h100]
        have hp := pErr_new h0 hk hth h100
        rw [addT_new hp hth, hp]
        rw [show idv ⟨d.ts ++ [t], d.cs⟩ = .st [.ro tsh ((d.ts.map fun t => tkv t) ++ [tkv t]), cms d.cs] from by unfold idv tks cms; rw [List.map_append]; rfl]
        conv => whnf
        refine iteF rfl ?_
        conv => whnf
        rfl
    · rw [e] at c3
      have hth : thereP d (tokF t) := there_t.2 ⟨_, List.getElem_mem hj, hb⟩
      have hg := getM (f := fun t => tkv t) hj
      have hfd := foundT hF hj hb
      have s1 := congrArg (fun b => !b) (same_tk d.ts[j] t)
      conv => whnf
      refine ⟨_, c2, ?_⟩
      conv => whnf
      refine ⟨_, c3, ?_⟩
      conv => whnf
      refine iteT (decide_eq_true (by omega)) ?_
      conv => whnf
      conv => arg 2; repeat (first | rw [hg] | (whnf; arg 2))
      conv => whnf
      by_cases he : d.ts[j] = t
      · have hs : sameP d (tokF t) := same_t.2 (hfd.2 he)
        have hp := pErr_same h0 hk hs
        rw [addT_old hp hth, hp]
        rw [decide_eq_true he] at s1
        refine iteF s1 ?_
        conv => whnf
        rfl
      · have hs : ¬ sameP d (tokF t) := fun h => he (hfd.1 (same_t.1 h))
        have hp := pErr_14 h0 hk hth hs
        rw [addT_err (by rw [hp]; decide), hp]
        rw [decide_eq_false he] at s1
        refine iteT s1 ?_
        conv => whnf
        rfl
  · have hp := pErr_bad (f := tokF t) h0
    rw [addT_err (by rw [hp]; exact h0), hp]
    have hq := neq0 h0
    generalize chkI d = z at *
    conv => whnf
    refine ⟨_, c1, ?_⟩
    conv => whnf
    refine iteT hq ?_
    conv => whnf
    refine ⟨_, c1, ?_⟩
    conv => whnf
    rfl
set_option maxHeartbeats 8000000 in
theorem f34_ok (d : Id) (c : Cm) (hd : d.ok) (hx0 : c.ok) : Fn Try.prog X.G 34 [idv d, .p (cmv c)] (.tup [idv (addC d c), .p (.i .i64 (pErr d (comF c)))]) := by
  refine Fn.intro (I := []) hX hm 0 Try.func34 rfl rfl (by kernel_rfl) rfl ?_
  have c1 := f37_ok d hd
  have c0 := f60_ok c hx0
  unfold isC at c0
  by_cases h0 : chkI d = 0
  · rw [h0] at c1
    have hF := fine_iff.1 h0
    have hn := hF.n
    have hnn : d.ts.length ≤ 100 ∧ d.cs.length ≤ 100 := by unfold Id.n at hn; omega
    have c2 := f31_ok d hnn
    have c3 := f61_ok d.cs c (by omega)
    have c4 := f37_ok ⟨d.ts, d.cs ++ [c]⟩ (okC_snoc hd hx0 (by omega))
    rw [show idv ⟨d.ts, d.cs ++ [c]⟩ = .st [tks d.ts, .ro csh ((d.cs.map fun c => cmv c) ++ [cmv c])] from by unfold idv tks cms; rw [List.map_append]; rfl] at c4
    conv => whnf
    refine ⟨_, c1, ?_⟩
    conv => whnf
    refine iteF rfl ?_
    conv => whnf
    refine ⟨_, c0, ?_⟩
    conv => whnf
    by_cases hx : ¬ okC c
    · have hk : ¬ okF (comF c) := fun h => hx (comF_okF.1 h)
      have hp := pErr_8 (f := comF c) h0 hk
      rw [addC_err (by rw [hp]; decide), hp]
      refine iteF (decide_eq_false hx) ?_
      conv => whnf
      rfl
    have hx := Classical.not_not.1 hx
    refine iteT (decide_eq_true hx) ?_
    conv => whnf
    have hk : okF (comF c) := comF_okF.2 hx
    rcases atC_spec d.cs c with ⟨e, hno⟩ | ⟨j, hj, e, hb⟩
    · rw [e] at c3
      have hth : ¬ thereP d (comF c) := fun h => hno (there_c.1 h)
      conv => whnf
      refine ⟨_, c2, ?_⟩
      conv => whnf
      refine ⟨_, c3, ?_⟩
      conv => whnf
      refine iteF rfl ?_
      conv => whnf
      conv => arg 2; repeat (first | rw [capN _ (by simp; omega)] | (whnf; arg 2))
      conv => whnf
      refine ⟨_, c4, ?_⟩
      by_cases h100 : d.n = 100
      · rw [fullC h100]
        have hp := pErr_4 h0 hk hth h100
        rw [addC_err (by rw [hp]; decide), hp]
        conv => whnf
        refine iteT rfl ?_
        conv => whnf
        rfl
      · rw [newC hF hx hth h100]
        have hp := pErr_new h0 hk hth h100
        rw [addC_new hp hth, hp]
        rw [show idv ⟨d.ts, d.cs ++ [c]⟩ = .st [tks d.ts, .ro csh ((d.cs.map fun c => cmv c) ++ [cmv c])] from by unfold idv tks cms; rw [List.map_append]; rfl]
        conv => whnf
        refine iteF rfl ?_
        conv => whnf
        rfl
    · rw [e] at c3
      have hth : thereP d (comF c) := there_c.2 ⟨_, List.getElem_mem hj, hb⟩
      have hg := getM (f := fun t => cmv t) hj
      have hfd := foundC hF hj hb
      have s1 := congrArg (fun b => !b) (same_cm d.cs[j] c)
      conv => whnf
      refine ⟨_, c2, ?_⟩
      conv => whnf
      refine ⟨_, c3, ?_⟩
      conv => whnf
      refine iteT (decide_eq_true (by omega)) ?_
      conv => whnf
      conv => arg 2; repeat (first | rw [hg] | (whnf; arg 2))
      conv => whnf
      by_cases he : d.cs[j] = c
      · have hs : sameP d (comF c) := same_c.2 (hfd.2 he)
        have hp := pErr_same h0 hk hs
        rw [addC_old hp hth, hp]
        rw [decide_eq_true he] at s1
        refine iteF s1 ?_
        conv => whnf
        rfl
      · have hs : ¬ sameP d (comF c) := fun h => he (hfd.1 (same_c.1 h))
        have hp := pErr_14 h0 hk hth hs
        rw [addC_err (by rw [hp]; decide), hp]
        rw [decide_eq_false he] at s1
        refine iteT s1 ?_
        conv => whnf
        rfl
  · have hp := pErr_bad (f := comF c) h0
    rw [addC_err (by rw [hp]; exact h0), hp]
    have hq := neq0 h0
    generalize chkI d = z at *
    conv => whnf
    refine ⟨_, c1, ?_⟩
    conv => whnf
    refine iteT hq ?_
    conv => whnf
    refine ⟨_, c1, ?_⟩
    conv => whnf
    rfl
end Go.Proofs.Ytgdpmnkmllelmaa.AM

namespace Go.Proofs.Ytgdpmnkmllelmaa.AM
open Go Go.Proofs
set_option maxRecDepth 100000

/-- What a table answers of a frame. -/
noncomputable def accE (d : Id) (f : Fr) : Int := if chkI d = 0 then chkFr f else chkI d
noncomputable def accB (d : Id) (f : Fr) : Bool := if chkI d = 0 then (if chkFr f = 0 then sameB d f else false) else false
section
variable {d : Id} {f : Fr}
theorem accE_0 (h : chkI d = 0) (h1 : okF f) : accE d f = 0 := by unfold accE; rw [if_pos h, chkFr_ok h1]
theorem accB_0 (h : chkI d = 0) (h1 : okF f) : accB d f = sameB d f := by unfold accB; rw [if_pos h, if_pos (chkFr_ok h1)]
theorem accE_8 (h : chkI d = 0) (h1 : ¬ okF f) : accE d f = 8 := by unfold accE; rw [if_pos h, chkFr_no h1]
theorem accB_8 (h1 : ¬ okF f) : accB d f = false := by
  unfold accB
  split
  · rw [if_neg (by rw [chkFr_no h1]; decide)]
  · rfl
theorem accE_no (h : ¬ chkI d = 0) : accE d f = chkI d := by unfold accE; rw [if_neg h]
theorem accB_no (h : ¬ chkI d = 0) : accB d f = false := by unfold accB; rw [if_neg h]
end
theorem f24_ok (d : Id) (f : Fr) (hd : d.ok) (hf : f.ok) : Fn Try.prog X.G 24 [idv d, .p (frv f)] (.tup [.p (.b (accB d f)), .p (.i .i64 (accE d f))]) := by
  refine Fn.intro (I := []) hX hm 0 Try.func24 rfl rfl (by kernel_rfl) rfl ?_
  have c1 := f36_ok d hd
  have c2 := f51_ok f hf
  by_cases h0 : chkI d = 0
  · rw [h0] at c1
    by_cases h1 : okF f
    · have c3 := f52_ok d f hd hf (fine_iff.1 h0) h1
      rw [accB_0 h0 h1, accE_0 h0 h1]
      rw [chkFr_ok h1] at c2
      generalize thereB d f = b1 at *
      generalize sameB d f = b2 at *
      conv => whnf
      refine ⟨_, c1, ?_⟩
      conv => whnf
      refine iteF rfl ?_
      conv => whnf
      refine ⟨_, c2, ?_⟩
      conv => whnf
      refine iteF rfl ?_
      conv => whnf
      refine ⟨_, c3, ?_⟩
      cases b1 <;> cases b2
      · conv => whnf
        refine iteF rfl ?_
        conv => whnf
        refine iteF rfl ?_
        rfl
      · conv => whnf
        refine iteF rfl ?_
        conv => whnf
        refine iteT rfl ?_
        rfl
      · conv => whnf
        refine iteT rfl ?_
        conv => whnf
        refine iteF rfl ?_
        rfl
      · conv => whnf
        refine iteT rfl ?_
        conv => whnf
        refine iteT rfl ?_
        rfl
    · rw [accB_8 h1, accE_8 h0 h1]
      rw [chkFr_no h1] at c2
      conv => whnf
      refine ⟨_, c1, ?_⟩
      conv => whnf
      refine iteF rfl ?_
      conv => whnf
      refine ⟨_, c2, ?_⟩
      conv => whnf
      refine iteT rfl ?_
      rfl
  · rw [accB_no h0, accE_no h0]
    have hq := neq0 h0
    generalize chkI d = z at *
    conv => whnf
    refine ⟨_, c1, ?_⟩
    conv => whnf
    refine iteT hq ?_
    rfl
theorem sameB_dec {d : Id} {f : Fr} {p : Prop} [Decidable p] (h : sameP d f ↔ p) : sameB d f = decide p := by
  by_cases hp : p
  · rw [decide_eq_true hp]; exact sameB_t (h.2 hp)
  · rw [decide_eq_false hp]; exact sameB_f fun x => hp (h.1 x)
theorem f54_ok (d : Id) (f : Fr) (hF : d.fine) (h : okF f) : Fn Try.prog X.G 54 [idv d, .p (frv f)] (.p (.b (sameB d f))) := by
  refine Fn.intro (I := []) hX hm 0 Try.func54 rfl rfl (by kernel_rfl) rfl ?_
  have hnn : d.ts.length ≤ 100 ∧ d.cs.length ≤ 100 := by have := hF.n; unfold Id.n at this; omega
  have c1 := f58_ok d.ts f.tk (by omega)
  have c2 := f61_ok d.cs f.cm (by omega)
  rcases okF_cases h with ⟨hk, _, _, _⟩ | ⟨hk, _, _, _⟩
  · have q : (f.k == 2) = false := beq_eq_false_iff_ne.2 (by omega)
    have hS : sameP d f ↔ f.tk ∈ d.ts := ⟨fun h => h.elim (fun h => h.2) fun h => by omega, fun h => .inl ⟨hk, h⟩⟩
    rcases atT_spec d.ts f.tk with ⟨e, hno⟩ | ⟨j, hj, e, hb⟩
    · rw [e] at c1
      rw [sameB_f fun h => hno ⟨_, hS.1 h, rfl⟩]
      conv => whnf
      refine iteF q ?_
      conv => whnf
      refine ⟨_, c1, ?_⟩
      conv => whnf
      refine iteF rfl ?_
      rfl
    · rw [e] at c1
      have hg := getM (f := fun t => tkv t) hj
      have s1 := same_tk d.ts[j] f.tk
      rw [sameB_dec (hS.trans (foundT hF hj hb))]
      conv => whnf
      refine iteF q ?_
      conv => whnf
      refine ⟨_, c1, ?_⟩
      conv => whnf
      refine iteT (decide_eq_true (by omega)) ?_
      conv => whnf
      conv => arg 2; repeat (first | rw [hg] | (whnf; arg 2))
      conv => whnf
      generalize decide (d.ts[j] = f.tk) = b at *
      cases b
      · refine iteF s1 ?_
        rfl
      · refine iteT s1 ?_
        rfl
  · have q : (f.k == 2) = true := beq_iff_eq.2 hk
    have hS : sameP d f ↔ f.cm ∈ d.cs := ⟨fun h => h.elim (fun h => by omega) fun h => h.2, fun h => .inr ⟨hk, h⟩⟩
    rcases atC_spec d.cs f.cm with ⟨e, hno⟩ | ⟨j, hj, e, hb⟩
    · rw [e] at c2
      rw [sameB_f fun h => hno ⟨_, hS.1 h, rfl⟩]
      conv => whnf
      refine iteT q ?_
      conv => whnf
      refine ⟨_, c2, ?_⟩
      conv => whnf
      refine iteF rfl ?_
      rfl
    · rw [e] at c2
      have hg := getM (f := fun t => cmv t) hj
      have s1 := same_cm d.cs[j] f.cm
      rw [sameB_dec (hS.trans (foundC hF hj hb))]
      conv => whnf
      refine iteT q ?_
      conv => whnf
      refine ⟨_, c2, ?_⟩
      conv => whnf
      refine iteT (decide_eq_true (by omega)) ?_
      conv => whnf
      conv => arg 2; repeat (first | rw [hg] | (whnf; arg 2))
      conv => whnf
      generalize decide (d.cs[j] = f.cm) = b at *
      cases b
      · refine iteF s1 ?_
        rfl
      · refine iteT s1 ?_
        rfl
theorem f25_ok (d : Id) (f : Fr) (hd : d.ok) (hf : f.ok) : Fn Try.prog X.G 25 [idv d, .p (frv f)] (.tup [.p (.b (accB d f)), .p (.i .i64 (accE d f))]) := by
  refine Fn.intro (I := []) hX hm 0 Try.func25 rfl rfl (by kernel_rfl) rfl ?_
  have c1 := f37_ok d hd
  have c2 := f53_ok f hf
  by_cases h0 : chkI d = 0
  · rw [h0] at c1
    by_cases h1 : okF f
    · have c3 := f54_ok d f (fine_iff.1 h0) h1
      rw [accB_0 h0 h1, accE_0 h0 h1]
      rw [chkFr_ok h1] at c2
      generalize sameB d f = b2 at *
      conv => whnf
      refine ⟨_, c1, ?_⟩
      conv => whnf
      refine iteF rfl ?_
      conv => whnf
      refine ⟨_, c2, ?_⟩
      conv => whnf
      refine iteF rfl ?_
      conv => whnf
      refine ⟨_, c3, ?_⟩
      cases b2
      · conv => whnf
        refine iteF rfl ?_
        rfl
      · conv => whnf
        refine iteT rfl ?_
        rfl
    · rw [accB_8 h1, accE_8 h0 h1]
      rw [chkFr_no h1] at c2
      conv => whnf
      refine ⟨_, c1, ?_⟩
      conv => whnf
      refine iteF rfl ?_
      conv => whnf
      refine ⟨_, c2, ?_⟩
      conv => whnf
      refine iteT rfl ?_
      rfl
  · rw [accB_no h0, accE_no h0]
    have hq := neq0 h0
    generalize chkI d = z at *
    conv => whnf
    refine ⟨_, c1, ?_⟩
    conv => whnf
    refine iteT hq ?_
    conv => whnf
    refine ⟨_, c1, ?_⟩
    rfl
def sameI (a b : Id) : Bool := decide (a.ts = b.ts) && decide (a.cs = b.cs)
theorem sameI_rfl (a : Id) : sameI a a = true := by unfold sameI; rw [decide_eq_true rfl, decide_eq_true rfl]; rfl
theorem sameI_t {a b : Id} (h : a.ts ≠ b.ts) : sameI a b = false := by unfold sameI; rw [decide_eq_false h]; rfl
theorem sameI_c {a b : Id} (h : a.cs ≠ b.cs) : sameI a b = false := by unfold sameI; rw [decide_eq_false h, Bool.and_false]
theorem f35_ok (a b : Id) (ha : a.ok) : Fn Try.prog X.G 35 [idv a, idv b] (.p (.b (sameI a b))) := by
  refine Fn.intro (I := []) hX hm 0 Try.func35 rfl rfl (by kernel_rfl) rfl ?_
  have hn := ha.n
  unfold Id.n at hn
  conv => whnf
  refine iteC (fun h => ?_) (fun h => ?_)
  · have h : a.ts.length ≠ b.ts.length := fun e => by simp [e] at h
    rw [sameI_t fun e => h (by rw [e])]
    rfl
  have hl1 : a.ts.length = b.ts.length := Int.ofNat.inj (by simpa using h)
  conv => whnf
  refine iteC (fun h => ?_) (fun h => ?_)
  · have h : a.cs.length ≠ b.cs.length := fun e => by simp [e] at h
    rw [sameI_c fun e => h (by rw [e])]
    rfl
  have hl2 : a.cs.length = b.cs.length := Int.ofNat.inj (by simpa using h)
  conv => whnf
  refine LoopJ.intro (I := []) (base' := 0) hX hm (by kernel_rfl) (σ := Nat) (fun i => [(2, .ptr 16 []), (3, .ptr 24 []), (5, .p (.i .i64 i))]) (fun _ => [(16, .var (idv a)), (24, .var (idv b))]) (fun i => i ≤ a.ts.length ∧ ∀ j (h1 : j < a.ts.length) (h2 : j < b.ts.length), j < i → a.ts[j] = b.ts[j]) (fun i => a.ts.length - i) 0 []
    ⟨Nat.zero_le _, by intro j _ _ h; omega⟩ ⟨nofun, rfl, ⟨rfl, rfl, rfl, rfl, rfl, rfl, trivial⟩, ⟨rfl, rfl, rfl, rfl, trivial⟩⟩ ?_
  intro i ⟨hi, hI⟩
  conv => whnf
  refine iteC (fun h1 => ?_) (fun h1 => ?_)
  · have h1 := of_decide_eq_true h1
    rw [List.length_map] at h1
    have hlt : i < a.ts.length := by omega
    have hlt2 : i < b.ts.length := by omega
    have ga := getM (f := fun t => tkv t) hlt
    have gb := getM (f := fun t => tkv t) hlt2
    have s1 := congrArg (fun b => !b) (same_tk a.ts[i] b.ts[i])
    conv => whnf
    conv => arg 2; repeat (first | rw [ga] | (whnf; arg 2))
    conv => whnf
    conv => arg 2; repeat (first | rw [gb] | (whnf; arg 2))
    conv => whnf
    by_cases he : a.ts[i] = b.ts[i]
    · rw [decide_eq_true he] at s1
      refine iteF s1 ?_
      conv => whnf
      refine ⟨i + 1, [], ⟨by omega, fun j g1 g2 hj => ?_⟩, by dsimp only; omega, nofun, rfl, ⟨rfl, rfl, rfl, rfl, incN (by omega), rfl, trivial⟩, ⟨rfl, rfl, rfl, rfl, trivial⟩⟩
      by_cases hji : j = i
      · subst hji; exact he
      · exact hI j g1 g2 (by omega)
    · rw [decide_eq_false he] at s1
      refine iteT s1 ?_
      rw [sameI_t fun e => he (by simp only [e])]
      rfl
  have h1 := of_decide_eq_false h1
  rw [List.length_map] at h1
  have e1 : a.ts = b.ts := List.ext_getElem hl1 fun j g1 g2 => hI j g1 g2 (by omega)
  conv => whnf
  refine LoopJ.intro (I := []) (base' := 0) hX hm (by kernel_rfl) (σ := Nat) (fun i => [(2, .ptr 16 []), (3, .ptr 24 []), (6, .p (.i .i64 i))]) (fun _ => [(16, .var (idv a)), (24, .var (idv b))]) (fun i => i ≤ a.cs.length ∧ ∀ j (h1 : j < a.cs.length) (h2 : j < b.cs.length), j < i → a.cs[j] = b.cs[j]) (fun i => a.cs.length - i) 0 []
    ⟨Nat.zero_le _, by intro j _ _ h; omega⟩ ⟨nofun, rfl, ⟨rfl, rfl, rfl, rfl, rfl, rfl, trivial⟩, ⟨rfl, rfl, rfl, rfl, trivial⟩⟩ ?_
  intro i ⟨hi, hJ⟩
  conv => whnf
  refine iteC (fun h1 => ?_) (fun h1 => ?_)
  · have h1 := of_decide_eq_true h1
    rw [List.length_map] at h1
    have hlt : i < a.cs.length := by omega
    have hlt2 : i < b.cs.length := by omega
    have ga := getM (f := fun t => cmv t) hlt
    have gb := getM (f := fun t => cmv t) hlt2
    have s1 := congrArg (fun b => !b) (same_cm a.cs[i] b.cs[i])
    conv => whnf
    conv => arg 2; repeat (first | rw [ga] | (whnf; arg 2))
    conv => whnf
    conv => arg 2; repeat (first | rw [gb] | (whnf; arg 2))
    conv => whnf
    by_cases he : a.cs[i] = b.cs[i]
    · rw [decide_eq_true he] at s1
      refine iteF s1 ?_
      conv => whnf
      refine ⟨i + 1, [], ⟨by omega, fun j g1 g2 hj => ?_⟩, by dsimp only; omega, nofun, rfl, ⟨rfl, rfl, rfl, rfl, incN (by omega), rfl, trivial⟩, ⟨rfl, rfl, rfl, rfl, trivial⟩⟩
      by_cases hji : j = i
      · subst hji; exact he
      · exact hJ j g1 g2 (by omega)
    · rw [decide_eq_false he] at s1
      refine iteT s1 ?_
      rw [sameI_c fun e => he (by simp only [e])]
      rfl
  have h1 := of_decide_eq_false h1
  rw [List.length_map] at h1
  have e2 : a.cs = b.cs := List.ext_getElem hl2 fun j g1 g2 => hJ j g1 g2 (by omega)
  have e : a = b := by cases a; cases b; simp only [Id.mk.injEq] at *; exact ⟨e1, e2⟩
  rw [e, sameI_rfl]
  rfl
/-! ### The laws' helpers -/
def reqF (t : Tk) (en co : Int) : Fr := ⟨1, t, en, co, c00⟩
theorem f30_ok (t : Tk) (en co : Int) : Fn Try.prog X.G 30 [.p (tkv t), .p (.i .u16 en), .p (.i .u32 co)] (.p (frv (reqF t en co))) := by
  refine Fn.intro (I := []) hX hm 0 Try.func30 rfl rfl (by kernel_rfl) rfl ?_
  conv => whnf
  rfl
theorem f39_ok (c : Cm) : Fn Try.prog X.G 39 [.p (cmv c)] (.p (frv (comF c))) := by
  refine Fn.intro (I := []) hX hm 0 Try.func39 rfl rfl (by kernel_rfl) rfl ?_
  conv => whnf
  rfl
theorem f29_ok (d : Id) (f : Fr) (hd : d.ok) (hf : f.ok) : Fn Try.prog X.G 29 [idv d, .p (frv f)] (.p (.b (accB d f && decide (accE d f = 0)))) := by
  refine Fn.intro (I := []) hX hm 0 Try.func29 rfl rfl (by kernel_rfl) rfl ?_
  have c1 := f24_ok d f hd hf
  have q : (accE d f == 0) = decide (accE d f = 0) := by rw [Bool.eq_iff_iff, beq_iff_eq, decide_eq_true_eq]
  generalize accE d f = z at *
  generalize accB d f = b at *
  generalize decide (z = 0) = w at *
  cases b
  · conv => whnf
    refine ⟨_, c1, ?_⟩
    conv => whnf
    refine iteF rfl ?_
    rfl
  · cases w
    · conv => whnf
      refine ⟨_, c1, ?_⟩
      conv => whnf
      refine iteT rfl ?_
      conv => whnf
      refine iteF q ?_
      rfl
    · conv => whnf
      refine ⟨_, c1, ?_⟩
      conv => whnf
      refine iteT rfl ?_
      conv => whnf
      refine iteT q ?_
      rfl
theorem acc_same {d : Id} {f : Fr} (h0 : chkI d = 0) (h1 : okF f) : (accB d f && decide (accE d f = 0)) = sameB d f := by
  rw [accB_0 h0 h1, accE_0 h0 h1, decide_eq_true rfl, Bool.and_true]
theorem acc_8 {d : Id} {f : Fr} (h1 : ¬ okF f) : (accB d f && decide (accE d f = 0)) = false := by
  rw [accB_8 h1, Bool.false_and]
noncomputable def fitB (d : Id) (f : Fr) : Bool := !greatB d && decide (chkI d = 0) && decide (chkFr f = 0)
theorem f26_ok (d : Id) (f : Fr) (hd : d.ok) (hf : f.ok) : Fn Try.prog X.G 26 [idv d, .p (frv f)] (.p (.b (fitB d f))) := by
  refine Fn.intro (I := []) hX hm 0 Try.func26 rfl rfl (by kernel_rfl) rfl ?_
  have c0 := f23_ok d hd
  have c1 := f37_ok d hd
  have c2 := f53_ok f hf
  unfold fitB
  have q1 : (chkI d == 0) = decide (chkI d = 0) := by rw [Bool.eq_iff_iff, beq_iff_eq, decide_eq_true_eq]
  have q2 : (chkFr f == 0) = decide (chkFr f = 0) := by rw [Bool.eq_iff_iff, beq_iff_eq, decide_eq_true_eq]
  generalize chkI d = z1 at *
  generalize chkFr f = z2 at *
  generalize decide (z1 = 0) = w1 at *
  generalize decide (z2 = 0) = w2 at *
  generalize greatB d = g at *
  cases g
  · cases w1
    · conv => whnf
      refine ⟨_, c0, ?_⟩
      conv => whnf
      refine iteF rfl ?_
      conv => whnf
      refine ⟨_, c1, ?_⟩
      conv => whnf
      refine iteF q1 ?_
      rfl
    · cases w2
      · conv => whnf
        refine ⟨_, c0, ?_⟩
        conv => whnf
        refine iteF rfl ?_
        conv => whnf
        refine ⟨_, c1, ?_⟩
        conv => whnf
        refine iteT q1 ?_
        conv => whnf
        refine ⟨_, c2, ?_⟩
        conv => whnf
        refine iteF q2 ?_
        rfl
      · conv => whnf
        refine ⟨_, c0, ?_⟩
        conv => whnf
        refine iteF rfl ?_
        conv => whnf
        refine ⟨_, c1, ?_⟩
        conv => whnf
        refine iteT q1 ?_
        conv => whnf
        refine ⟨_, c2, ?_⟩
        conv => whnf
        refine iteT q2 ?_
        rfl
  · conv => whnf
    refine ⟨_, c0, ?_⟩
    conv => whnf
    refine iteT rfl ?_
    rfl
theorem f4_ok (d : Id) (f : Fr) (hd : d.ok) (hf : f.ok) : Fn Try.prog X.G 4 [idv d, .p (frv f)] (.p (.b true)) := by
  refine Fn.intro (I := []) hX hm 0 Try.func4 rfl rfl (by kernel_rfl) rfl ?_
  have c0 := f23_ok d hd
  have c1 := f24_ok d f hd hf
  have c2 := f25_ok d f hd hf
  generalize greatB d = g at *
  generalize accB d f = b at *
  generalize accE d f = e at *
  cases g
  · conv => whnf
    refine ⟨_, c0, ?_⟩
    conv => whnf
    refine iteF rfl ?_
    conv => whnf
    refine ⟨_, c1, ?_⟩
    cases b
    · conv => whnf
      refine iteF rfl ?_
      conv => whnf
      refine ⟨_, c2, ?_⟩
      conv => whnf
      refine iteF rfl ?_
      conv => whnf
      refine iteT rfl ?_
      conv => whnf
      refine iteT (beq_self_eq_true e) ?_
      rfl
    · conv => whnf
      refine iteT rfl ?_
      conv => whnf
      refine ⟨_, c2, ?_⟩
      conv => whnf
      refine iteT rfl ?_
      conv => whnf
      refine iteT rfl ?_
      conv => whnf
      refine iteT (beq_self_eq_true e) ?_
      rfl
  · conv => whnf
    refine ⟨_, c0, ?_⟩
    conv => whnf
    refine iteT rfl ?_
    rfl
end Go.Proofs.Ytgdpmnkmllelmaa.AM

namespace Go.Proofs.Ytgdpmnkmllelmaa.AM
open Go Go.Proofs
set_option maxRecDepth 100000

theorem neqS (x : Int) : (!(x == x)) = false := by rw [beq_self_eq_true]; rfl
theorem eq0 {x : Int} (h : ¬ x = 0) : (x == 0) = false := beq_eq_false_iff_ne.2 h
theorem reqF_ok {t : Tk} {en co : Int} (h : t.ok) (he : 0 ≤ en ∧ en < 65536) (hc : 0 ≤ co ∧ co < 4294967296) : (reqF t en co).ok := ⟨rngI rfl, h, he, hc, c00_okI⟩
theorem reqF_okF {t : Tk} {en co : Int} (h : t.t < 16) : okF (reqF t en co) := Or.inl ⟨rfl, rfl, h⟩
theorem same_req {d : Id} {t : Tk} {en co : Int} : sameP d (reqF t en co) ↔ t ∈ d.ts := ⟨fun h => h.elim (fun h => h.2) fun h => absurd h.1 (show ¬ (1 : Int) = 2 by decide), fun h => .inl ⟨rfl, h⟩⟩
theorem fine_nil : (⟨[], []⟩ : Id).fine := ⟨by simp [Id.n], ⟨by simp, by simp⟩, ⟨by simp, by simp⟩⟩
/-- An accepted token: the table that comes of it. -/
theorem same_of {d : Id} {f : Fr} (e : pErr d f = 0) (h : thereP d f) : sameP d f := by
  obtain ⟨hF, hk, _⟩ := pErr_0 e
  apply Classical.byContradiction
  intro hn
  rw [pErr_14 (fine_iff.2 hF) hk h hn] at e
  cases e
theorem not_full {d : Id} {f : Fr} (e : pErr d f = 0) (h : ¬ thereP d f) : ¬ d.n = 100 := by
  obtain ⟨hF, hk, _⟩ := pErr_0 e
  intro hn
  rw [pErr_4 (fine_iff.2 hF) hk h hn] at e
  cases e
section
variable {d : Id} {t u : Tk} {c : Cm}
theorem addT_fine (e : pErr d (tokF t) = 0) : chkI (addT d t) = 0 := by
  obtain ⟨hF, hk, _⟩ := pErr_0 e
  by_cases h : thereP d (tokF t)
  · rw [addT_old e h]; exact fine_iff.2 hF
  · rw [addT_new e h]; exact newT hF (tokF_okF.1 hk) h (not_full e h)
theorem addC_fine (e : pErr d (comF c) = 0) : chkI (addC d c) = 0 := by
  obtain ⟨hF, hk, _⟩ := pErr_0 e
  by_cases h : thereP d (comF c)
  · rw [addC_old e h]; exact fine_iff.2 hF
  · rw [addC_new e h]; exact newC hF (comF_okF.1 hk) h (not_full e h)
theorem addT_ok (hd : d.ok) (ht : t.ok) : (addT d t).ok := by
  by_cases e : pErr d (tokF t) = 0
  · by_cases h : thereP d (tokF t)
    · rw [addT_old e h]; exact hd
    · rw [addT_new e h]
      have := (pErr_0 e).1.n
      exact okT_snoc hd ht (by omega)
  · rw [addT_err e]; exact ok_nil
theorem addC_ok (hd : d.ok) (hc : c.ok) : (addC d c).ok := by
  by_cases e : pErr d (comF c) = 0
  · by_cases h : thereP d (comF c)
    · rw [addC_old e h]; exact hd
    · rw [addC_new e h]
      have := (pErr_0 e).1.n
      exact okC_snoc hd hc (by omega)
  · rw [addC_err e]; exact ok_nil
theorem same_addT {f : Fr} (e : pErr d (tokF t) = 0) : sameP (addT d t) f ↔ sameP d f ∨ (f.k = 1 ∧ f.tk = t) := by
  by_cases h : thereP d (tokF t)
  · rw [addT_old e h]
    refine ⟨.inl, fun h2 => h2.elim id fun h3 => .inl ⟨h3.1, ?_⟩⟩
    rw [h3.2]
    exact same_t.1 (same_of e h)
  · rw [addT_new e h]
    unfold sameP
    simp only [List.mem_append, List.mem_singleton]
    constructor
    · rintro (⟨h1, h2 | h2⟩ | h2)
      · exact .inl (.inl ⟨h1, h2⟩)
      · exact .inr ⟨h1, h2⟩
      · exact .inl (.inr h2)
    · rintro ((⟨h1, h2⟩ | h2) | ⟨h1, h2⟩)
      · exact .inl ⟨h1, .inl h2⟩
      · exact .inr h2
      · exact .inl ⟨h1, .inr h2⟩
theorem same_addC {f : Fr} (e : pErr d (comF c) = 0) : sameP (addC d c) f ↔ sameP d f ∨ (f.k = 2 ∧ f.cm = c) := by
  by_cases h : thereP d (comF c)
  · rw [addC_old e h]
    refine ⟨.inl, fun h2 => h2.elim id fun h3 => .inr ⟨h3.1, ?_⟩⟩
    rw [h3.2]
    exact same_c.1 (same_of e h)
  · rw [addC_new e h]
    unfold sameP
    simp only [List.mem_append, List.mem_singleton]
    constructor
    · rintro (h2 | ⟨h1, h2 | h2⟩)
      · exact .inl (.inl h2)
      · exact .inl (.inr ⟨h1, h2⟩)
      · exact .inr ⟨h1, h2⟩
    · rintro ((h2 | ⟨h1, h2⟩) | ⟨h1, h2⟩)
      · exact .inl h2
      · exact .inr ⟨h1, .inl h2⟩
      · exact .inr ⟨h1, .inr h2⟩
/-- A second time: as it is. -/
theorem againT (e : pErr d (tokF t) = 0) : pErr (addT d t) (tokF t) = 0 ∧ addT (addT d t) t = addT d t := by
  have hs : sameP (addT d t) (tokF t) := (same_addT e).2 (.inr ⟨rfl, rfl⟩)
  have e2 := pErr_same (addT_fine e) (pErr_0 e).2.1 hs
  exact ⟨e2, addT_old e2 (same_there hs)⟩
theorem againC (e : pErr d (comF c) = 0) : pErr (addC d c) (comF c) = 0 ∧ addC (addC d c) c = addC d c := by
  have hs : sameP (addC d c) (comF c) := (same_addC e).2 (.inr ⟨rfl, rfl⟩)
  have e2 := pErr_same (addC_fine e) (pErr_0 e).2.1 hs
  exact ⟨e2, addC_old e2 (same_there hs)⟩
/-- The order of two tokens. -/
theorem order_new (ht : pErr d (tokF t) = 0) (hu : pErr d (tokF u) = 0) (h1 : thereP d (tokF t)) : pErr (addT d t) (tokF u) = pErr (addT d u) (tokF t) := by
  rw [addT_old ht h1, hu]
  exact (pErr_same (addT_fine hu) (pErr_0 ht).2.1 ((same_addT hu).2 (.inl (same_of ht h1)))).symm
theorem order_err (ht : pErr d (tokF t) = 0) (hu : pErr d (tokF u) = 0) : pErr (addT d t) (tokF u) = pErr (addT d u) (tokF t) := by
  by_cases h1 : thereP d (tokF t)
  · exact order_new ht hu h1
  by_cases h2 : thereP d (tokF u)
  · exact (order_new hu ht h2).symm
  have f1 := addT_fine ht
  have f2 := addT_fine hu
  have k1 := (pErr_0 ht).2.1
  have k2 := (pErr_0 hu).2.1
  rw [addT_new ht h1] at f1 ⊢
  rw [addT_new hu h2] at f2 ⊢
  by_cases hb : bareK t = bareK u
  · by_cases htu : t = u
    · subst htu; rfl
    · rw [pErr_14 f1 k2 (there_t.2 ⟨t, by simp, hb⟩) (fun h => ?_), pErr_14 f2 k1 (there_t.2 ⟨u, by simp, hb.symm⟩) (fun h => ?_)]
      · rcases List.mem_append.1 (same_t.1 h) with h | h
        · exact h1 (there_t.2 ⟨_, h, rfl⟩)
        · exact htu (List.mem_singleton.1 h)
      · rcases List.mem_append.1 (same_t.1 h) with h | h
        · exact h2 (there_t.2 ⟨_, h, rfl⟩)
        · exact htu (List.mem_singleton.1 h).symm
  · have n1 : ¬ thereP ⟨d.ts ++ [t], d.cs⟩ (tokF u) := fun h => by
      obtain ⟨x, hx, he⟩ := there_t.1 h
      rcases List.mem_append.1 hx with hx | hx
      · exact h2 (there_t.2 ⟨x, hx, he⟩)
      · rw [List.mem_singleton.1 hx] at he; exact hb he
    have n2 : ¬ thereP ⟨d.ts ++ [u], d.cs⟩ (tokF t) := fun h => by
      obtain ⟨x, hx, he⟩ := there_t.1 h
      rcases List.mem_append.1 hx with hx | hx
      · exact h1 (there_t.2 ⟨x, hx, he⟩)
      · rw [List.mem_singleton.1 hx] at he; exact hb he.symm
    by_cases hn : d.n + 1 = 100
    · rw [pErr_4 f1 k2 n1 (by simp only [Id.n, List.length_append, List.length_singleton] at *; omega), pErr_4 f2 k1 n2 (by simp only [Id.n, List.length_append, List.length_singleton] at *; omega)]
    · rw [pErr_new f1 k2 n1 (by simp only [Id.n, List.length_append, List.length_singleton] at *; omega), pErr_new f2 k1 n2 (by simp only [Id.n, List.length_append, List.length_singleton] at *; omega)]
theorem order_same {f : Fr} (ht : pErr d (tokF t) = 0) (hu : pErr d (tokF u) = 0) (h : pErr (addT d t) (tokF u) = 0) : sameB (addT (addT d t) u) f = sameB (addT (addT d u) t) f := by
  have h' := order_err ht hu
  rw [h] at h'
  have e : sameP (addT (addT d t) u) f ↔ sameP (addT (addT d u) t) f := by
    rw [same_addT h, same_addT h'.symm, same_addT ht, same_addT hu]
    constructor
    · rintro ((h | h) | h)
      · exact .inl (.inl h)
      · exact .inr h
      · exact .inl (.inr h)
    · rintro ((h | h) | h)
      · exact .inl (.inl h)
      · exact .inr h
      · exact .inl (.inr h)
  by_cases h2 : sameP (addT (addT d t) u) f
  · rw [sameB_t h2, sameB_t (e.1 h2)]
  · rw [sameB_f h2, sameB_f fun x => h2 (e.2 x)]
end
/-! ### alive -/
def tA : Tk := ⟨1, 2, 0, 0, 9 :: List.replicate 31 0⟩
def tB : Tk := ⟨1, 2, 0, 0, 8 :: List.replicate 31 0⟩
theorem tag_okI {n : Int} (h : 0 ≤ n ∧ n < 256) : byt (n :: List.replicate 31 0) := fun x hx => by
  rcases List.mem_cons.1 hx with rfl | hx
  · exact h
  · rw [List.mem_replicate] at hx; rw [hx.2]; decide
theorem tA_ok : tA.ok := ⟨rngI rfl, rngI rfl, rngI rfl, rngI rfl, ⟨rfl, tag_okI (by decide)⟩⟩
theorem tB_ok : tB.ok := ⟨rngI rfl, rngI rfl, rngI rfl, rngI rfl, ⟨rfl, tag_okI (by decide)⟩⟩
theorem tA_new : ¬ thereP ⟨[], []⟩ (tokF tA) := fun h => by obtain ⟨x, hx, _⟩ := there_t.1 h; simp at hx
theorem tA_err : pErr ⟨[], []⟩ (tokF tA) = 0 := pErr_new (fine_iff.2 fine_nil) (tokF_okF.2 (by decide)) tA_new (by simp [Id.n])
theorem tA_add : addT ⟨[], []⟩ tA = ⟨[tA], []⟩ := addT_new tA_err tA_new
theorem tA_fine : chkI ⟨[tA], []⟩ = 0 := by
  have := addT_fine tA_err
  rwa [tA_add] at this
theorem tAB : tA ≠ tB := fun h => by have := congrArg (fun t : Tk => t.d) h; simp [tA, tB] at this
theorem tB_not : ¬ sameP ⟨[tA], []⟩ (tokF tB) := fun h => tAB (List.mem_singleton.1 (same_t.1 h)).symm
theorem tB_err : pErr ⟨[tA], []⟩ (tokF tB) = 14 := pErr_14 tA_fine (tokF_okF.2 (by decide)) (there_t.2 ⟨tA, by simp, rfl⟩) tB_not
theorem f27_ok : Fn Try.prog X.G 27 [] (.p (.b true)) := by
  refine Fn.intro (I := []) hX hm 0 Try.func27 rfl rfl (by kernel_rfl) rfl ?_
  have okA : (⟨[tA], []⟩ : Id).ok := by have := addT_ok ok_nil tA_ok; rwa [tA_add] at this
  have c0 := f38_ok
  have c1 := f28_ok ⟨[], []⟩ tA ok_nil tA_ok
  have c2 := f28_ok ⟨[tA], []⟩ tB okA tB_ok
  have c3 := f30_ok tB 0 0
  have c4 := f24_ok ⟨[tA], []⟩ (reqF tB 0 0) okA (reqF_ok tB_ok (by decide) (by decide))
  have c5 := f30_ok tA 0 0
  have c6 := f29_ok ⟨[tA], []⟩ (reqF tA 0 0) okA (reqF_ok tA_ok (by decide) (by decide))
  have c7 := f30_ok tA 65535 4294967295
  have c8 := f29_ok ⟨[tA], []⟩ (reqF tA 65535 4294967295) okA (reqF_ok tA_ok (by decide) (by decide))
  rw [tA_add, tA_err] at c1
  rw [tB_err, addT_err (by rw [tB_err]; decide)] at c2
  rw [accB_0 tA_fine (reqF_okF (by decide)), accE_0 tA_fine (reqF_okF (by decide)), sameB_f fun h => tAB (List.mem_singleton.1 (same_req.1 h)).symm] at c4
  rw [acc_same tA_fine (reqF_okF (by decide)), sameB_t (same_req.2 (by simp))] at c6 c8
  conv => whnf
  refine ⟨_, c0, ?_⟩
  conv => whnf
  refine ⟨_, c1, ?_⟩
  conv => whnf
  refine ⟨_, c2, ?_⟩
  conv => whnf
  refine ⟨_, c3, ?_⟩
  conv => whnf
  refine ⟨_, c4, ?_⟩
  conv => whnf
  refine iteF rfl ?_
  conv => whnf
  refine iteT rfl ?_
  conv => whnf
  refine ⟨_, c5, ?_⟩
  conv => whnf
  refine ⟨_, c6, ?_⟩
  conv => whnf
  refine iteT rfl ?_
  conv => whnf
  refine ⟨_, c7, ?_⟩
  conv => whnf
  refine ⟨_, c8, ?_⟩
  conv => whnf
  refine iteT rfl ?_
  conv => whnf
  refine iteT rfl ?_
  conv => whnf
  refine iteT rfl ?_
  rfl
end Go.Proofs.Ytgdpmnkmllelmaa.AM

namespace Go.Proofs.Ytgdpmnkmllelmaa.AM
open Go Go.Proofs
set_option maxRecDepth 100000

theorem fit_of {d : Id} {f : Fr} (h : fitB d f = true) : greatB d = false ∧ chkI d = 0 ∧ okF f := by
  unfold fitB at h
  simp only [Bool.and_eq_true, Bool.not_eq_true', decide_eq_true_eq] at h
  exact ⟨h.1.1, h.1.2, chkFr_0 h.2⟩
theorem pErr_vals {d : Id} {f : Fr} (h0 : chkI d = 0) (h : ¬ pErr d f = 0) : pErr d f = 8 ∨ pErr d f = 14 ∨ pErr d f = 4 := by
  by_cases h1 : okF f
  · by_cases h2 : thereP d f
    · by_cases h3 : sameP d f
      · exact absurd (pErr_same h0 h1 h3) h
      · exact .inr (.inl (pErr_14 h0 h1 h2 h3))
    · by_cases h3 : d.n = 100
      · exact .inr (.inr (pErr_4 h0 h1 h2 h3))
      · exact absurd (pErr_new h0 h1 h2 h3) h
  · exact .inl (pErr_8 h0 h1)
set_option maxHeartbeats 4000000 in
theorem f5_ok (d : Id) (t u : Tk) (f : Fr) (en co : Int) (hd : d.ok) (ht : t.ok) (hu : u.ok) (hf : f.ok) (he : 0 ≤ en ∧ en < 65536) (hc : 0 ≤ co ∧ co < 4294967296) :
    Fn Try.prog X.G 5 [idv d, .p (tkv t), .p (tkv u), .p (frv f), .p (.i .u16 en), .p (.i .u32 co)] (.p (.b true)) := by
  refine Fn.intro (I := []) hX hm 0 Try.func5 rfl rfl (by kernel_rfl) rfl ?_
  have cf := f26_ok d f hd hf
  have ca := f27_ok
  by_cases hfit : fitB d f = true
  · rw [hfit] at cf
    obtain ⟨_, h0, hk⟩ := fit_of hfit
    have c1 := f28_ok d t hd ht
    have c2 := f28_ok d u hd hu
    conv => whnf
    refine ⟨_, cf, ?_⟩
    conv => whnf
    refine iteT rfl ?_
    conv => whnf
    refine ⟨_, c1, ?_⟩
    conv => whnf
    refine ⟨_, c2, ?_⟩
    by_cases e1 : pErr d (tokF t) = 0
    · by_cases e2 : pErr d (tokF u) = 0
      · have oT := addT_ok hd ht
        have oU := addT_ok hd hu
        have c3 := f28_ok (addT d t) u oT hu
        have c4 := f28_ok (addT d u) t oU ht
        rw [← order_err e1 e2] at c4
        rw [e1, e2]
        conv => whnf
        refine iteF rfl ?_
        conv => whnf
        refine iteF rfl ?_
        conv => whnf
        refine ⟨_, c3, ?_⟩
        conv => whnf
        refine ⟨_, c4, ?_⟩
        have c7 := f29_ok d f hd hf
        have c8 := f30_ok f.tk en co
        have c9 : f.k = 1 → Fn Try.prog X.G 29 [idv d, .p (frv (reqF f.tk en co))] (.p (.b (sameB d f))) := fun hk1 => by
          have h := f29_ok d (reqF f.tk en co) hd (reqF_ok hf.tk he hc)
          rw [acc_same h0 (reqF_okF (by rcases hk with h | h; exact h.2.2; omega)), sameB_dec (p := f.tk ∈ d.ts) same_req] at h
          rw [sameB_dec (p := f.tk ∈ d.ts) ⟨fun h => h.elim (fun h => h.2) fun h => by omega, fun h => .inl ⟨hk1, h⟩⟩]
          exact h
        rw [acc_same h0 hk] at c7
        generalize sameB d f = s at *
        conv => whnf
        refine iteF (neqS _) ?_
        by_cases h3 : pErr (addT d t) (tokF u) = 0
        · have c5 := f29_ok (addT (addT d t) u) f (addT_ok oT hu) hf
          have c6 := f29_ok (addT (addT d u) t) f (addT_ok oU ht) hf
          rw [acc_same (addT_fine h3) hk] at c5
          rw [acc_same (addT_fine ((order_err e1 e2).symm.trans h3)) hk, ← order_same e1 e2 h3] at c6
          generalize sameB (addT (addT d t) u) f = b at *
          conv => whnf
          refine iteT (beq_iff_eq.2 h3) ?_
          conv => whnf
          refine ⟨_, c5, ?_⟩
          cases b
          · conv => whnf
            refine iteF rfl ?_
            conv => whnf
            refine ⟨_, c6, ?_⟩
            conv => whnf
            refine iteF rfl ?_
            conv => whnf
            refine iteF rfl ?_
            by_cases hk1 : f.k = 1
            · have c9 := c9 hk1
              conv => whnf
              refine iteT (beq_iff_eq.2 hk1) ?_
              conv => whnf
              refine ⟨_, c7, ?_⟩
              cases s
              · conv => whnf
                refine iteF rfl ?_
                conv => whnf
                refine ⟨_, c8, ?_⟩
                conv => whnf
                refine ⟨_, c9, ?_⟩
                conv => whnf
                refine iteF rfl ?_
                conv => whnf
                refine iteF rfl ?_
                conv => whnf
                refine ⟨_, ca, ?_⟩
                conv => whnf
                refine iteT rfl ?_
                rfl
              · conv => whnf
                refine iteT rfl ?_
                conv => whnf
                refine ⟨_, c8, ?_⟩
                conv => whnf
                refine ⟨_, c9, ?_⟩
                conv => whnf
                refine iteT rfl ?_
                conv => whnf
                refine iteF rfl ?_
                conv => whnf
                refine ⟨_, ca, ?_⟩
                conv => whnf
                refine iteT rfl ?_
                rfl
            · conv => whnf
              refine iteF (beq_eq_false_iff_ne.2 hk1) ?_
              conv => whnf
              refine ⟨_, ca, ?_⟩
              conv => whnf
              refine iteT rfl ?_
              rfl
          · conv => whnf
            refine iteT rfl ?_
            conv => whnf
            refine ⟨_, c6, ?_⟩
            conv => whnf
            refine iteT rfl ?_
            conv => whnf
            refine iteF rfl ?_
            by_cases hk1 : f.k = 1
            · have c9 := c9 hk1
              conv => whnf
              refine iteT (beq_iff_eq.2 hk1) ?_
              conv => whnf
              refine ⟨_, c7, ?_⟩
              cases s
              · conv => whnf
                refine iteF rfl ?_
                conv => whnf
                refine ⟨_, c8, ?_⟩
                conv => whnf
                refine ⟨_, c9, ?_⟩
                conv => whnf
                refine iteF rfl ?_
                conv => whnf
                refine iteF rfl ?_
                conv => whnf
                refine ⟨_, ca, ?_⟩
                conv => whnf
                refine iteT rfl ?_
                rfl
              · conv => whnf
                refine iteT rfl ?_
                conv => whnf
                refine ⟨_, c8, ?_⟩
                conv => whnf
                refine ⟨_, c9, ?_⟩
                conv => whnf
                refine iteT rfl ?_
                conv => whnf
                refine iteF rfl ?_
                conv => whnf
                refine ⟨_, ca, ?_⟩
                conv => whnf
                refine iteT rfl ?_
                rfl
            · conv => whnf
              refine iteF (beq_eq_false_iff_ne.2 hk1) ?_
              conv => whnf
              refine ⟨_, ca, ?_⟩
              conv => whnf
              refine iteT rfl ?_
              rfl
        · conv => whnf
          refine iteF (eq0 h3) ?_
          by_cases hk1 : f.k = 1
          · have c9 := c9 hk1
            conv => whnf
            refine iteT (beq_iff_eq.2 hk1) ?_
            conv => whnf
            refine ⟨_, c7, ?_⟩
            cases s
            · conv => whnf
              refine iteF rfl ?_
              conv => whnf
              refine ⟨_, c8, ?_⟩
              conv => whnf
              refine ⟨_, c9, ?_⟩
              conv => whnf
              refine iteF rfl ?_
              conv => whnf
              refine iteF rfl ?_
              conv => whnf
              refine ⟨_, ca, ?_⟩
              conv => whnf
              refine iteT rfl ?_
              rfl
            · conv => whnf
              refine iteT rfl ?_
              conv => whnf
              refine ⟨_, c8, ?_⟩
              conv => whnf
              refine ⟨_, c9, ?_⟩
              conv => whnf
              refine iteT rfl ?_
              conv => whnf
              refine iteF rfl ?_
              conv => whnf
              refine ⟨_, ca, ?_⟩
              conv => whnf
              refine iteT rfl ?_
              rfl
          · conv => whnf
            refine iteF (beq_eq_false_iff_ne.2 hk1) ?_
            conv => whnf
            refine ⟨_, ca, ?_⟩
            conv => whnf
            refine iteT rfl ?_
            rfl
      · rw [e1]
        conv => whnf
        refine iteF rfl ?_
        conv => whnf
        refine iteT (neq0 e2) ?_
        conv => whnf
        refine ⟨_, ca, ?_⟩
        conv => whnf
        refine iteT rfl ?_
        rfl
    · conv => whnf
      refine iteT (neq0 e1) ?_
      conv => whnf
      refine ⟨_, ca, ?_⟩
      conv => whnf
      refine iteT rfl ?_
      rfl
  · rw [Bool.eq_false_iff.2 hfit] at cf
    conv => whnf
    refine ⟨_, cf, ?_⟩
    conv => whnf
    refine iteF rfl ?_
    conv => whnf
    refine ⟨_, ca, ?_⟩
    conv => whnf
    refine iteT rfl ?_
    rfl
end Go.Proofs.Ytgdpmnkmllelmaa.AM

namespace Go.Proofs.Ytgdpmnkmllelmaa.AM
open Go Go.Proofs
set_option maxRecDepth 100000

theorem great_n {d : Id} (h : greatB d = false) : d.n ≤ 150 := by
  unfold greatB at h
  simp only [Bool.or_eq_false_iff, Bool.and_eq_false_iff, decide_eq_false_iff_not] at h
  omega
theorem twin_big (d : Id) (hn : d.ts.length ≤ 1000 ∧ d.cs.length ≤ 1000) : Fn Try.prog X.G 31 [idv d] (idv d) := by
  refine Fn.intro (I := []) hX hm 0 Try.func31 rfl rfl (by kernel_rfl) rfl ?_
  conv => whnf
  conv => arg 2; repeat (first | rw [capN _ (by simp; omega)] | (whnf; arg 2))
  conv => whnf
  conv => arg 2; repeat (first | rw [capN _ (by simp; omega)] | (whnf; arg 2))
  conv => whnf
  rfl
/-- Tokens, of the first i the number one on. -/
def bump (t : Tk) : Tk := ⟨t.t, IntKind.u32.wrap (t.u + 1), t.e, t.x, t.d⟩
def bumps (l : List Tk) (i : Nat) : List Tk := (l.take i).map bump ++ l.drop i
theorem bumps_len (l : List Tk) (i : Nat) : (bumps l i).length = l.length := by simp [bumps]; omega
theorem bumps_0 (l : List Tk) : bumps l 0 = l := by simp [bumps]
theorem bumps_at {l : List Tk} {i : Nat} (h : i < l.length) : bumps l i = (l.take i).map bump ++ l[i] :: l.drop (i + 1) := by
  unfold bumps; rw [← List.drop_eq_getElem_cons h]
theorem bumps_tl {l : List Tk} {i : Nat} (h : i < l.length) : ((l.take i).map bump).length = i := by rw [List.length_map, List.length_take]; omega
theorem bumps_get {l : List Tk} {i : Nat} (h : i < l.length) (h2 : i < (bumps l i).length) : (bumps l i)[i] = l[i] := by
  have e := bumps_tl h
  have : (bumps l i)[i]? = some l[i] := by
    rw [bumps_at h, List.getElem?_append_right (by omega), e, Nat.sub_self]
    rfl
  rw [List.getElem?_eq_getElem h2] at this
  exact Option.some.inj this
theorem bumps_step {l : List Tk} {i : Nat} (h : i < l.length) : (bumps l i).set i (bump l[i]) = bumps l (i + 1) := by
  have e := bumps_tl h
  rw [bumps_at h, List.set_append_right _ _ (by omega), e, Nat.sub_self]
  unfold bumps
  rw [take_map bump h, List.append_assoc]
  rfl
/-! ### The nil slice, of any shape -/
theorem rel_nil {W : World} {φ : Phi} {H : HeapF} {s s' : Sh} {v : Value} (h : Rel W φ H (.ro s []) v) : Rel W φ H (.ro s' []) v := by
  simp only [Rel] at h ⊢
  obtain ⟨a, c, h1, h2, h3, _, _⟩ := h
  exact ⟨a, c, h1, h2, h3, PV.allSh_iff.2 (by simp), .inl trivial⟩
theorem rel_st2 {W : World} {φ : Phi} {H : HeapF} {a b a' b' : AV} (h1 : ∀ v, Rel W φ H a v → Rel W φ H a' v) (h2 : ∀ v, Rel W φ H b v → Rel W φ H b' v) (s1 : a'.stays = true) (s2 : b'.stays = true) {v : Value} (h : Rel W φ H (.st [a, b]) v) : Rel W φ H (.st [a', b']) v := by
  simp only [Rel] at h ⊢
  obtain ⟨vs, hr, _, rfl⟩ := h
  match vs, hr with
  | [x, y], hr =>
    refine ⟨[x, y], ⟨h1 _ hr.1, h2 _ hr.2.1, trivial⟩, fun z hz => ?_, rfl⟩
    rcases List.mem_cons.1 hz with rfl | hz
    · exact s1
    · rcases List.mem_cons.1 hz with rfl | hz
      · exact s2
      · cases hz
theorem fn_arg1 {P : Program} {G : Globs} {f : Nat} {x y : AV} {xs : List AV} {r : AV} (h : Fn P G f (y :: xs) r) (hr : ∀ w v, Rel w noPhi noHeap x v → Rel w noPhi noHeap y v) : Fn P G f (x :: xs) r :=
  ⟨h.1, fun w vs hG hv => h.2 w vs hG (match vs, hv with | _ :: _, hv => ⟨hr _ _ hv.1, hv.2⟩)⟩
theorem fn_arg2 {P : Program} {G : Globs} {f : Nat} {z x y : AV} {xs : List AV} {r : AV} (h : Fn P G f (z :: y :: xs) r) (hr : ∀ w v, Rel w noPhi noHeap x v → Rel w noPhi noHeap y v) : Fn P G f (z :: x :: xs) r :=
  ⟨h.1, fun w vs hG hv => h.2 w vs hG (match vs, hv with | _ :: _ :: _, hv => ⟨hv.1, hr _ _ hv.2.1, hv.2.2⟩)⟩
theorem f6_ok (d : Id) (t : Tk) (c : Cm) (hd : d.ok) (ht : t.ok) (hc : c.ok) : Fn Try.prog X.G 6 [idv d, .p (tkv t), .p (cmv c)] (.p (.b true)) := by
  refine Fn.intro (I := []) hX hm 0 Try.func6 rfl rfl (by kernel_rfl) rfl ?_
  have cg := f23_ok d hd
  by_cases hg : greatB d = true
  · rw [hg] at cg
    conv => whnf
    refine ⟨_, cg, ?_⟩
    conv => whnf
    refine iteT rfl ?_
    rfl
  have hg := Bool.eq_false_iff.2 hg
  rw [hg] at cg
  have hn := great_n hg
  have c0 := twin_big d (by unfold Id.n at hn; omega)
  have c1 := f28_ok d t hd ht
  have c2 := f32_ok d t hd ht
  have c3 := f33_ok d c hd hc
  have c4 := f34_ok d c hd hc
  have oT := addT_ok hd ht
  have oC := addC_ok hd hc
  have c5 := f35_ok d d hd
  have c6 := f35_ok (addT d t) (addT d t) oT
  have c7 := f35_ok (addC d c) (addC d c) oC
  have c8 := f36_ok d hd
  have c9 := f37_ok d hd
  have cn := f38_ok
  have cs := f35_ok ⟨[], []⟩ ⟨[], []⟩ ok_nil
  rw [sameI_rfl] at c5 c6 c7 cs
  have cs := fn_arg2 (x := .st [.ro .one [], .ro .one []]) cs fun w v h => rel_st2 (fun _ => rel_nil) (fun _ => rel_nil) rfl rfl h
  generalize chkI d = z at *
  generalize pErr d (tokF t) = e1 at *
  generalize pErr d (comF c) = e2 at *
  generalize addT d t = A at *
  generalize addC d c = C at *
  conv => whnf
  refine ⟨_, cg, ?_⟩
  conv => whnf
  refine iteF rfl ?_
  conv => whnf
  refine ⟨_, c0, ?_⟩
  conv => whnf
  refine ⟨_, c1, ?_⟩
  conv => whnf
  refine ⟨_, c2, ?_⟩
  conv => whnf
  refine ⟨_, c3, ?_⟩
  conv => whnf
  refine ⟨_, c4, ?_⟩
  conv => whnf
  refine ⟨_, c5, ?_⟩
  conv => whnf
  refine iteT rfl ?_
  conv => whnf
  refine ⟨_, c6, ?_⟩
  conv => whnf
  refine iteT rfl ?_
  conv => whnf
  refine ⟨_, c7, ?_⟩
  conv => whnf
  refine iteT rfl ?_
  conv => whnf
  refine LoopJ.introK (I := []) (base' := 1000) hX hm (by kernel_rfl) [3, 7, 9, 11, 13, 15, 8] [24, 56, 160, 161, 64, 193] (σ := Nat) (fun i => [(16, .p (.i .i64 i))]) (fun i => [(192, .els true tsh ((bumps A.ts i).map fun t => tkv t))]) (fun i => i ≤ A.ts.length) (fun i => A.ts.length - i) 0
    (Nat.zero_le _) ⟨nofun, rfl, ⟨rfl, rfl, rfl, rfl, rfl, rfl, rfl, rfl, rfl, rfl, rfl, rfl, rfl, rfl, rfl, rfl, trivial⟩, ⟨congrArg (fun l : List Tk => some (Blk.els true tsh (l.map fun t => tkv t))) (bumps_0 A.ts).symm, rfl, rfl, rfl, rfl, rfl, rfl, rfl, rfl, rfl, rfl, rfl, rfl, rfl, trivial⟩⟩ ?_
  have hnA := oT.n
  unfold Id.n at hnA
  intro i hi
  conv => whnf
  refine iteC (fun h1 => ?_) (fun h1 => ?_)
  · have h1 := of_decide_eq_true h1
    rw [List.length_map, bumps_len] at h1
    have hlt : i < A.ts.length := by omega
    have hlt2 : i < (bumps A.ts i).length := by rw [bumps_len]; exact hlt
    have hg := getM (f := fun t => tkv t) hlt2
    rw [bumps_get hlt hlt2] at hg
    have hgo0 : (List.map (fun t => tkv t) (bumps A.ts i))[i]? = some (tkv A.ts[i]) := by rw [List.getElem?_map, List.getElem?_eq_getElem hlt2, bumps_get hlt hlt2]; rfl
    have hgo : List.get?Internal (List.map (fun t => tkv t) (bumps A.ts i)) ((i : Nat) : Int).toNat = some (tkv A.ts[i]) := hgo0
    conv => whnf
    conv => arg 2; repeat (first | rw [hg] | rw [hgo] | (whnf; arg 2))
    conv => whnf
    conv => arg 2; repeat (first | rw [hg] | rw [hgo] | (whnf; arg 2))
    conv => whnf
    conv => arg 2; repeat (first | rw [hg] | rw [hgo] | (whnf; arg 2))
    conv => whnf
    conv => arg 2; repeat (first | rw [hg] | rw [hgo] | (whnf; arg 2))
    conv => whnf
    conv => arg 2; repeat (first | rw [hg] | rw [hgo] | (whnf; arg 2))
    conv => whnf
    conv => arg 2; repeat (first | rw [hg] | rw [hgo] | (whnf; arg 2))
    conv => whnf
    conv => arg 2; repeat (first | rw [hg] | rw [hgo] | (whnf; arg 2))
    conv => whnf
    conv => arg 2; repeat (first | rw [hg] | rw [hgo] | (whnf; arg 2))
    conv => whnf
    conv => arg 2; repeat (first | rw [hg] | rw [hgo] | (whnf; arg 2))
    conv => whnf
    conv => arg 2; repeat (first | rw [hg] | rw [hgo] | (whnf; arg 2))
    conv => whnf
    have hset : (List.map (fun t => tkv t) (bumps A.ts i)).set i (tkv (bump A.ts[i])) = List.map (fun t => tkv t) (bumps A.ts (i + 1)) := by rw [← bumps_step hlt, List.map_set]
    refine ⟨i + 1, [], by omega, by dsimp only; omega, nofun, rfl, ⟨incN (by omega), rfl, rfl, rfl, rfl, rfl, rfl, rfl, rfl, rfl, rfl, rfl, rfl, rfl, rfl, rfl, trivial⟩, ⟨?_, rfl, rfl, rfl, rfl, rfl, rfl, rfl, rfl, rfl, rfl, rfl, rfl, rfl, trivial⟩⟩
    exact congrArg (fun l => some (Blk.els true tsh l)) hset
  · have h1 := of_decide_eq_false h1
    rw [List.length_map, bumps_len] at h1
    have hil : i = A.ts.length := by omega
    subst hil
    conv => whnf
    refine ⟨_, c8, ?_⟩
    conv => whnf
    refine ⟨_, c9, ?_⟩
    conv => whnf
    refine iteT (beq_self_eq_true z) ?_
    conv => whnf
    refine iteT (beq_self_eq_true e1) ?_
    conv => whnf
    refine iteT (beq_self_eq_true e2) ?_
    conv => whnf
    refine ⟨_, c5, ?_⟩
    conv => whnf
    refine iteT rfl ?_
    conv => whnf
    refine ⟨_, cn, ?_⟩
    conv => whnf
    refine ⟨_, cs, ?_⟩
    conv => whnf
    refine iteT rfl ?_
    rfl
end Go.Proofs.Ytgdpmnkmllelmaa.AM

namespace Go.Proofs.Ytgdpmnkmllelmaa.AM
open Go Go.Proofs
set_option maxRecDepth 100000

def tN (i : Nat) : Tk := ⟨0, IntKind.u32.wrap (i : Int), 0, 0, zd⟩
def full (i : Nat) : Id := ⟨(List.range i).map tN, []⟩
theorem wrTN {i : Nat} (h : i ≤ 1000) : IntKind.u32.wrap (i : Int) = (i : Int) := wr_u32 (by omega) (by omega)
theorem tN_ok {i : Nat} (h : i ≤ 1000) : (tN i).ok := ⟨rngI rfl, by show 0 ≤ IntKind.u32.wrap (i : Int) ∧ IntKind.u32.wrap (i : Int) < 4294967296; rw [wrTN h]; omega, rngI rfl, rngI rfl, ⟨rfl, zd_bytI⟩⟩
theorem tN_bare {i j : Nat} (hi : i ≤ 1000) (hj : j ≤ 1000) (h : bareK (tN i) = bareK (tN j)) : i = j := by
  have h := congrArg (fun t : Tk => t.u) h
  have h : IntKind.u32.wrap (i : Int) = IntKind.u32.wrap (j : Int) := h
  rw [wrTN hi, wrTN hj] at h
  omega
theorem full_no {i j : Nat} (hi : i ≤ j) (hj : j ≤ 1000) : ¬ ∃ x ∈ (full i).ts, bareK x = bareK (tN j) := by
  rintro ⟨x, hx, he⟩
  obtain ⟨k, hk, rfl⟩ := List.mem_map.1 hx
  have := List.mem_range.1 hk
  have := tN_bare (by omega) hj he
  omega
theorem full_n (i : Nat) : (full i).n = i := by simp [full, Id.n]
theorem full_succ (i : Nat) : (full (i + 1)) = ⟨(full i).ts ++ [tN i], []⟩ := by
  unfold full
  rw [List.range_succ, List.map_append]
  rfl
theorem full_okk {i : Nat} (hi : i ≤ 1000) : (full i).ok := ⟨fun t ht => by
  obtain ⟨k, hk, rfl⟩ := List.mem_map.1 ht
  have := List.mem_range.1 hk
  exact tN_ok (by omega), by simp [full], by rw [full_n]; omega⟩
theorem full_step {i : Nat} (hi : i ≤ 99) (hF : (full i).fine) : pErr (full i) (tokF (tN i)) = 0 ∧ addT (full i) (tN i) = full (i + 1) := by
  have hno : ¬ thereP (full i) (tokF (tN i)) := fun h => full_no (Nat.le_refl i) (by omega) (there_t.1 h)
  have e := pErr_new (fine_iff.2 hF) (tokF_okF.2 (by show (0 : Int) < 16; decide)) hno (by rw [full_n]; omega)
  refine ⟨e, ?_⟩
  rw [addT_new e hno, full_succ]
  rfl
theorem full_fine : ∀ {i : Nat}, i ≤ 100 → (full i).fine
  | 0, _ => fine_nil
  | i + 1, h => by
    obtain ⟨e, ha⟩ := full_step (i := i) (by omega) (full_fine (by omega))
    have := addT_fine e
    rw [ha] at this
    exact fine_iff.1 this
/-! ### The commands -/
def cN : Cm := ⟨2, 3, 0, l00, l00, l00, 0, 0, 0, zd⟩
def c4N : Cm := ⟨4, 0, 0, l00, l00, l00, 0, 0, 0, zd⟩
def cO : Cm := ⟨2, 3, 0, l00, l00, l00, 0, 0, 0, List.replicate 31 0 ++ [1]⟩
def t16 : Tk := ⟨16, 0, 0, 0, zd⟩
def x1 : Tk := ⟨0, 1, 0, 0, zd⟩
def x2 : Tk := ⟨0, 1, 0, 0, 1 :: List.replicate 31 0⟩
def fZ : Fr := ⟨0, t0T, 0, 0, c00⟩
theorem cN_ok : cN.ok := ⟨rngI rfl, rngI rfl, rngI rfl, l00_okI, l00_okI, l00_okI, rngI rfl, rngI rfl, rngI rfl, ⟨rfl, zd_bytI⟩⟩
theorem c4_ok : c4N.ok := ⟨rngI rfl, rngI rfl, rngI rfl, l00_okI, l00_okI, l00_okI, rngI rfl, rngI rfl, rngI rfl, ⟨rfl, zd_bytI⟩⟩
theorem cO_ok : cO.ok := ⟨rngI rfl, rngI rfl, rngI rfl, l00_okI, l00_okI, l00_okI, rngI rfl, rngI rfl, rngI rfl, ⟨rfl, fun x hx => by
  rcases List.mem_append.1 hx with hx | hx
  · rw [List.mem_replicate] at hx; rw [hx.2]; decide
  · rw [List.mem_singleton.1 hx]; decide⟩⟩
theorem t16_ok : t16.ok := ⟨rngI rfl, rngI rfl, rngI rfl, rngI rfl, ⟨rfl, zd_bytI⟩⟩
theorem x1_ok : x1.ok := ⟨rngI rfl, rngI rfl, rngI rfl, rngI rfl, ⟨rfl, zd_bytI⟩⟩
theorem x2_ok : x2.ok := ⟨rngI rfl, rngI rfl, rngI rfl, rngI rfl, ⟨rfl, tag_okI (by decide)⟩⟩
theorem fZ_ok : fZ.ok := ⟨rngI rfl, t0T_okI, rngI rfl, rngI rfl, c00_okI⟩
theorem cN_okC : okC cN := by decide
theorem c4_okC : okC c4N := by decide
theorem cO_okC : okC cO := by decide
theorem c00_okC : ¬ okC c00 := by decide
theorem fZ_okF : ¬ okF fZ := fun h => h.elim (fun h => absurd h.1 (show ¬ (0 : Int) = 1 by decide)) fun h => absurd h.1 (show ¬ (0 : Int) = 2 by decide)
theorem cON : cO ≠ cN := fun h => by have := congrArg (fun c : Cm => c.d.getLast?) h; simp [cO, cN, zd] at this
def hund : Id := ⟨(full 99).ts, [cN]⟩
theorem hund_no : ¬ thereP (full 99) (comF cN) := fun h => by obtain ⟨x, hx, _⟩ := there_c.1 h; simp [full] at hx
theorem hund_e : pErr (full 99) (comF cN) = 0 := pErr_new (fine_iff.2 (full_fine (by omega))) (comF_okF.2 cN_okC) hund_no (by rw [full_n]; decide)
theorem hund_add : addC (full 99) cN = hund := addC_new hund_e hund_no
theorem hund_fine : chkI hund = 0 := by have := addC_fine hund_e; rwa [hund_add] at this
theorem hund_ok : hund.ok := by have := addC_ok (full_okk (i := 99) (by omega)) cN_ok; rwa [hund_add] at this
theorem hund_n : hund.n = 100 := by simp [hund, full, Id.n]
theorem again_N : pErr hund (comF cN) = 0 ∧ addC hund cN = hund := by have := againC hund_e; rwa [hund_add] at this
theorem e_100 : pErr hund (tokF (tN 100)) = 4 := pErr_4 hund_fine (tokF_okF.2 (by show (0 : Int) < 16; decide)) (fun h => by
  obtain ⟨x, hx, he⟩ := there_t.1 h
  exact full_no (i := 99) (j := 100) (by omega) (by omega) ⟨x, hx, he⟩) hund_n
theorem e_c4 : pErr hund (comF c4N) = 4 := pErr_4 hund_fine (comF_okF.2 c4_okC) (fun h => by
  obtain ⟨x, hx, he⟩ := there_c.1 h
  rw [List.mem_singleton.1 hx] at he
  have := congrArg (fun c : Cm => c.op) he
  exact absurd this (show ¬ (2 : Int) = 4 by decide)) hund_n
theorem cO_not : ¬ sameP hund (comF cO) := fun h => cON (List.mem_singleton.1 (same_c.1 h))
theorem e_cO : pErr hund (comF cO) = 14 := pErr_14 hund_fine (comF_okF.2 cO_okC) (there_c.2 ⟨cN, by simp [hund], rfl⟩) cO_not
theorem e_16 : pErr hund (tokF t16) = 8 := pErr_8 hund_fine fun h => absurd (tokF_okF.1 h) (show ¬ (16 : Int) < 16 by decide)
theorem e_00 : pErr hund (comF c00) = 8 := pErr_8 hund_fine fun h => c00_okC (comF_okF.1 h)
def many : Id := ⟨(full 99).ts ++ [tN 99], [cN]⟩
theorem many_n : many.n = 101 := by simp [many, full, Id.n]
theorem many_4 : chkI many = 4 := chkI_4 (by rw [many_n]; decide)
theorem many_ok : many.ok := ⟨all_snoc hund_ok.ts (tN_ok (by omega)), hund_ok.cs, by rw [many_n]; decide⟩
theorem e_many : pErr many (tokF t16) = 4 := by rw [pErr_bad (by rw [many_4]; decide), many_4]
def twiceD : Id := ⟨[x1, x2], []⟩
def againD : Id := ⟨[], [cN, cN]⟩
def badD : Id := ⟨[x1, x1, t16], []⟩
def worseD : Id := ⟨[], [c00]⟩
theorem twice_14 : chkI twiceD = 14 := chkI_14 (by simp [twiceD, Id.n]) ⟨by simp [twiceD, x1, x2], by simp [twiceD]⟩ fun h => by
  have := h.1
  rw [show twiceD.ts.map bareK = [bareK x1, bareK x1] from rfl] at this
  simp at this
theorem again_14 : chkI againD = 14 := chkI_14 (by simp [againD, Id.n]) ⟨by simp [againD], fun c hc => by
  simp only [againD, List.mem_cons, List.not_mem_nil, or_false, or_self] at hc
  rw [hc]; exact cN_okC⟩ fun h => by
  have := h.2
  rw [show againD.cs.map plainC = [plainC cN, plainC cN] from rfl] at this
  simp at this
theorem bad_8 : chkI badD = 8 := chkI_8 (by simp [badD, Id.n]) fun h => absurd (h.1 t16 (by simp [badD])) (show ¬ (16 : Int) < 16 by decide)
theorem worse_8 : chkI worseD = 8 := chkI_8 (by simp [worseD, Id.n]) fun h => c00_okC (h.2 c00 (by simp [worseD]))
theorem twice_ok : twiceD.ok := ⟨fun t ht => by
  simp only [twiceD, List.mem_cons, List.not_mem_nil, or_false] at ht
  rcases ht with rfl | rfl
  · exact x1_ok
  · exact x2_ok, by simp [twiceD], by simp [twiceD, Id.n]⟩
theorem again_ok : againD.ok := ⟨by simp [againD], fun c hc => by
  simp only [againD, List.mem_cons, List.not_mem_nil, or_false, or_self] at hc
  rw [hc]; exact cN_ok, by simp [againD, Id.n]⟩
theorem bad_ok : badD.ok := ⟨fun t ht => by
  simp only [badD, List.mem_cons, List.not_mem_nil, or_false] at ht
  rcases ht with rfl | rfl | rfl
  · exact x1_ok
  · exact x1_ok
  · exact t16_ok, by simp [badD], by simp [badD, Id.n]⟩
theorem worse_ok : worseD.ok := ⟨by simp [worseD], fun c hc => by
  simp only [worseD, List.mem_singleton] at hc
  rw [hc]; exact c00_okI, by simp [worseD, Id.n]⟩
theorem hund_av : idv hund = .st [.ro tsh ((full 99).ts.map fun t => tkv t), .ro csh [cmv cN]] := rfl
theorem many_av : idv many = .st [.ro tsh (((full 99).ts.map fun t => tkv t) ++ [tkv (tN 99)]), .ro csh [cmv cN]] := by unfold idv tks cms many; rw [List.map_append]; rfl
set_option maxHeartbeats 8000000 in
theorem f7_ok : Fn Try.prog X.G 7 [] (.p (.b true)) := by
  refine Fn.intro (I := []) hX hm 0 Try.func7 rfl rfl (by kernel_rfl) rfl ?_
  have hN : ∀ i, i ≤ 98 → Fn Try.prog X.G 28 [idv (full i), .p (tkv (tN i))] (.tup [idv (full (i + 1)), .p (.i .i64 0)]) := fun i hi => by
    have h := f28_ok (full i) (tN i) (full_okk (by omega)) (tN_ok (by omega))
    obtain ⟨e, ha⟩ := full_step (i := i) (by omega) (full_fine (by omega))
    rwa [ha, e] at h
  have h0 : Fn Try.prog X.G 28 [.st [.ro .one [], .ro .one []], .p (tkv (tN 0))] (.tup [idv (full 1), .p (.i .i64 0)]) := fn_arg1 (hN 0 (by omega)) fun w v h => rel_st2 (fun _ => rel_nil) (fun _ => rel_nil) rfl rfl h
  conv => whnf
  refine LoopJ.unroll (I := []) (base' := 1000) hX hm (by kernel_rfl) ?_
  conv => whnf
  refine iteT rfl ?_
  conv => whnf
  refine ⟨_, h0, ?_⟩
  try delta freshId
  conv => whnf
  refine iteF rfl ?_
  conv => whnf
  refine LoopJ.intro (I := []) (base' := 2000) hX hm (by kernel_rfl) (σ := Nat) (fun i => [(1, .ptr 8 []), (2, .p (.i .i64 i))]) (fun i => [(8, .var (.st [.own 1344, .own 1345])), (1344, .els true tsh ((full i).ts.map fun t => tkv t)), (1345, .els true csh [])]) (fun i => 1 ≤ i ∧ i ≤ 99) (fun i => 99 - i) 1 []
    ⟨by omega, by omega⟩ ⟨nofun, rfl, ⟨rfl, rfl, rfl, rfl, trivial⟩, ⟨rfl, rfl, rfl, rfl, rfl, rfl, trivial⟩⟩ ?_
  intro i ⟨hi1, hi⟩
  conv => whnf
  refine iteC (fun h1 => ?_) (fun h1 => ?_)
  · have h1 := of_decide_eq_true h1
    have c1 := hN i (by omega)
    conv => whnf
    refine ⟨_, c1, ?_⟩
    conv => whnf
    refine iteF rfl ?_
    conv => whnf
    exact ⟨i + 1, [(1344, 2344), (1345, 2345)], ⟨by omega, by omega⟩, by dsimp only; omega, nofun, rfl, ⟨rfl, rfl, incN (by omega), rfl, trivial⟩, ⟨rfl, rfl, rfl, rfl, rfl, rfl, trivial⟩⟩
  have h1 := of_decide_eq_false h1
  have hi : i = 99 := by omega
  subst hi
  have kF := hund_fine
  have oN : (⟨[], []⟩ : Id).ok := ok_nil
  have o99 := full_okk (i := 99) (by omega)
  have cA := f33_ok (full 99) cN o99 cN_ok
  rw [hund_add, hund_e] at cA
  have cB := f33_ok hund cN hund_ok cN_ok
  rw [again_N.1, again_N.2] at cB
  have cC := f28_ok hund (tN 100) hund_ok (tN_ok (by omega))
  rw [addT_err (by rw [e_100]; decide), e_100] at cC
  have cD := f33_ok hund c4N hund_ok c4_ok
  rw [addC_err (by rw [e_c4]; decide), e_c4] at cD
  have cE := f33_ok hund cO hund_ok cO_ok
  rw [addC_err (by rw [e_cO]; decide), e_cO] at cE
  have cF := f28_ok hund t16 hund_ok t16_ok
  rw [addT_err (by rw [e_16]; decide), e_16] at cF
  have cG := f33_ok hund c00 hund_ok c00_okI
  rw [addC_err (by rw [e_00]; decide), e_00] at cG
  have cH := f24_ok hund fZ hund_ok fZ_ok
  rw [accB_8 fZ_okF, accE_8 kF fZ_okF] at cH
  have cI := f39_ok cO
  have cJ := f24_ok hund (comF cO) hund_ok (comF_ok cO_ok)
  rw [accB_0 kF (comF_okF.2 cO_okC), accE_0 kF (comF_okF.2 cO_okC), sameB_f cO_not] at cJ
  have cK := f31_ok hund (by have := hund_n; unfold Id.n at this; omega)
  have cL := f28_ok many t16 many_ok t16_ok
  rw [addT_err (by rw [e_many]; decide), e_many] at cL
  have cM := f36_ok many many_ok
  rw [many_4] at cM
  rw [many_av] at cL cM
  have cR := f24_ok twiceD fZ twice_ok fZ_ok
  rw [accB_8 fZ_okF, accE_no (by rw [twice_14]; decide), twice_14] at cR
  have cR := fn_arg1 (x := .st [.ro tsh [tkv x1, tkv x2], .ro .one []]) cR fun w v h => rel_st2 (fun _ h => h) (fun _ => rel_nil) rfl rfl h
  have cS := f36_ok hund hund_ok
  rw [kF] at cS
  have cT := f36_ok twiceD twice_ok
  rw [twice_14] at cT
  have cT := fn_arg1 (x := .st [.ro tsh [tkv x1, tkv x2], .ro .one []]) cT fun w v h => rel_st2 (fun _ h => h) (fun _ => rel_nil) rfl rfl h
  have cU := f36_ok againD again_ok
  rw [again_14] at cU
  have cU := fn_arg1 (x := .st [.ro .one [], .ro csh [cmv cN, cmv cN]]) cU fun w v h => rel_st2 (fun _ => rel_nil) (fun _ h => h) rfl rfl h
  have cV := f36_ok badD bad_ok
  rw [bad_8] at cV
  have cV := fn_arg1 (x := .st [.ro tsh [tkv x1, tkv x1, tkv t16], .ro .one []]) cV fun w v h => rel_st2 (fun _ h => h) (fun _ => rel_nil) rfl rfl h
  have cW := f36_ok worseD worse_ok
  rw [worse_8] at cW
  have cW := fn_arg1 (x := .st [.ro .one [], .ro csh [cmv c00]]) cW fun w v h => rel_st2 (fun _ => rel_nil) (fun _ h => h) rfl rfl h
  have cX := f35_ok hund hund hund_ok
  rw [sameI_rfl] at cX
  have cY := f39_ok cN
  have cZ := f29_ok hund (comF cN) hund_ok (comF_ok cN_ok)
  rw [acc_same kF (comF_okF.2 cN_okC), sameB_t (same_c.2 (by simp [hund]))] at cZ
  have ca := f27_ok
  have hlen : ((full 99).ts.map fun t => tkv t).length = 99 := by simp [full]
  rw [hund_av] at cA cB cC cD cE cF cG cH cJ cK cS cX cZ
  have hf99 : idv (full 99) = .st [.ro tsh ((full 99).ts.map fun t => tkv t), .ro csh []] := rfl
  rw [hf99] at cA
  conv => whnf
  refine ⟨_, cA, ?_⟩
  try delta freshId
  conv => whnf
  refine ⟨_, cB, ?_⟩
  try delta freshId
  conv => whnf
  refine ⟨_, cC, ?_⟩
  try delta freshId
  conv => whnf
  refine ⟨_, cD, ?_⟩
  try delta freshId
  conv => whnf
  refine ⟨_, cE, ?_⟩
  try delta freshId
  conv => whnf
  refine ⟨_, cF, ?_⟩
  try delta freshId
  conv => whnf
  refine ⟨_, cG, ?_⟩
  try delta freshId
  conv => whnf
  refine ⟨_, cH, ?_⟩
  try delta freshId
  conv => whnf
  refine iteF rfl ?_
  conv => whnf
  refine ⟨_, cI, ?_⟩
  try delta freshId
  conv => whnf
  refine ⟨_, cJ, ?_⟩
  try delta freshId
  conv => whnf
  refine iteF rfl ?_
  conv => whnf
  refine ⟨_, cK, ?_⟩
  try delta freshId
  conv => whnf
  refine ⟨_, cL, ?_⟩
  try delta freshId
  conv => whnf
  refine ⟨_, cR, ?_⟩
  try delta freshId
  conv => whnf
  refine iteF rfl ?_
  conv => whnf
  refine ⟨_, cS, ?_⟩
  try delta freshId
  conv => whnf
  refine iteT rfl ?_
  conv => whnf
  refine ⟨_, cM, ?_⟩
  try delta freshId
  conv => whnf
  refine iteT rfl ?_
  conv => whnf
  refine ⟨_, cT, ?_⟩
  try delta freshId
  conv => whnf
  refine iteT rfl ?_
  conv => whnf
  refine ⟨_, cU, ?_⟩
  try delta freshId
  conv => whnf
  refine iteT rfl ?_
  conv => whnf
  refine ⟨_, cV, ?_⟩
  try delta freshId
  conv => whnf
  refine iteT rfl ?_
  conv => whnf
  refine ⟨_, cW, ?_⟩
  try delta freshId
  conv => whnf
  refine iteT rfl ?_
  conv => whnf
  refine iteT rfl ?_
  conv => whnf
  refine iteT rfl ?_
  conv => whnf
  refine iteT rfl ?_
  conv => whnf
  refine iteT rfl ?_
  conv => whnf
  refine ⟨_, cX, ?_⟩
  try delta freshId
  conv => whnf
  refine iteT rfl ?_
  conv => whnf
  refine iteT rfl ?_
  conv => whnf
  refine iteT rfl ?_
  conv => whnf
  refine iteT rfl ?_
  conv => whnf
  refine iteT rfl ?_
  conv => whnf
  refine iteT rfl ?_
  conv => whnf
  refine iteT rfl ?_
  conv => whnf
  refine iteT rfl ?_
  conv => whnf
  refine ⟨_, cY, ?_⟩
  try delta freshId
  conv => whnf
  refine ⟨_, cZ, ?_⟩
  try delta freshId
  conv => whnf
  refine iteT rfl ?_
  conv => whnf
  refine ⟨_, ca, ?_⟩
  try delta freshId
  conv => whnf
  refine iteT rfl ?_
  rfl
end Go.Proofs.Ytgdpmnkmllelmaa.AM
