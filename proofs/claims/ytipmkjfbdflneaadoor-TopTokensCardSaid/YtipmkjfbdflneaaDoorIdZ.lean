/- Tables: put, what is accepted, the laws helpers. -/
import Derived.Test.YtipmkjfbdflneaaDoorIdF
namespace Go.Proofs.YtipmkjfbdflneaaDoor.AM
open Go Go.Proofs
set_option maxRecDepth 100000

section
variable {d : Id} {f : Fr}
theorem pErr_bad (h0 : ¬ chkI d = 0) : pErr d f = chkI d := by unfold pErr; rw [if_neg h0]
theorem chkFr_ok (h : okF f) : chkFr f = 0 := by unfold chkFr; rw [if_pos h]
theorem chkFr_no (h : ¬ okF f) : chkFr f = 8 := by unfold chkFr; rw [if_neg h]
theorem pErr_8 (h0 : chkI d = 0) (h1 : ¬ okF f) : pErr d f = 8 := by
  unfold pErr
  rw [if_pos h0, if_neg (by rw [chkFr_no h1]; decide)]
theorem pErr_ok (h0 : chkI d = 0) (h1 : okF f) : pErr d f = if thereB d f then (if sameB d f then 0 else 14) else (if d.n = 100 then 4 else 0) := by
  unfold pErr
  rw [if_pos h0, if_pos (chkFr_ok h1)]
theorem pErr_same (h0 : chkI d = 0) (h1 : okF f) (h2 : sameP d f) : pErr d f = 0 := by
  rw [pErr_ok h0 h1, if_pos (thereB_t (same_there h2)), if_pos (sameB_t h2)]
theorem pErr_14 (h0 : chkI d = 0) (h1 : okF f) (h2 : thereP d f) (h3 : ¬ sameP d f) : pErr d f = 14 := by
  rw [pErr_ok h0 h1, if_pos (thereB_t h2), if_neg (by rw [sameB_f h3]; decide)]
theorem pErr_4 (h0 : chkI d = 0) (h1 : okF f) (h2 : ¬ thereP d f) (h3 : d.n = 100) : pErr d f = 4 := by
  rw [pErr_ok h0 h1, if_neg (by rw [thereB_f h2]; decide), if_pos h3]
theorem pErr_new (h0 : chkI d = 0) (h1 : okF f) (h2 : ¬ thereP d f) (h3 : ¬ d.n = 100) : pErr d f = 0 := by
  rw [pErr_ok h0 h1, if_neg (by rw [thereB_f h2]; decide), if_neg h3]
end
section
variable {d : Id} {t : Tk} {c : Cm}
theorem addT_err (h : ¬ pErr d (tokF t) = 0) : addT d t = ⟨[], []⟩ := by unfold addT; rw [if_neg h]
theorem addT_old (h : pErr d (tokF t) = 0) (h2 : thereP d (tokF t)) : addT d t = d := by unfold addT; rw [if_pos h, if_pos (thereB_t h2)]
theorem addT_new (h : pErr d (tokF t) = 0) (h2 : ¬ thereP d (tokF t)) : addT d t = ⟨d.ts ++ [t], d.cs⟩ := by unfold addT; rw [if_pos h, if_neg (by rw [thereB_f h2]; decide)]
theorem addC_err (h : ¬ pErr d (comF c) = 0) : addC d c = ⟨[], []⟩ := by unfold addC; rw [if_neg h]
theorem addC_old (h : pErr d (comF c) = 0) (h2 : thereP d (comF c)) : addC d c = d := by unfold addC; rw [if_pos h, if_pos (thereB_t h2)]
theorem addC_new (h : pErr d (comF c) = 0) (h2 : ¬ thereP d (comF c)) : addC d c = ⟨d.ts, d.cs ++ [c]⟩ := by unfold addC; rw [if_pos h, if_neg (by rw [thereB_f h2]; decide)]
theorem there_t : thereP d (tokF t) ↔ ∃ x ∈ d.ts, bareK x = bareK t := ⟨fun h => h.elim (fun h => h.2) fun h => absurd h.1 (show ¬ (1 : Int) = 2 by decide), fun h => .inl ⟨rfl, h⟩⟩
theorem there_c : thereP d (comF c) ↔ ∃ x ∈ d.cs, plainC x = plainC c := ⟨fun h => h.elim (fun h => absurd h.1 (show ¬ (2 : Int) = 1 by decide)) fun h => h.2, fun h => .inr ⟨rfl, h⟩⟩
theorem same_t : sameP d (tokF t) ↔ t ∈ d.ts := ⟨fun h => h.elim (fun h => h.2) fun h => absurd h.1 (show ¬ (1 : Int) = 2 by decide), fun h => .inl ⟨rfl, h⟩⟩
theorem same_c : sameP d (comF c) ↔ c ∈ d.cs := ⟨fun h => h.elim (fun h => absurd h.1 (show ¬ (2 : Int) = 1 by decide)) fun h => h.2, fun h => .inr ⟨rfl, h⟩⟩
theorem snoc_once {α β : Type} {κ : α → β} {l : List α} {x : α} (h : (l.map κ).Nodup) (hx : ¬ ∃ y ∈ l, κ y = κ x) : ((l ++ [x]).map κ).Nodup := by
  rw [List.map_append, List.nodup_append]
  refine ⟨h, by simp, fun a ha b hb e => ?_⟩
  obtain ⟨y, hy, rfl⟩ := List.mem_map.1 ha
  simp only [List.map_cons, List.map_nil, List.mem_singleton] at hb
  exact hx ⟨y, hy, by rw [e, hb]⟩
theorem all_snoc {α : Type} {q : α → Prop} {l : List α} {x : α} (h : ∀ y ∈ l, q y) (hx : q x) : ∀ y ∈ l ++ [x], q y := by
  intro y hy
  rcases List.mem_append.1 hy with hy | hy
  · exact h y hy
  · rw [List.mem_singleton.1 hy]; exact hx
theorem newT (h : d.fine) (ht : t.t < 16) (hn : ¬ thereP d (tokF t)) (h100 : ¬ d.n = 100) : chkI ⟨d.ts ++ [t], d.cs⟩ = 0 := by
  refine chkI_0 ?_ ⟨all_snoc h.valid.1 ht, h.valid.2⟩ ⟨snoc_once h.once.1 fun hx => hn (there_t.2 hx), h.once.2⟩
  have := h.n
  simp only [Id.n, List.length_append, List.length_singleton] at *
  omega
theorem newC (h : d.fine) (hc : okC c) (hn : ¬ thereP d (comF c)) (h100 : ¬ d.n = 100) : chkI ⟨d.ts, d.cs ++ [c]⟩ = 0 := by
  refine chkI_0 ?_ ⟨h.valid.1, all_snoc h.valid.2 hc⟩ ⟨h.once.1, snoc_once h.once.2 fun hx => hn (there_c.2 hx)⟩
  have := h.n
  simp only [Id.n, List.length_append, List.length_singleton] at *
  omega
theorem fullT (h100 : d.n = 100) : chkI ⟨d.ts ++ [t], d.cs⟩ = 4 := chkI_4 (by simp only [Id.n, List.length_append, List.length_singleton] at *; omega)
theorem fullC (h100 : d.n = 100) : chkI ⟨d.ts, d.cs ++ [c]⟩ = 4 := chkI_4 (by simp only [Id.n, List.length_append, List.length_singleton] at *; omega)
theorem okT_snoc (hd : d.ok) (ht : t.ok) (hn : d.n ≤ 100) : (⟨d.ts ++ [t], d.cs⟩ : Id).ok := ⟨all_snoc hd.ts ht, hd.cs, by simp only [Id.n, List.length_append, List.length_singleton] at *; omega⟩
theorem okC_snoc (hd : d.ok) (hc : c.ok) (hn : d.n ≤ 100) : (⟨d.ts, d.cs ++ [c]⟩ : Id).ok := ⟨hd.ts, all_snoc hd.cs hc, by simp only [Id.n, List.length_append, List.length_singleton] at *; omega⟩
theorem ok_nil : (⟨[], []⟩ : Id).ok := ⟨by simp, by simp, by simp [Id.n]⟩
/-- Where it stands. -/
theorem atT_spec (l : List Tk) (t : Tk) : (atT l t = -1 ∧ ¬ ∃ x ∈ l, bareK x = bareK t) ∨ ∃ j, ∃ h : j < l.length, atT l t = ((j : Nat) : Int) ∧ bareK l[j] = bareK t := by
  rcases idxB_spec (pT t) l 0 with ⟨h1, h2⟩ | ⟨j, hj, h1, h2, _⟩
  · refine .inl ⟨h1, fun ⟨x, hx, he⟩ => ?_⟩
    have := h2 x hx
    rw [(pT_iff t x).2 he] at this
    cases this
  · exact .inr ⟨j, hj, by unfold atT; rw [h1, Nat.zero_add], (pT_iff _ _).1 h2⟩
theorem atC_spec (l : List Cm) (c : Cm) : (atC l c = -1 ∧ ¬ ∃ x ∈ l, plainC x = plainC c) ∨ ∃ j, ∃ h : j < l.length, atC l c = ((j : Nat) : Int) ∧ plainC l[j] = plainC c := by
  rcases idxB_spec (pC c) l 0 with ⟨h1, h2⟩ | ⟨j, hj, h1, h2, _⟩
  · refine .inl ⟨h1, fun ⟨x, hx, he⟩ => ?_⟩
    have := h2 x hx
    rw [(pC_iff c x).2 he] at this
    cases this
  · exact .inr ⟨j, hj, by unfold atC; rw [h1, Nat.zero_add], (pC_iff _ _).1 h2⟩
theorem foundT (h : d.fine) {j : Nat} (hj : j < d.ts.length) (hb : bareK d.ts[j] = bareK t) : t ∈ d.ts ↔ d.ts[j] = t :=
  ⟨fun hm => once_eq h.once.1 (List.getElem_mem hj) hm hb, fun e => e ▸ List.getElem_mem hj⟩
theorem foundC (h : d.fine) {j : Nat} (hj : j < d.cs.length) (hb : plainC d.cs[j] = plainC c) : c ∈ d.cs ↔ d.cs[j] = c :=
  ⟨fun hm => once_eq h.once.2 (List.getElem_mem hj) hm hb, fun e => e ▸ List.getElem_mem hj⟩
end
/-- What a table answers of a frame. -/
noncomputable def accE (d : Id) (f : Fr) : Int := if chkI d = 0 then chkFr f else chkI d
noncomputable def accB (d : Id) (f : Fr) : Bool := if chkI d = 0 then (if chkFr f = 0 then sameB d f else false) else false
section
variable {d : Id} {f : Fr}
theorem accE_0 (h : chkI d = 0) (h1 : okF f) : accE d f = 0 := by unfold accE; rw [if_pos h, chkFr_ok h1]
theorem accB_0 (h : chkI d = 0) (h1 : okF f) : accB d f = sameB d f := by unfold accB; rw [if_pos h, if_pos (chkFr_ok h1)]
theorem accE_8 (h : chkI d = 0) (h1 : ¬ okF f) : accE d f = 8 := by unfold accE; rw [if_pos h, chkFr_no h1]
theorem accB_8 (h1 : ¬ okF f) : accB d f = false := by
  unfold accB
  split
  · rw [if_neg (by rw [chkFr_no h1]; decide)]
  · rfl
theorem accE_no (h : ¬ chkI d = 0) : accE d f = chkI d := by unfold accE; rw [if_neg h]
theorem accB_no (h : ¬ chkI d = 0) : accB d f = false := by unfold accB; rw [if_neg h]
end
theorem f17_ok (d : Id) (f : Fr) (hd : d.ok) (hf : f.ok) : Fn Tryd.prog X.G 17 [idv d, .p (frv f)] (.tup [.p (.b (accB d f)), .p (.i .i64 (accE d f))]) := by
  refine Fn.intro (I := []) hX hm 0 Tryd.func17 rfl rfl (by kernel_rfl) rfl ?_
  have c1 := f47_ok d hd
  have c2 := f23_ok f hf
  by_cases h0 : chkI d = 0
  · rw [h0] at c1
    by_cases h1 : okF f
    · have c3 := f48_ok d f hd hf (fine_iff.1 h0) h1
      rw [accB_0 h0 h1, accE_0 h0 h1]
      rw [chkFr_ok h1] at c2
      generalize thereB d f = b1 at *
      generalize sameB d f = b2 at *
      conv => whnf
      refine ⟨_, c1, ?_⟩
      conv => whnf
      refine iteF rfl ?_
      conv => whnf
      refine ⟨_, c2, ?_⟩
      conv => whnf
      refine iteF rfl ?_
      conv => whnf
      refine ⟨_, c3, ?_⟩
      cases b1 <;> cases b2
      · conv => whnf
        refine iteF rfl ?_
        conv => whnf
        refine iteF rfl ?_
        rfl
      · conv => whnf
        refine iteF rfl ?_
        conv => whnf
        refine iteT rfl ?_
        rfl
      · conv => whnf
        refine iteT rfl ?_
        conv => whnf
        refine iteF rfl ?_
        rfl
      · conv => whnf
        refine iteT rfl ?_
        conv => whnf
        refine iteT rfl ?_
        rfl
    · rw [accB_8 h1, accE_8 h0 h1]
      rw [chkFr_no h1] at c2
      conv => whnf
      refine ⟨_, c1, ?_⟩
      conv => whnf
      refine iteF rfl ?_
      conv => whnf
      refine ⟨_, c2, ?_⟩
      conv => whnf
      refine iteT rfl ?_
      rfl
  · rw [accB_no h0, accE_no h0]
    have hq := neq0 h0
    generalize chkI d = z at *
    conv => whnf
    refine ⟨_, c1, ?_⟩
    conv => whnf
    refine iteT hq ?_
    rfl
theorem sameB_dec {d : Id} {f : Fr} {p : Prop} [Decidable p] (h : sameP d f ↔ p) : sameB d f = decide p := by
  by_cases hp : p
  · rw [decide_eq_true hp]; exact sameB_t (h.2 hp)
  · rw [decide_eq_false hp]; exact sameB_f fun x => hp (h.1 x)
def sameI (a b : Id) : Bool := decide (a.ts = b.ts) && decide (a.cs = b.cs)
theorem sameI_rfl (a : Id) : sameI a a = true := by unfold sameI; rw [decide_eq_true rfl, decide_eq_true rfl]; rfl
theorem sameI_t {a b : Id} (h : a.ts ≠ b.ts) : sameI a b = false := by unfold sameI; rw [decide_eq_false h]; rfl
theorem sameI_c {a b : Id} (h : a.cs ≠ b.cs) : sameI a b = false := by unfold sameI; rw [decide_eq_false h, Bool.and_false]
def reqF (t : Tk) (en co : Int) : Fr := ⟨1, t, en, co, c00⟩
theorem f15_ok (t : Tk) (en co : Int) : Fn Tryd.prog X.G 15 [.p (tkv t), .p (.i .u16 en), .p (.i .u32 co)] (.p (frv (reqF t en co))) := by
  refine Fn.intro (I := []) hX hm 0 Tryd.func15 rfl rfl (by kernel_rfl) rfl ?_
  conv => whnf
  rfl
theorem f16_ok (c : Cm) : Fn Tryd.prog X.G 16 [.p (cmv c)] (.p (frv (comF c))) := by
  refine Fn.intro (I := []) hX hm 0 Tryd.func16 rfl rfl (by kernel_rfl) rfl ?_
  conv => whnf
  rfl
theorem f46_ok (d : Id) (f : Fr) (hd : d.ok) (hf : f.ok) : Fn Tryd.prog X.G 46 [idv d, .p (frv f)] (.p (.b (accB d f && decide (accE d f = 0)))) := by
  refine Fn.intro (I := []) hX hm 0 Tryd.func46 rfl rfl (by kernel_rfl) rfl ?_
  have c1 := f17_ok d f hd hf
  have q : (accE d f == 0) = decide (accE d f = 0) := by rw [Bool.eq_iff_iff, beq_iff_eq, decide_eq_true_eq]
  generalize accE d f = z at *
  generalize accB d f = b at *
  generalize decide (z = 0) = w at *
  cases b
  · conv => whnf
    refine ⟨_, c1, ?_⟩
    conv => whnf
    refine iteF rfl ?_
    rfl
  · cases w
    · conv => whnf
      refine ⟨_, c1, ?_⟩
      conv => whnf
      refine iteT rfl ?_
      conv => whnf
      refine iteF q ?_
      rfl
    · conv => whnf
      refine ⟨_, c1, ?_⟩
      conv => whnf
      refine iteT rfl ?_
      conv => whnf
      refine iteT q ?_
      rfl
theorem acc_same {d : Id} {f : Fr} (h0 : chkI d = 0) (h1 : okF f) : (accB d f && decide (accE d f = 0)) = sameB d f := by
  rw [accB_0 h0 h1, accE_0 h0 h1, decide_eq_true rfl, Bool.and_true]
theorem acc_8 {d : Id} {f : Fr} (h1 : ¬ okF f) : (accB d f && decide (accE d f = 0)) = false := by
  rw [accB_8 h1, Bool.false_and]
noncomputable def fitB (d : Id) (f : Fr) : Bool := !greatB d && decide (chkI d = 0) && decide (chkFr f = 0)
theorem f13_ok (d : Id) (f : Fr) (hd : d.ok) (hf : f.ok) : Fn Tryd.prog X.G 13 [idv d, .p (frv f)] (.p (.b (fitB d f))) := by
  refine Fn.intro (I := []) hX hm 0 Tryd.func13 rfl rfl (by kernel_rfl) rfl ?_
  have c0 := f44_ok d hd
  have c1 := f45_ok d hd
  have c2 := f5_ok f hf
  unfold fitB
  have q1 : (chkI d == 0) = decide (chkI d = 0) := by rw [Bool.eq_iff_iff, beq_iff_eq, decide_eq_true_eq]
  have q2 : (chkFr f == 0) = decide (chkFr f = 0) := by rw [Bool.eq_iff_iff, beq_iff_eq, decide_eq_true_eq]
  generalize chkI d = z1 at *
  generalize chkFr f = z2 at *
  generalize decide (z1 = 0) = w1 at *
  generalize decide (z2 = 0) = w2 at *
  generalize greatB d = g at *
  cases g
  · cases w1
    · conv => whnf
      refine ⟨_, c0, ?_⟩
      conv => whnf
      refine iteF rfl ?_
      conv => whnf
      refine ⟨_, c1, ?_⟩
      conv => whnf
      refine iteF q1 ?_
      rfl
    · cases w2
      · conv => whnf
        refine ⟨_, c0, ?_⟩
        conv => whnf
        refine iteF rfl ?_
        conv => whnf
        refine ⟨_, c1, ?_⟩
        conv => whnf
        refine iteT q1 ?_
        conv => whnf
        refine ⟨_, c2, ?_⟩
        conv => whnf
        refine iteF q2 ?_
        rfl
      · conv => whnf
        refine ⟨_, c0, ?_⟩
        conv => whnf
        refine iteF rfl ?_
        conv => whnf
        refine ⟨_, c1, ?_⟩
        conv => whnf
        refine iteT q1 ?_
        conv => whnf
        refine ⟨_, c2, ?_⟩
        conv => whnf
        refine iteT q2 ?_
        rfl
  · conv => whnf
    refine ⟨_, c0, ?_⟩
    conv => whnf
    refine iteT rfl ?_
    rfl
end Go.Proofs.YtipmkjfbdflneaaDoor.AM
