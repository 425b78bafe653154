/- Tables: what the reference checks. -/
import Derived.Test.YtipmkjfbdflneaaDoorIdA
namespace Go.Proofs.YtipmkjfbdflneaaDoor.AM
open Go Go.Proofs
set_option maxRecDepth 100000

structure Id where
  ts : List Tk
  cs : List Cm
abbrev idv (d : Id) : AV := .st [tks d.ts, cms d.cs]
def Id.n (d : Id) : Nat := d.ts.length + d.cs.length
structure Id.ok (d : Id) : Prop where
  ts : ∀ t ∈ d.ts, t.ok
  cs : ∀ c ∈ d.cs, c.ok
  n : d.n < 4611686018427387904
theorem Id.sum {d : Id} (h : d.ok) : IntKind.i64.wrap (((d.ts.map fun t => tkv t).length : Int) + ((d.cs.map fun c => cmv c).length : Int)) = (d.n : Int) := by
  have := h.n
  unfold Id.n at *
  rw [List.length_map, List.length_map, wr_i64 (by omega) (by omega)]
  omega
def greatB (d : Id) : Bool := (decide (20 < d.n) && decide (d.n < 100)) || decide (150 < d.n)
theorem f44_ok (d : Id) (hd : d.ok) : Fn Tryd.prog X.G 44 [idv d] (.p (.b (greatB d))) := by
  refine Fn.intro (I := []) hX hm 0 Tryd.func44 rfl rfl (by kernel_rfl) rfl ?_
  have hs := d.sum hd
  have q1 : decide (IntKind.i64.wrap (((d.ts.map fun t => tkv t).length : Int) + ((d.cs.map fun c => cmv c).length : Int)) > 20) = decide (20 < d.n) := by
    rw [hs]; exact decide_eq_decide.2 (by omega)
  have q2 : decide (IntKind.i64.wrap (((d.ts.map fun t => tkv t).length : Int) + ((d.cs.map fun c => cmv c).length : Int)) < 100) = decide (d.n < 100) := by
    rw [hs]; exact decide_eq_decide.2 (by omega)
  have q3 : decide (IntKind.i64.wrap (((d.ts.map fun t => tkv t).length : Int) + ((d.cs.map fun c => cmv c).length : Int)) > 150) = decide (150 < d.n) := by
    rw [hs]; exact decide_eq_decide.2 (by omega)
  unfold greatB
  generalize decide (20 < d.n) = b1 at *
  generalize decide (d.n < 100) = b2 at *
  generalize decide (150 < d.n) = b3 at *
  cases b1 <;> cases b2 <;> cases b3
  all_goals
    repeat' (conv => whnf
             first
              | refine iteT q1 ?_
              | refine iteF q1 ?_
              | refine iteT q2 ?_
              | refine iteF q2 ?_
              | refine iteT q3 ?_
              | refine iteF q3 ?_)
  all_goals rfl
/-! ### Twice -/
theorem idxB_spec {α : Type} (p : α → Bool) : ∀ (l : List α) (k : Nat), (idxB p l k = -1 ∧ ∀ x ∈ l, p x = false) ∨
    ∃ j, ∃ h : j < l.length, idxB p l k = ((k + j : Nat) : Int) ∧ p l[j] = true ∧ ∀ i (hi : i < j), p (l[i]'(by omega)) = false
  | [], k => .inl ⟨rfl, by simp⟩
  | x :: l, k => by
    simp only [idxB]
    cases hp : p x with
    | true => exact .inr ⟨0, by simp, rfl, hp, fun i hi => by omega⟩
    | false =>
      simp only
      rcases idxB_spec p l (k + 1) with ⟨h1, h2⟩ | ⟨j, hj, h1, h2, h3⟩
      · refine .inl ⟨h1, fun y hy => ?_⟩
        rcases List.mem_cons.1 hy with rfl | hy
        · exact hp
        · exact h2 y hy
      · refine .inr ⟨j + 1, by simpa using hj, by rw [h1]; congr 1; omega, by simpa using h2, fun i hi => ?_⟩
        cases i with
        | zero => exact hp
        | succ i => simpa using h3 i (by omega)
theorem idxB_lt {α : Type} {p : α → Bool} {l : List α} {i : Nat} (hi : i < l.length) (hp : p l[i] = true) : idxB p l 0 < (i : Int) ↔ ∃ j, ∃ h : j < i, p (l[j]'(by omega)) = true := by
  rcases idxB_spec p l 0 with ⟨_, h2⟩ | ⟨j, hj, h1, h2, h3⟩
  · rw [h2 _ (List.getElem_mem hi)] at hp
    cases hp
  · rw [h1]
    constructor
    · intro h
      exact ⟨j, by omega, h2⟩
    · rintro ⟨k, hk, hk2⟩
      have : j ≤ k := by
        rcases Nat.lt_or_ge k j with h | h
        · rw [h3 k h] at hk2; cases hk2
        · exact h
      omega
/-- Is one of the first i there before. -/
def twB {α : Type} (p : α → α → Bool) (l : List α) (z : α) : Nat → Bool
  | 0 => false
  | i + 1 => twB p l z i || decide (idxB (p (l.getD i z)) l 0 < (i : Int))
theorem twB_false {α β : Type} {p : α → α → Bool} (κ : α → β) (hp : ∀ a b, p a b = true ↔ κ b = κ a) {l : List α} {z : α} : ∀ {i : Nat}, i ≤ l.length → (twB p l z i = false ↔ ((l.take i).map κ).Nodup)
  | 0, _ => by simp [twB]
  | i + 1, h => by
    have hi : i < l.length := by omega
    have hg : l.getD i z = l[i] := by simp [List.getD, List.getElem?_eq_getElem hi]
    have ih := twB_false (z := z) κ hp (l := l) (i := i) (by omega)
    simp only [twB, Bool.or_eq_false_iff, decide_eq_false_iff_not, hg]
    rw [ih, idxB_lt hi ((hp _ _).2 rfl), List.take_add_one, List.getElem?_eq_getElem hi, List.map_append, List.nodup_append]
    simp only [Option.toList_some, List.map_cons, List.map_nil]
    constructor
    · rintro ⟨h1, h2⟩
      refine ⟨h1, by simp, fun a ha b hb => ?_⟩
      simp only [List.mem_singleton] at hb
      subst hb
      obtain ⟨x, hx, rfl⟩ := List.mem_map.1 ha
      obtain ⟨j, hj, hjx⟩ := List.mem_iff_getElem.1 hx
      intro e
      have hji : j < i := by simp at hj; omega
      refine h2 ⟨j, hji, (hp _ _).2 ?_⟩
      rw [← e, ← hjx]
      simp
    · rintro ⟨h1, _, h3⟩
      refine ⟨h1, ?_⟩
      rintro ⟨j, hj, hj2⟩
      refine h3 (κ l[j]) (List.mem_map.2 ⟨l[j], ?_, rfl⟩) (κ l[i]) (by simp) ((hp _ _).1 hj2)
      exact List.mem_iff_getElem.2 ⟨j, by simp; omega, by simp⟩
theorem take_all {α : Type} {q : α → Prop} {l : List α} {i : Nat} (hi : i < l.length) (h : ∀ x ∈ l.take i, q x) (hx : q l[i]) : ∀ x ∈ l.take (i + 1), q x := by
  intro x hx'
  rw [List.take_add_one, List.getElem?_eq_getElem hi] at hx'
  simp only [Option.toList_some, List.mem_append, List.mem_singleton] at hx'
  rcases hx' with hx' | rfl
  · exact h x hx'
  · exact hx
/-! ### The check -/
def validT (d : Id) : Prop := (∀ t ∈ d.ts, t.t < 16) ∧ ∀ c ∈ d.cs, okC c
def onceT (d : Id) : Prop := (d.ts.map bareK).Nodup ∧ (d.cs.map plainC).Nodup
open Classical in
noncomputable def chkI (d : Id) : Int := if 100 < d.n then 4 else if validT d then (if onceT d then 0 else 14) else 8
theorem chkI_4 {d : Id} (h : 100 < d.n) : chkI d = 4 := by unfold chkI; rw [if_pos h]
theorem chkI_8 {d : Id} (h : ¬ 100 < d.n) (hv : ¬ validT d) : chkI d = 8 := by unfold chkI; rw [if_neg h, if_neg hv]
theorem chkI_14 {d : Id} (h : ¬ 100 < d.n) (hv : validT d) (ho : ¬ onceT d) : chkI d = 14 := by unfold chkI; rw [if_neg h, if_pos hv, if_neg ho]
theorem chkI_0 {d : Id} (h : ¬ 100 < d.n) (hv : validT d) (ho : onceT d) : chkI d = 0 := by unfold chkI; rw [if_neg h, if_pos hv, if_pos ho]
theorem pT_iff (a b : Tk) : pT a b = true ↔ bareK b = bareK a := by unfold pT; rw [decide_eq_true_eq]
theorem pC_iff (a b : Cm) : pC a b = true ↔ plainC b = plainC a := by unfold pC; rw [decide_eq_true_eq]
def twT (l : List Tk) (i : Nat) : Bool := twB pT l t0T i
def twC (l : List Cm) (i : Nat) : Bool := twB pC l c00 i
theorem twT_step {l : List Tk} {i : Nat} (hi : i < l.length) : twT l (i + 1) = (twT l i || decide (atT l l[i] < (i : Int))) := by
  unfold twT atT
  simp only [twB]
  rw [show l.getD i t0T = l[i] from by simp [List.getD, List.getElem?_eq_getElem hi]]
theorem twC_step {l : List Cm} {i : Nat} (hi : i < l.length) : twC l (i + 1) = (twC l i || decide (atC l l[i] < (i : Int))) := by
  unfold twC atC
  simp only [twB]
  rw [show l.getD i c00 = l[i] from by simp [List.getD, List.getElem?_eq_getElem hi]]
theorem twT_once {l : List Tk} : twT l l.length = false ↔ (l.map bareK).Nodup := by
  have := twB_false (z := t0T) bareK pT_iff (l := l) (Nat.le_refl _)
  rw [List.take_length] at this
  exact this
theorem twC_once {l : List Cm} : twC l l.length = false ↔ (l.map plainC).Nodup := by
  have := twB_false (z := c00) plainC pC_iff (l := l) (Nat.le_refl _)
  rw [List.take_length] at this
  exact this
set_option maxHeartbeats 4000000 in
theorem f45_ok (d : Id) (hd : d.ok) : Fn Tryd.prog X.G 45 [idv d] (.p (.i .i64 (chkI d))) := by
  refine Fn.intro (I := []) hX hm 0 Tryd.func45 rfl rfl (by kernel_rfl) rfl ?_
  have hs := d.sum hd
  have q1 : decide (IntKind.i64.wrap (((d.ts.map fun t => tkv t).length : Int) + ((d.cs.map fun c => cmv c).length : Int)) > 100) = decide (100 < d.n) := by
    rw [hs]; exact decide_eq_decide.2 (by omega)
  by_cases hn : 100 < d.n
  · rw [decide_eq_true hn] at q1
    rw [chkI_4 hn]
    conv => whnf
    refine iteT q1 ?_
    rfl
  rw [decide_eq_false hn] at q1
  have hnn : d.ts.length ≤ 100 ∧ d.cs.length ≤ 100 := by unfold Id.n at hn; omega
  conv => whnf
  refine iteF q1 ?_
  conv => whnf
  refine LoopJ.intro (I := []) (base' := 0) hX hm (by kernel_rfl) (σ := Nat) (fun i => [(1, .ptr 8 []), (3, .p (.b (twT d.ts i))), (4, .p (.i .i64 i))]) (fun _ => [(8, .var (idv d))]) (fun i => i ≤ d.ts.length ∧ ∀ t ∈ d.ts.take i, t.t < 16) (fun i => d.ts.length - i) 0 []
    ⟨Nat.zero_le _, by simp⟩ ⟨nofun, rfl, ⟨rfl, rfl, rfl, rfl, rfl, rfl, trivial⟩, ⟨rfl, rfl, trivial⟩⟩ ?_
  intro i ⟨hi, hI⟩
  conv => whnf
  refine iteC (fun h1 => ?_) (fun h1 => ?_)
  · have h1 := of_decide_eq_true h1
    rw [List.length_map] at h1
    have hlt : i < d.ts.length := by omega
    have hg := getM (f := fun t => tkv t) hlt
    conv => whnf
    conv => arg 2; repeat (first | rw [hg] | (whnf; arg 2))
    conv => whnf
    refine iteC (fun h2 => ?_) (fun h2 => ?_)
    · have h2 := of_decide_eq_true h2
      rw [chkI_8 hn fun hv => by have := hv.1 _ (List.getElem_mem hlt); omega]
      rfl
    have h2 := of_decide_eq_false h2
    have c1 := f50_ok d.ts d.ts[i] (by omega)
    have hst := twT_step hlt
    generalize twT d.ts i = w at *
    cases w
    · conv => whnf
      conv => arg 2; repeat (first | rw [hg] | (whnf; arg 2))
      conv => whnf
      refine ⟨_, c1, ?_⟩
      conv => whnf
      refine iteC (fun h3 => ?_) (fun h3 => ?_)
      all_goals
        conv => whnf
        exact ⟨i + 1, [], ⟨by omega, take_all hlt hI (by omega)⟩, by dsimp only; omega, nofun, rfl, ⟨rfl, rfl, by rw [hst, h3]; rfl, rfl, incN (by omega), rfl, trivial⟩, ⟨rfl, rfl, trivial⟩⟩
    · conv => whnf
      exact ⟨i + 1, [], ⟨by omega, take_all hlt hI (by omega)⟩, by dsimp only; omega, nofun, rfl, ⟨rfl, rfl, by rw [hst]; rfl, rfl, incN (by omega), rfl, trivial⟩, ⟨rfl, rfl, trivial⟩⟩
  have h1 := of_decide_eq_false h1
  rw [List.length_map] at h1
  have hil : i = d.ts.length := by omega
  subst hil
  rw [List.take_length] at hI
  have hoT := twT_once (l := d.ts)
  generalize twT d.ts d.ts.length = wt at *
  conv => whnf
  refine LoopJ.intro (I := []) (base' := 0) hX hm (by kernel_rfl) (σ := Nat) (fun i => [(1, .ptr 8 []), (3, .p (.b (wt || twC d.cs i))), (5, .p (.i .i64 i))]) (fun _ => [(8, .var (idv d))]) (fun i => i ≤ d.cs.length ∧ ∀ c ∈ d.cs.take i, okC c) (fun i => d.cs.length - i) 0 []
    ⟨Nat.zero_le _, by simp⟩ ⟨nofun, rfl, ⟨rfl, rfl, congrArg (fun b => AV.p (.b b)) (Bool.or_false wt).symm, rfl, rfl, rfl, trivial⟩, ⟨rfl, rfl, trivial⟩⟩ ?_
  intro i ⟨hi, hJ⟩
  conv => whnf
  refine iteC (fun h1 => ?_) (fun h1 => ?_)
  · have h1 := of_decide_eq_true h1
    rw [List.length_map] at h1
    have hlt : i < d.cs.length := by omega
    have hg := getM (f := fun c => cmv c) hlt
    have c0 := f19_ok d.cs[i] (hd.cs _ (List.getElem_mem hlt))
    unfold isC at c0
    by_cases hC : okC d.cs[i]
    · rw [decide_eq_true hC] at c0
      conv => whnf
      conv => arg 2; repeat (first | rw [hg] | (whnf; arg 2))
      conv => whnf
      refine ⟨_, c0, ?_⟩
      have c1 := f49_ok d.cs d.cs[i] (by omega)
      have hst := twC_step hlt
      generalize hw : (wt || twC d.cs i) = w at *
      have hst' : (wt || twC d.cs (i + 1)) = (w || decide (atC d.cs d.cs[i] < (i : Int))) := by rw [hst, ← hw, Bool.or_assoc]
      conv => whnf
      refine iteT rfl ?_
      cases w
      · conv => whnf
        conv => arg 2; repeat (first | rw [hg] | (whnf; arg 2))
        conv => whnf
        refine ⟨_, c1, ?_⟩
        conv => whnf
        refine iteC (fun h3 => ?_) (fun h3 => ?_)
        all_goals
          conv => whnf
          exact ⟨i + 1, [], ⟨by omega, take_all hlt hJ hC⟩, by dsimp only; omega, nofun, rfl, ⟨rfl, rfl, by rw [hst', h3]; rfl, rfl, incN (by omega), rfl, trivial⟩, ⟨rfl, rfl, trivial⟩⟩
      · conv => whnf
        exact ⟨i + 1, [], ⟨by omega, take_all hlt hJ hC⟩, by dsimp only; omega, nofun, rfl, ⟨rfl, rfl, by rw [hst']; rfl, rfl, incN (by omega), rfl, trivial⟩, ⟨rfl, rfl, trivial⟩⟩
    · rw [decide_eq_false hC] at c0
      rw [chkI_8 hn fun hv => hC (hv.2 _ (List.getElem_mem hlt))]
      conv => whnf
      conv => arg 2; repeat (first | rw [hg] | (whnf; arg 2))
      conv => whnf
      refine ⟨_, c0, ?_⟩
      conv => whnf
      refine iteF rfl ?_
      rfl
  have h1 := of_decide_eq_false h1
  rw [List.length_map] at h1
  have hil : i = d.cs.length := by omega
  subst hil
  rw [List.take_length] at hJ
  have hoC := twC_once (l := d.cs)
  generalize twC d.cs d.cs.length = wc at *
  have hv : validT d := ⟨hI, hJ⟩
  cases wt <;> cases wc
  · rw [chkI_0 hn hv ⟨hoT.1 rfl, hoC.1 rfl⟩]
    rfl
  · rw [chkI_14 hn hv fun h => by have := hoC.2 h.2; cases this]
    rfl
  · rw [chkI_14 hn hv fun h => by have := hoT.2 h.1; cases this]
    rfl
  · rw [chkI_14 hn hv fun h => by have := hoT.2 h.1; cases this]
    rfl
end Go.Proofs.YtipmkjfbdflneaaDoor.AM
