/- Functions that write into a slice of their caller: the rest of the memory is left open. Rules. -/
import Derived.Test.YtgjebgplbkjkhaaBaseD
import Derived.Sort.Walk13a
import Derived.Sort.LotD4
import Derived.Sort.LotD5
import Derived.Sort.AssemblyPlain
namespace Go.Proofs.Ytgjebgplbkjkhaa.AM
open Go Go.RowKit

section
variable {P : Program} {X : Ctx}

/-- Of a heap all is kept but one block. -/
def Ext (i : Nat) (h h' : Heap) : Prop := ∀ j, j ≠ i → ∀ x, find h j = some x → find h' j = some x
theorem Ext.refl (i : Nat) (h : Heap) : Ext i h h := fun _ _ _ hx => hx
theorem Ext.trans {i : Nat} {h1 h2 h3 : Heap} (e : Ext i h1 h2) (f : Ext i h2 h3) : Ext i h1 h3 := fun j hj x hx => f j hj x (e j hj x hx)
theorem Ext.cons {i : Nat} {h h' : Heap} {b : Blk} (e : Ext i h h') : Ext i h ((i, b) :: h') := fun j hj x hx => by
  rw [find_cons, upd_ne _ _ hj]
  exact e j hj x hx
theorem Ext.put {i k : Nat} {h h' : Heap} {b : Blk} (hk : find h' k = none) (e : Ext i h h') : Ext i h ((k, b) :: h') := fun j hj x hx => by
  have h1 := e j hj x hx
  have hne : j ≠ k := fun e => by subst e; rw [hk] at h1; cases h1
  rw [find_cons, upd_ne _ _ hne]
  exact h1

theorem find_pull {id : Nat} {b : Blk} {h : Heap} (hb : find h id = some b) : find ((id, b) :: h) = find h := by
  funext j
  rw [find_cons]
  by_cases hj : j = id
  · subst hj; rw [upd_same, hb]
  · rw [upd_ne _ _ hj]

/-- A block is named first. -/
theorem InlS.pull {f id : Nat} {xs : List AV} {h : Heap} {b : Blk} {K : AV → Heap → Prop} (hb : find h id = some b) (hi : InlS P X f xs ((id, b) :: h) K) : InlS P X f xs h K := by
  refine ⟨?_⟩
  have h1 := hi.out
  unfold InlJ at h1 ⊢
  rw [find_pull hb] at h1
  exact h1

theorem InlS.mono {f : Nat} {xs : List AV} {h : Heap} {K K' : AV → Heap → Prop} (hi : InlS P X f xs h K) (hk : ∀ r h', K r h' → K' r h') : InlS P X f xs h K' := by
  refine ⟨hi.out.1, fun W φ w vs g1 g2 g3 => (hi.out.2 W φ w vs g1 g2 g3).mono ?_⟩
  rintro e w' ⟨v, φ', h', r, k1, k2, k3, k4, k5⟩
  exact ⟨v, φ', h', r, k1, k2, k3, k4, hk r h' k5⟩

theorem fresh_ex (h : Heap) : ∃ b, ∀ k, b ≤ k → find h k = none := by
  induction h with
  | nil => exact ⟨0, fun _ _ => rfl⟩
  | cons x h ih =>
    obtain ⟨i, b⟩ := x
    obtain ⟨n, hn⟩ := ih
    refine ⟨max n (i + 1), fun k hk => ?_⟩
    rw [find_cons, upd_ne _ _ (by omega)]
    exact hn k (by omega)

/-- Behind a round of a loop whose memory is a function of the state. -/
def roundT {σ : Type} (st : σ → Env) (hp : σ → Heap) (Inv : σ → Prop) (μ : σ → Nat) (s : σ) (K : Ex → Env → Heap → Prop) : Ex → Env → Heap → Prop
  | .normal, e, h => ∃ s', Inv s' ∧ μ s' < μ s ∧ h = hp s' ∧ subEnv e (st s')
  | .exit i, e, h => K (.exit i) e h
  | .ret, e, h => K .ret e h

/-- A loop by its invariant, the memory as it stands. -/
theorem LoopJ.introT (hX : X.ok P) (hm : P.follows .mixedOrders = true) {md : Md} {n : Nat} {B : Nat → Prop} {I : Inls} {base base' : Nat} {c : Code} {e : Env} {h : Heap} {K : Ex → Env → Heap → Prop} (hc : codeOK n c = true)
    {σ : Type} (st : σ → Env) (hp : σ → Heap) (Inv : σ → Prop) (μ : σ → Nat) (s0 : σ) (h0 : Inv s0) (hh : h = hp s0) (he : subEnv e (st s0))
    (hround : ∀ s, Inv s → codeP X (jd P X md n B) I base' c (st s) (hp s) (roundT st hp Inv μ s K)) : LoopJ P X md n B base c e h K := by
  have weak : ∀ {W : World} {φ : Phi} {H : HeapF} {e e' : Env} {a : Act} {w : World}, subEnv e e' → Sim W φ H (get e) md n a w → Sim W φ H (get e') md n a w := fun hs q => ⟨q.heap, fun t => by
    rcases subEnv_get hs t with h1 | h1
    · rw [h1]; simp [Rel]
    · rw [h1]; exact q.env t, q.size, q.defers⟩
  have key : ∀ k s, μ s = k → Inv s → LoopJ P X md n B base c (st s) (hp s) K := by
    intro k
    induction k using Nat.strongRecOn with
    | _ k ih =>
      intro s hk hI
      refine ⟨fun W φ a w hG hs => LoopW.step (wpIn_mono (codeP_ok hX hm c _ _ _ hc (hround s hI) W φ a w hG hs) ?_)⟩
      rintro x1 a1 w1 ⟨φ1, e1, h1, q1, q2, q3⟩
      cases x1 with
      | normal =>
        obtain ⟨s', g1, g2, rfl, g4⟩ := q3
        exact ((ih (μ s') (hk ▸ g2) s' rfl g1).out W φ1 a1 w1 hG (weak g4 q1)).mono fun x2 a2 w2 q => q.ext q2
      | exit i => exact ⟨φ1, e1, h1, q1, q2, q3⟩
      | ret => exact ⟨φ1, e1, h1, q1, q2, q3⟩
      | goto l => exact q3.elim
      | panic l => exact q3.elim
      | outgrown => exact q3.elim
  subst hh
  exact ⟨fun W φ a w hG hs => (key _ s0 rfl h0).out W φ a w hG (weak he hs)⟩
/-- The same, for a loop that is left by one exit: behind it the state is a function of what turns, too. -/
def roundX {σ : Type} (st : σ → Env) (hp : σ → Heap) (Inv Out : σ → Prop) (xi : Nat) (μ : σ → Nat) (s : σ) (K : Ex → Env → Heap → Prop) : Ex → Env → Heap → Prop
  | .normal, e, h => ∃ s', Inv s' ∧ μ s' < μ s ∧ h = hp s' ∧ subEnv e (st s')
  | .exit i, e, h => match Nat.beq i xi with
    | true => ∃ s', Out s' ∧ h = hp s' ∧ subEnv e (st s')
    | false => K (.exit i) e h
  | .ret, e, h => K .ret e h

theorem LoopJ.introX (hX : X.ok P) (hm : P.follows .mixedOrders = true) {md : Md} {n : Nat} {B : Nat → Prop} {I : Inls} {base base' : Nat} {c : Code} {e : Env} {h : Heap} {K : Ex → Env → Heap → Prop} (hc : codeOK n c = true)
    (xi : Nat) {σ : Type} (st : σ → Env) (hp : σ → Heap) (Inv Out : σ → Prop) (μ : σ → Nat) (s0 : σ) (h0 : Inv s0) (hh : h = hp s0) (he : subEnv e (st s0))
    (hround : ∀ s, Inv s → codeP X (jd P X md n B) I base' c (st s) (hp s) (roundX st hp Inv Out xi μ s K)) (hout : ∀ s, Out s → K (.exit xi) (st s) (hp s)) : LoopJ P X md n B base c e h K := by
  have hl : LoopJ P X md n B base c e h (fun x e h => match x with
      | .normal => False
      | .exit i => match Nat.beq i xi with
        | true => ∃ s', Out s' ∧ h = hp s' ∧ subEnv e (st s')
        | false => K (.exit i) e h
      | .ret => K .ret e h) := by
    refine LoopJ.introT (I := I) (base' := base') hX hm hc st hp Inv μ s0 h0 hh he fun s hs => ?_
    have h1 := hround s hs
    have e1 : roundX st hp Inv Out xi μ s K = roundT st hp Inv μ s (fun x e h => match x with
      | .normal => False
      | .exit i => match Nat.beq i xi with
        | true => ∃ s', Out s' ∧ h = hp s' ∧ subEnv e (st s')
        | false => K (.exit i) e h
      | .ret => K .ret e h) := by
      funext x e h
      cases x <;> rfl
    rw [e1] at h1
    exact h1
  refine ⟨fun W φ a w hG hs => (hl.out W φ a w hG hs).mono ?_⟩
  rintro x1 a1 w1 ⟨φ1, e1, h1, q1, q2, q3⟩
  cases x1 with
  | normal => exact q3.elim
  | exit i =>
    have q3 : (match Nat.beq i xi with
        | true => ∃ s', Out s' ∧ h1 = hp s' ∧ subEnv e1 (st s')
        | false => K (.exit i) e1 h1) := q3
    cases hb : Nat.beq i xi with
    | true =>
      rw [hb] at q3
      obtain ⟨s', g1, rfl, g3⟩ := q3
      obtain rfl := Nat.eq_of_beq_eq_true hb
      exact ⟨φ1, st s', hp s', ⟨q1.heap, fun t => by
        rcases subEnv_get g3 t with h1 | h1
        · rw [h1]; simp [Rel]
        · rw [h1]; exact q1.env t, q1.size, q1.defers⟩, q2, hout s' g1⟩
    | false =>
      rw [hb] at q3
      exact ⟨φ1, e1, h1, q1, q2, q3⟩
  | ret => exact ⟨φ1, e1, h1, q1, q2, q3⟩
  | goto l => exact q3.elim
  | panic l => exact q3.elim
  | outgrown => exact q3.elim
end
end Go.Proofs.Ytgjebgplbkjkhaa.AM
