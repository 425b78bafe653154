/- Memories that read alike; what a call leaves beside its block is forgotten. -/
import Derived.Test.YtgjebgplbkjkhaaSrtL
namespace Go.Proofs.Ytgjebgplbkjkhaa.AM
open Go Go.RowKit Go.Sort
set_option maxRecDepth 100000

section
variable {P : Program} {X : Ctx} {W : World} {φ : Phi} {H : HeapF} {w : World}

mutual
theorem AV.ren_id : ∀ x : AV, x.ren (fun i => i) = x
  | .junk => rfl
  | .p _ => rfl
  | .nil => rfl
  | .ro _ _ => rfl
  | .roA l => by simp only [AV.ren]; rw [AV.renL_id l]
  | .sl _ _ _ => rfl
  | .own _ => rfl
  | .sa _ _ _ _ => rfl
  | .ptr _ _ => rfl
  | .pe _ _ _ => rfl
  | .pes _ _ _ => rfl
  | .rp x => by simp only [AV.ren]; rw [AV.ren_id x]
  | .fn _ l => by simp only [AV.ren]; rw [AV.renL_id l]
  | .st l => by simp only [AV.ren]; rw [AV.renL_id l]
  | .tup l => by simp only [AV.ren]; rw [AV.renL_id l]
  | .nilf => rfl
  | .nilm => rfl
  | .yl _ => rfl
  | .mp _ => rfl
theorem AV.renL_id : ∀ l : List AV, AV.renL (fun i => i) l = l
  | [] => rfl
  | x :: l => by simp only [AV.renL]; rw [AV.ren_id x, AV.renL_id l]
end
theorem renE_id (e : Env) : renE (fun i => i) e = e := by
  induction e with
  | nil => rfl
  | cons x r ih => obtain ⟨t, v⟩ := x; simp only [renE, AV.ren_id, ih]
theorem Blk.ren_id (b : Blk) : b.ren (fun i => i) = b := by
  cases b <;> simp only [Blk.ren, AV.ren_id, AV.renL_id, renE_id]

/-- A part of a memory that names no block beside it. -/
structure Part (h2 h1 : Heap) : Prop where
  sub : ∀ j x, find h2 j = some x → find h1 j = some x
  clo : ∀ j x, find h2 j = some x → ∀ k ∈ x.refs, ∃ b, find h2 k = some b

theorem Part.named {h2 h1 : Heap} (p : Part h2 h1) {k : Nat} (hk : ∃ b, find h2 k = some b) : Named (fun i => i) φ (find h1) φ (find h2) k := by
  obtain ⟨b, hb⟩ := hk
  exact ⟨rfl, b, hb, by rw [Blk.ren_id]; exact p.sub k b hb⟩

theorem Part.sim {h2 h1 : Heap} (p : Part h2 h1) (hs : HSim W φ (find h1) w) : HSim W φ (find h2) w :=
  ⟨hs.below, fun j x hx => BlkOK.ren (m := fun i => i) rfl (fun k hk => p.named (p.clo j x hx k hk)) (by rw [Blk.ren_id]; exact hs.blk j x (p.sub j x hx)),
    fun j x b c hx hp => hs.ge j x b c (p.sub j x hx) hp, fun i j x y b c c' hx hy dx dy hij hi hj => hs.dis i j x y b c c' (p.sub i x hx) (p.sub j y hy) dx dy hij hi hj⟩

/-- What a call leaves beside is forgotten. -/
theorem InlS.clean {f : Nat} {xs : List AV} {h : Heap} {K : AV → Heap → Prop}
    (hi : InlS P X f xs h (fun r h1 => ∃ h2, Part h2 h1 ∧ (∀ j x, find h j = some x → ∃ y, find h2 j = some y) ∧ (∀ k ∈ r.refs, ∃ b, find h2 k = some b) ∧ K r h2)) : InlS P X f xs h K := by
  refine ⟨hi.out.1, fun W φ w vs g1 g2 g3 => (hi.out.2 W φ w vs g1 g2 g3).mono ?_⟩
  rintro e w' ⟨v, φ', h1, r, k1, k2, k3, k4, h2, p, q1, q2, q3⟩
  refine ⟨v, φ', h2, r, k1, p.sim k2, fun j x hx => ?_, ?_, q3⟩
  · obtain ⟨a1, y, a2, a3⟩ := k3 j x hx
    obtain ⟨z, hz⟩ := q1 j x hx
    have := p.sub j z hz
    rw [a2] at this
    cases this
    exact ⟨a1, y, hz, a3⟩
  · have k4' : Rel W φ' (find h1) (r.ren fun i => i) v := by rw [AV.ren_id]; exact k4
    exact Rel.ren (m := fun i => i) r v (fun k hk => p.named (q2 k hk)) k4'

/-- A memory whose blocks name no block but its own, and 208. -/
def Clo (h0 : Heap) : Prop := ∀ j x, find h0 j = some x → ∀ k ∈ x.refs, k = 208 ∨ ∃ b, find h0 k = some b

theorem Clo.part {h0 h1 : Heap} (c : Clo h0) (e : Ext 208 h0 h1) (d : Array Int) : Part ((208, qb d) :: h0) ((208, qb d) :: h1) := by
  refine ⟨fun j x hx => ?_, fun j x hx k hk => ?_⟩
  · rw [find_cons] at hx ⊢
    by_cases hj : j = 208
    · subst hj; rw [upd_same] at hx ⊢; exact hx
    · rw [upd_ne _ _ hj] at hx ⊢; exact e j hj x hx
  · rw [find_cons] at hx
    by_cases hj : j = 208
    · subst hj
      rw [upd_same] at hx
      cases hx
      simp [Blk.refs] at hk
    · rw [upd_ne _ _ hj] at hx
      rw [find_cons]
      by_cases hk2 : k = 208
      · subst hk2; exact ⟨_, upd_same _ _ _⟩
      · rw [upd_ne _ _ hk2]
        rcases c j x hx k hk with h | h
        · exact absurd h hk2
        · exact h

/-- A call that writes into the block alone. -/
theorem InlS.exact {f : Nat} {xs : List AV} {h0 : Heap} {d D : Array Int} {r : AV} {K : AV → Heap → Prop} (c : Clo h0) (hr : r.refs = [])
    (hi : ∀ K', (∀ h1, Ext 208 h0 h1 → K' r ((208, qb D) :: h1)) → InlS P X f xs ((208, qb d) :: h0) K') (hk : K r ((208, qb D) :: h0)) : InlS P X f xs ((208, qb d) :: h0) K := by
  refine InlS.clean (hi _ fun h1 e => ⟨(208, qb D) :: h0, c.part e D, fun j x hx => ?_, fun k hk => ?_, hk⟩)
  · rw [find_cons] at hx ⊢
    by_cases hj : j = 208
    · subst hj; exact ⟨_, upd_same _ _ _⟩
    · rw [upd_ne _ _ hj] at hx ⊢; exact ⟨x, hx⟩
  · rw [hr] at hk; cases hk

/-- A loop that is left by one exit, of a memory that reads as a function of what turns. -/
def roundF {σ : Type} (st : σ → Env) (hp : σ → Heap) (Inv Out : σ → Prop) (xi : Nat) (μ : σ → Nat) (s : σ) (K : Ex → Env → Heap → Prop) : Ex → Env → Heap → Prop
  | .normal, e, h => ∃ s', Inv s' ∧ μ s' < μ s ∧ find h = find (hp s') ∧ subEnv e (st s')
  | .exit i, e, h => match Nat.beq i xi with
    | true => ∃ s', Out s' ∧ find h = find (hp s') ∧ subEnv e (st s')
    | false => K (.exit i) e h
  | .ret, e, h => K .ret e h

theorem LoopJ.introF (hX : X.ok P) (hm : P.follows .mixedOrders = true) {md : Md} {n : Nat} {B : Nat → Prop} {I : Inls} {base base' : Nat} {c : Code} {e : Env} {h : Heap} {K : Ex → Env → Heap → Prop} (hc : codeOK n c = true)
    (xi : Nat) {σ : Type} (st : σ → Env) (hp : σ → Heap) (Inv Out : σ → Prop) (μ : σ → Nat) (s0 : σ) (h0 : Inv s0) (hh : find h = find (hp s0)) (he : subEnv e (st s0))
    (hround : ∀ s, Inv s → codeP X (jd P X md n B) I base' c (st s) (hp s) (roundF st hp Inv Out xi μ s K)) (hout : ∀ s, Out s → K (.exit xi) (st s) (hp s)) : LoopJ P X md n B base c e h K := by
  have weak : ∀ {W : World} {φ : Phi} {H : HeapF} {e e' : Env} {a : Act} {w : World}, subEnv e e' → Sim W φ H (get e) md n a w → Sim W φ H (get e') md n a w := fun hs q => ⟨q.heap, fun t => by
    rcases subEnv_get hs t with h1 | h1
    · rw [h1]; simp [Rel]
    · rw [h1]; exact q.env t, q.size, q.defers⟩
  have key : ∀ k s, μ s = k → Inv s → LoopJ P X md n B base c (st s) (hp s) K := by
    intro k
    induction k using Nat.strongRecOn with
    | _ k ih =>
      intro s hk hI
      refine ⟨fun W φ a w hG hs => LoopW.step (wpIn_mono (codeP_ok hX hm c _ _ _ hc (hround s hI) W φ a w hG hs) ?_)⟩
      rintro x1 a1 w1 ⟨φ1, e1, h1, q1, q2, q3⟩
      cases x1 with
      | normal =>
        obtain ⟨s', g1, g2, g3, g4⟩ := q3
        rw [g3] at q1 q2
        exact ((ih (μ s') (hk ▸ g2) s' rfl g1).out W φ1 a1 w1 hG (weak g4 q1)).mono fun x2 a2 w2 q => q.ext q2
      | exit i =>
        have q3 : (match Nat.beq i xi with
          | true => ∃ s', Out s' ∧ find h1 = find (hp s') ∧ subEnv e1 (st s')
          | false => K (.exit i) e1 h1) := q3
        cases hb : Nat.beq i xi with
        | true =>
          rw [hb] at q3
          obtain ⟨s', g1, g2, g3⟩ := q3
          obtain rfl := Nat.eq_of_beq_eq_true hb
          rw [g2] at q1 q2
          exact ⟨φ1, st s', hp s', weak g3 q1, q2, hout s' g1⟩
        | false =>
          rw [hb] at q3
          exact ⟨φ1, e1, h1, q1, q2, q3⟩
      | ret => exact ⟨φ1, e1, h1, q1, q2, q3⟩
      | goto l => exact q3.elim
      | panic l => exact q3.elim
      | outgrown => exact q3.elim
  refine ⟨fun W φ a w hG hs => ?_⟩
  rw [hh] at hs ⊢
  exact (key _ s0 rfl h0).out W φ a w hG (weak he hs)
end
end Go.Proofs.Ytgjebgplbkjkhaa.AM
