/- Code: what the abstract machine shows holds of the model. -/
import Derived.Test.YtmngcmfcbfkimaaAm25
namespace Go.Proofs.Ytmngcmfcbfkimaa.AM
open Go Go.RowKit

variable {P : Program} {X : Ctx} {W : World} {φ : Phi} {H L : HeapF} {w : World} {ρ : Nat → AV} {a : Act}

/-- What has become of the blocks that are to be kept. -/
def HExtB (B : Nat → Prop) (φ : Phi) (H : HeapF) (φ' : Phi) (H' : HeapF) : Prop :=
  ∀ i x, B i → H i = some x → φ' i = φ i ∧ ∃ y, H' i = some y ∧ BlkLe x y

theorem HExt.toB {B : Nat → Prop} {φ' : Phi} {H' : HeapF} (h : HExt φ H φ' H') : HExtB B φ H φ' H' := fun i x _ hx => h i x hx
theorem HExtB.refl (B : Nat → Prop) : HExtB B φ H φ H := (HExt.refl φ H).toB
theorem HExtB.trans {B : Nat → Prop} {φ1 φ2 : Phi} {H1 H2 : HeapF} (h : HExtB B φ H φ1 H1) (k : HExtB B φ1 H1 φ2 H2) : HExtB B φ H φ2 H2 := fun i x hb hx => by
  obtain ⟨h1, y, h2, h3⟩ := h i x hb hx
  obtain ⟨k1, z, k2, k3⟩ := k i y hb h2
  exact ⟨k1.trans h1, z, k2, h3.trans k3⟩

/-- What is asked behind a piece of code. -/
def Post (W : World) (B : Nat → Prop) (n : Nat) (φ : Phi) (H : HeapF) (K : Ex → Env → Heap → Prop) (x : Exit) (a : Act) (w : World) : Prop :=
  ∃ φ' e h, Sim W φ' (find h) (get e) n a w ∧ HExtB B φ H φ' (find h) ∧ match x with
    | .normal => K .normal e h
    | .exit i => K (.exit i) e h
    | .ret => K .ret e h
    | _ => False

theorem Post.ext {B : Nat → Prop} {n : Nat} {φ1 : Phi} {H1 : HeapF} {K : Ex → Env → Heap → Prop} {x : Exit} (he : HExtB B φ H φ1 H1) (h : Post W B n φ1 H1 K x a w) : Post W B n φ H K x a w := by
  obtain ⟨φ', e, hp, h1, h2, h3⟩ := h
  exact ⟨φ', e, hp, h1, he.trans h2, h3⟩

/-- The round of a loop is about to begin. -/
def LoopW (P : Program) (c : Code) (Q : Exit → Act → World → Prop) (a : Act) (w : World) : Prop :=
  ∀ (b : Frame) (k : List Item) (cs : List Frame), ∃ e a' w', Q e a' w' ∧ Arrives P (lone (b.at a (.code c :: .inLoop c :: k)) cs w) b k cs e a' w'

theorem LoopW.mono {c : Code} {Q Q' : Exit → Act → World → Prop} (hq : ∀ e a w, Q e a w → Q' e a w) (h : LoopW P c Q a w) : LoopW P c Q' a w :=
  fun b k cs => let ⟨e, a', w', q, r⟩ := h b k cs; ⟨e, a', w', hq _ _ _ q, r⟩

theorem LoopW.loop {c : Code} {Q : Exit → Act → World → Prop} (h : LoopW P c Q a w) : (Code.loop c).wp P Q a w := fun b k cs => by
  obtain ⟨e, a', w', hq, harr⟩ := h b k cs
  exact ⟨e, a', w', hq, .of_steps (.one step_loop) harr⟩

theorem LoopW.step {c : Code} {Q : Exit → Act → World → Prop} (h : c.wp P (Exit.then (LoopW P c Q) Q) a w) : LoopW P c Q a w := by
  intro b k cs
  obtain ⟨e, a₁, w₁, hq, harr⟩ := h b (.inLoop c :: k) cs
  cases e with
  | normal =>
    obtain ⟨e₂, a₂, w₂, hq₂, harr₂⟩ := hq b k cs
    exact ⟨e₂, a₂, w₂, hq₂, .of_steps (Steps.trans harr (.one step_inLoop)) harr₂⟩
  | exit id => exact ⟨_, a₁, w₁, hq, .pass (x := .inLoop c) rfl (fun _ _ => .inl (by simp)) harr⟩
  | goto l => exact ⟨_, a₁, w₁, hq, .pass (x := .inLoop c) rfl (fun _ _ => .inl (by simp)) harr⟩
  | ret => exact ⟨_, a₁, w₁, hq, .pass (x := .inLoop c) rfl (fun _ _ => .inl (by simp)) harr⟩
  | panic ch => exact ⟨_, a₁, w₁, hq, .pass (x := .inLoop c) rfl (fun _ _ => .inl (by simp)) harr⟩
  | outgrown => exact ⟨_, a₁, w₁, hq, .pass (x := .inLoop c) rfl (fun _ _ => .inl (by simp)) harr⟩

/-- What is to be shown of a loop. -/
structure LoopJ (P : Program) (X : Ctx) (n : Nat) (B : Nat → Prop) (base : Nat) (c : Code) (e : Env) (h : Heap) (K : Ex → Env → Heap → Prop) : Prop where
  out : ∀ W φ a w, GlobOK W X.G → Sim W φ (find h) (get e) n a w → LoopW P c (Post W B n φ (find h) K) a w

structure InlS (P : Program) (X : Ctx) (f : Nat) (as : List AV) (h : Heap) (K : AV → Heap → Prop) : Prop where
  out : InlJ P X f as h K

/-- The judgements, of the model. -/
def jd (P : Program) (X : Ctx) (n : Nat) (B : Nat → Prop) : Jd := ⟨Fn P X.G, InlS P X, LoopJ P X n B⟩

def codeOK (n : Nat) : Code → Bool
  | .skip => true
  | .region _ os d => os.toList.all (dstOK n) && (!d || Region.lexB .any os)
  | .seq a b => codeOK n a && codeOK n b
  | .cond _ a b => codeOK n a && codeOK n b
  | .block _ c => codeOK n c
  | .loop c => codeOK n c
  | .exit _ => true
  | .ret => true
  | _ => false

theorem codeP_ok (hX : X.ok P) (hm : P.follows .mixedOrders = true) {n : Nat} {B : Nat → Prop} {I : Inls} {base : Nat} : ∀ (c : Code) (e : Env) (h : Heap) (K : Ex → Env → Heap → Prop), codeOK n c = true →
    codeP X (jd P X n B) I base c e h K → ∀ W φ a w, GlobOK W X.G → Sim W φ (find h) (get e) n a w → c.wp P (Post W B n φ (find h) K) a w := by
  intro c
  induction c with
  | skip =>
    intro e h K _ hp W φ a w hG hs
    simp only [codeP_skip] at hp
    exact wp_skip ⟨φ, e, h, hs, HExtB.refl B, hp⟩
  | region id os d =>
    intro e h K hc hp W φ a w hG hs
    simp only [codeOK, Bool.and_eq_true, List.all_eq_true] at hc
    simp only [codeP_region] at hp
    cases d with
    | true =>
      simp only at hp
      refine opsD_ok hX hG hm (J := jd P X n B) (fun f as r h => h) (by simpa using hc.2) (fun o ho => hc.1 o (by simpa using ho)) hp hs ?_
      intro φ' e' h' a' w' q1 q2 q3
      exact ⟨φ', e', h', q1, q2.toB, q3⟩
    | false =>
      simp only at hp
      refine wp_region_list (opsP_ok hX hG (J := jd P X n B) (fun f as r h => h) (fun f as h K hi => hi.out) os.toList e h φ a w hc.1 hp hs ?_)
      intro φ' e' h' a' w' q1 q2 q3
      exact ⟨φ', e', h', q1, q2.toB, q3⟩
  | seq x y ihx ihy =>
    intro e h K hc hp W φ a w hG hs
    simp only [codeOK, Bool.and_eq_true] at hc
    simp only [codeP_seq] at hp
    refine wp_seq (wp_mono (ihx e h _ hc.1 hp W φ a w hG hs) ?_)
    rintro x1 a1 w1 ⟨φ1, e1, h1, q1, q2, q3⟩
    cases x1 with
    | normal => exact wp_mono (ihy e1 h1 K hc.2 q3 W φ1 a1 w1 hG q1) fun x2 a2 w2 q => q.ext q2
    | exit i => exact ⟨φ1, e1, h1, q1, q2, q3⟩
    | ret => exact ⟨φ1, e1, h1, q1, q2, q3⟩
    | goto l => exact q3.elim
    | panic l => exact q3.elim
    | outgrown => exact q3.elim
  | cond x a1 b1 iha ihb =>
    intro e h K hc hp W φ a w hG hs
    simp only [codeOK, Bool.and_eq_true] at hc
    simp only [codeP_cond] at hp
    have hv := ev_ok hG hs.env x
    split at hp
    · rename_i y hy
      rw [hy] at hv
      simp only [Rel, PV.val] at hv
      cases y with
      | true => exact wp_cond_true hv.2 (iha e h K hc.1 hp W φ a w hG hs)
      | false => exact wp_cond_false hv.2 (ihb e h K hc.2 hp W φ a w hG hs)
    · exact hp.elim
  | block id c ih =>
    intro e h K hc hp W φ a w hG hs
    simp only [codeOK] at hc
    simp only [codeP_block] at hp
    refine wp_block (wp_mono (ih e h _ hc hp W φ a w hG hs) ?_)
    rintro x1 a1 w1 ⟨φ1, e1, h1, q1, q2, q3⟩
    cases x1 with
    | normal => exact ⟨φ1, e1, h1, q1, q2, q3⟩
    | exit j =>
      simp only at q3
      simp only [Exit.inBlock]
      split at q3
      · rename_i hb
        rw [if_pos (Nat.eq_of_beq_eq_true hb)]
        exact ⟨φ1, e1, h1, q1, q2, q3⟩
      · rename_i hb
        rw [if_neg fun he => by rw [he, Nat.beq_refl] at hb; cases hb]
        exact ⟨φ1, e1, h1, q1, q2, q3⟩
    | ret => exact ⟨φ1, e1, h1, q1, q2, q3⟩
    | goto l => exact q3.elim
    | panic l => exact q3.elim
    | outgrown => exact q3.elim
  | loop c ih =>
    intro e h K hc hp W φ a w hG hs
    simp only [codeP_loop] at hp
    have hp : LoopJ P X n B base c e h K := hp
    exact (hp.out W φ a w hG hs).loop
  | exit i =>
    intro e h K hc hp W φ a w hG hs
    simp only [codeP_exit] at hp
    exact wp_exit ⟨φ, e, h, hs, HExtB.refl B, hp⟩
  | ret =>
    intro e h K hc hp W φ a w hG hs
    simp only [codeP_ret] at hp
    exact wp_ret ⟨φ, e, h, hs, HExtB.refl B, hp⟩
  | _ => intro e h K hc; simp [codeOK] at hc

/-- One round of a loop. -/
theorem LoopJ.unroll (hX : X.ok P) (hm : P.follows .mixedOrders = true) {n : Nat} {B : Nat → Prop} {I : Inls} {base base' : Nat} {c : Code} {e : Env} {h : Heap} {K : Ex → Env → Heap → Prop} (hc : codeOK n c = true)
    (hp : codeP X (jd P X n B) I base' c e h (fun x e' h' => match x with
      | .normal => LoopJ P X n B base c e' h' K
      | .exit i => K (.exit i) e' h'
      | .ret => K .ret e' h')) : LoopJ P X n B base c e h K := ⟨fun W φ a w hG hs => by
  refine LoopW.step (wp_mono (codeP_ok hX hm c e h _ hc hp W φ a w hG hs) ?_)
  rintro x1 a1 w1 ⟨φ1, e1, h1, q1, q2, q3⟩
  cases x1 with
  | normal => exact (LoopJ.out q3 W φ1 a1 w1 hG q1).mono fun x2 a2 w2 q => q.ext q2
  | exit i => exact ⟨φ1, e1, h1, q1, q2, q3⟩
  | ret => exact ⟨φ1, e1, h1, q1, q2, q3⟩
  | goto l => exact q3.elim
  | panic l => exact q3.elim
  | outgrown => exact q3.elim⟩

/-! ### Other names for blocks, and less known -/

mutual
def AV.ren (m : Nat → Nat) : AV → AV
  | .sl id o n => .sl (m id) o n
  | .own id => .own (m id)
  | .sa id pa o n => .sa (m id) pa o n
  | .ptr id pa => .ptr (m id) pa
  | .pe id i pa => .pe (m id) i pa
  | .pes id o n => .pes (m id) o n
  | .rp x => .rp (x.ren m)
  | .roA l => .roA (AV.renL m l)
  | .fn f l => .fn f (AV.renL m l)
  | .st l => .st (AV.renL m l)
  | .tup l => .tup (AV.renL m l)
  | .junk => .junk
  | .nilf => .nilf
  | .p x => .p x
  | .nil => .nil
  | .ro s l => .ro s l
def AV.renL (m : Nat → Nat) : List AV → List AV
  | [] => []
  | x :: l => x.ren m :: AV.renL m l
end

def Blk.ren (m : Nat → Nat) : Blk → Blk
  | .var x => .var (x.ren m)
  | .els rw s l => .els rw s l
  | .elsA l => .elsA (AV.renL m l)
  | .dead => .dead

def Blk.refs : Blk → List Nat
  | .var x => x.refs
  | .elsA l => AV.refsL l
  | _ => []

theorem AV.renL_length (m : Nat → Nat) (l : List AV) : (AV.renL m l).length = l.length := by
  induction l with
  | nil => rfl
  | cons x l ih => simp [AV.renL, ih]

theorem AV.renL_mem {m : Nat → Nat} {l : List AV} {x : AV} (h : x ∈ l) : x.ren m ∈ AV.renL m l := by
  induction l with
  | nil => cases h
  | cons y l ih =>
    simp only [AV.renL, List.mem_cons]
    rcases List.mem_cons.1 h with rfl | h
    · exact .inl rfl
    · exact .inr (ih h)

theorem AV.ren_stays (m : Nat → Nat) (x : AV) : (x.ren m).stays = x.stays := by cases x <;> rfl
theorem AV.ren_isAgg (m : Nat → Nat) (x : AV) : (x.ren m).isAgg = x.isAgg := by cases x <;> rfl

mutual
theorem AV.ren_sh (m : Nat → Nat) : ∀ x : AV, (x.ren m).sh = x.sh
  | .st l => by simp only [AV.ren, AV.sh]; rw [AV.renL_sh m l]
  | .junk => rfl
  | .p _ => rfl
  | .nil => rfl
  | .nilf => rfl
  | .ro _ _ => rfl
  | .roA _ => rfl
  | .sl _ _ _ => rfl
  | .own _ => rfl
  | .sa _ _ _ _ => rfl
  | .ptr _ _ => rfl
  | .pe _ _ _ => rfl
  | .pes _ _ _ => rfl
  | .rp _ => rfl
  | .fn _ _ => rfl
  | .tup _ => rfl
theorem AV.renL_sh (m : Nat → Nat) : ∀ l : List AV, AV.shL (AV.renL m l) = AV.shL l
  | [] => rfl
  | x :: l => by simp only [AV.renL, AV.shL]; rw [AV.ren_sh m x, AV.renL_sh m l]
end

/-- The old memory names the blocks otherwise. -/
def Named (m : Nat → Nat) (φ : Phi) (H : HeapF) (φ' : Phi) (H' : HeapF) (i : Nat) : Prop :=
  φ' i = φ (m i) ∧ ∃ b, H' i = some b ∧ H (m i) = some (b.ren m)

mutual
theorem Rel.ren {m : Nat → Nat} {φ' : Phi} {H' : HeapF} : ∀ (x : AV) (v : Value), (∀ i ∈ x.refs, Named m φ H φ' H' i) → Rel W φ H (x.ren m) v → Rel W φ' H' x v
  | .junk, _, _, _ => by simp [Rel]
  | .p x, v, _, h => by simpa [Rel, AV.ren] using h
  | .nil, v, _, h => by simpa [Rel, AV.ren] using h
  | .nilf, v, _, h => by simpa [Rel, AV.ren] using h
  | .ro s l, v, _, h => by simpa [Rel, AV.ren] using h
  | .roA l, v, hn, h => by
    simp only [Rel, AV.ren] at h ⊢
    obtain ⟨a, c, vs, h1, h2, h3, h4⟩ := h
    rw [AV.renL_length] at h1
    refine ⟨a, c, vs, h1, RelL.ren l vs hn h2, fun x hx => ?_, ?_⟩
    · have := h3 _ (AV.renL_mem hx)
      rw [AV.ren_stays, AV.ren_isAgg] at this
      exact this
    · rcases h4 with h4 | h4
      · left
        cases l with
        | nil => rfl
        | cons => simp [AV.renL] at h4
      · exact .inr h4
  | .sl id off n, v, hn, h => by
    obtain ⟨h1, b, h2, h3⟩ := hn id (by simp [AV.refs])
    simp only [Rel, AV.ren, h3] at h
    simp only [Rel, h2, h1]
    cases b <;> simp only [Blk.ren] at h ⊢ <;> exact h
  | .own id, v, hn, h => by
    obtain ⟨h1, b, h2, h3⟩ := hn id (by simp [AV.refs])
    simp only [Rel, AV.ren, h3] at h
    simp only [Rel, h2, h1]
    cases b <;> simp only [Blk.ren, AV.renL_length] at h ⊢ <;> exact h
  | .sa id p off n, v, hn, h => by
    obtain ⟨h1, b, h2, h3⟩ := hn id (by simp [AV.refs])
    simp only [Rel, AV.ren, h3] at h
    simp only [Rel, h2, h1]
    cases b <;> simp only [Blk.ren, AV.ren_sh] at h ⊢ <;> exact h
  | .ptr id p, v, hn, h => by
    obtain ⟨h1, b, h2, h3⟩ := hn id (by simp [AV.refs])
    simp only [Rel, AV.ren, h3] at h
    simp only [Rel, h2, h1]
    cases b <;> simp only [Blk.ren, AV.ren_sh] at h ⊢ <;> exact h
  | .pe id i p, v, hn, h => by
    obtain ⟨h1, b, h2, h3⟩ := hn id (by simp [AV.refs])
    simp only [Rel, AV.ren, h3] at h
    simp only [Rel, h2, h1]
    cases b <;> simp only [Blk.ren] at h ⊢ <;> exact h
  | .pes id off n, v, hn, h => by
    obtain ⟨h1, b, h2, h3⟩ := hn id (by simp [AV.refs])
    simp only [Rel, AV.ren, h3] at h
    simp only [Rel, h2, h1]
    cases b <;> simp only [Blk.ren] at h ⊢ <;> exact h
  | .rp x, v, hn, h => by
    simp only [Rel, AV.ren, AV.ren_stays] at h ⊢
    obtain ⟨ad, u, h1, h2, h3⟩ := h
    exact ⟨ad, u, h1, Rel.ren x u hn h2, h3⟩
  | .fn f l, v, hn, h => by
    simp only [Rel, AV.ren] at h ⊢
    obtain ⟨cs, h1, h2⟩ := h
    exact ⟨cs, h1, RelL.ren l cs hn h2⟩
  | .st l, v, hn, h => by
    simp only [Rel, AV.ren] at h ⊢
    obtain ⟨vs, h1, h2, h3⟩ := h
    refine ⟨vs, RelL.ren l vs hn h1, fun x hx => ?_, h3⟩
    have := h2 _ (AV.renL_mem hx)
    rwa [AV.ren_stays] at this
  | .tup l, v, hn, h => by
    simp only [Rel, AV.ren] at h ⊢
    obtain ⟨vs, h1, h2⟩ := h
    exact ⟨vs, RelL.ren l vs hn h1, h2⟩
theorem RelL.ren {m : Nat → Nat} {φ' : Phi} {H' : HeapF} : ∀ (l : List AV) (vs : List Value), (∀ i ∈ AV.refsL l, Named m φ H φ' H' i) → RelL W φ H (AV.renL m l) vs → RelL W φ' H' l vs
  | [], [], _, _ => by simp [RelL]
  | x :: l, v :: vs, hn, h => by
    simp only [AV.renL, RelL] at h ⊢
    exact ⟨Rel.ren x v (fun i hi => hn i (by simp [AV.refsL, hi])) h.1, RelL.ren l vs (fun i hi => hn i (by simp [AV.refsL, hi])) h.2⟩
  | [], _ :: _, _, h => by simp [AV.renL, RelL] at h
  | _ :: _, [], _, h => by simp [AV.renL, RelL] at h
end

theorem BlkOK.ren {m : Nat → Nat} {φ' : Phi} {H' : HeapF} {i : Nat} {b : Blk} (hi : φ' i = φ (m i)) (hn : ∀ j ∈ b.refs, Named m φ H φ' H' j) (h : BlkOK W φ H w (m i) (b.ren m)) : BlkOK W φ' H' w i b := by
  cases b with
  | dead => trivial
  | var x =>
    simp only [Blk.ren, BlkOK, AV.ren_stays] at h
    obtain ⟨h0, b, c, cs, T, v, h1, h2, h3, h4⟩ := h
    exact ⟨h0, b, c, cs, T, v, hi.trans h1, h2, Rel.ren x v hn h3, h4⟩
  | els rw' s l =>
    simp only [Blk.ren, BlkOK] at h ⊢
    rw [hi]
    exact h
  | elsA l =>
    simp only [Blk.ren, BlkOK] at h ⊢
    obtain ⟨b, cap, cs, T, fr, vs, h1, h2, h3, h4, h5⟩ := h
    refine ⟨b, cap, cs, T, fr, vs, hi.trans h1, h2, RelL.ren l vs hn h3, fun x hx => ?_, h5⟩
    have := h4 _ (AV.renL_mem hx)
    rw [AV.ren_stays, AV.ren_isAgg] at this
    exact this

def mapN : List (Nat × Nat) → Nat → Nat
  | [], i => i
  | (u, v) :: r, i => match Nat.beq u i with
    | true => v
    | false => mapN r i

def idsOf : Heap → List Nat
  | [] => []
  | (i, _) :: h => i :: idsOf h

def subN : List Nat → List Nat → Bool
  | [], _ => true
  | n :: l, m => match memN n m with
    | true => subN l m
    | false => false

theorem subN_spec {l m : List Nat} (h : subN l m = true) : ∀ i ∈ l, i ∈ m := by
  induction l with
  | nil => simp
  | cons n l ih =>
    simp only [subN] at h
    split at h
    · rename_i hn
      intro i hi
      rcases List.mem_cons.1 hi with rfl | hi
      · exact memN_iff.1 hn
      · exact ih h i hi
    · cases h

def mapNL (m : Nat → Nat) : List Nat → List Nat
  | [] => []
  | x :: l => m x :: mapNL m l

/-- What is known of the temporaries is known here too. -/
def wkE (e : Env) (m : Nat → Nat) (ids : List Nat) : Env → Prop
  | [] => True
  | (t, v) :: r => match v with
    | .junk => wkE e m ids r
    | v => get e t = v.ren m ∧ subN v.refs ids = true ∧ wkE e m ids r

def wkH (h : Heap) (m : Nat → Nat) (ids : List Nat) : Heap → Prop
  | [] => True
  | (i, b) :: r => find h (m i) = some (b.ren m) ∧ subN b.refs ids = true ∧ wkH h m ids r

/-- The state (e, h) reads as (e', h') too, a block i of h' being the block m i of h. -/
structure Weak (B : Nat → Prop) (m : List (Nat × Nat)) (e : Env) (h : Heap) (e' : Env) (h' : Heap) : Prop where
  keep : ∀ i, B i → mapN m i = i ∧ i ∈ idsOf h'
  inj : nodupN (mapNL (mapN m) (idsOf h')) = true
  env : wkE e (mapN m) (idsOf h') e'
  heap : wkH h (mapN m) (idsOf h') h'

theorem find_ids {h : Heap} {i : Nat} : i ∈ idsOf h ↔ ∃ b, find h i = some b := by
  induction h with
  | nil => simp [idsOf, find]
  | cons e h ih =>
    obtain ⟨u, b⟩ := e
    simp only [idsOf, find, List.mem_cons]
    cases hb : Nat.beq u i with
    | true => simp [(Nat.eq_of_beq_eq_true hb).symm]
    | false =>
      have : i ≠ u := fun e => by rw [e, Nat.beq_refl] at hb; cases hb
      simp [this, ih]

theorem nodupN_spec {l : List Nat} (h : nodupN l = true) : l.Nodup := by
  induction l with
  | nil => simp
  | cons n l ih =>
    simp only [nodupN] at h
    split at h
    · cases h
    · rename_i hn
      refine List.nodup_cons.2 ⟨fun hm => ?_, ih h⟩
      rw [memN_iff.2 hm] at hn
      cases hn

theorem mapNL_mem {m : Nat → Nat} {l : List Nat} {i : Nat} (h : i ∈ l) : m i ∈ mapNL m l := by
  induction l with
  | nil => cases h
  | cons n l ih =>
    simp only [mapNL, List.mem_cons]
    rcases List.mem_cons.1 h with rfl | h
    · exact .inl rfl
    · exact .inr (ih h)

theorem mapNL_inj {m : Nat → Nat} {l : List Nat} (hn : (mapNL m l).Nodup) {i j : Nat} (hi : i ∈ l) (hj : j ∈ l) (h : m i = m j) : i = j := by
  induction l with
  | nil => cases hi
  | cons n l ih =>
    simp only [mapNL] at hn
    have h1 := List.nodup_cons.1 hn
    rcases List.mem_cons.1 hi with rfl | hi'
    · rcases List.mem_cons.1 hj with rfl | hj'
      · rfl
      · exact absurd (h ▸ mapNL_mem hj') h1.1
    · rcases List.mem_cons.1 hj with rfl | hj'
      · exact absurd (h ▸ mapNL_mem hi') h1.1
      · exact ih h1.2 hi' hj'

theorem wkE_get {e : Env} {m : Nat → Nat} {ids : List Nat} {e' : Env} (h : wkE e m ids e') (t : Nat) : get e' t = .junk ∨ (get e t = (get e' t).ren m ∧ ∀ i ∈ (get e' t).refs, i ∈ ids) := by
  induction e' with
  | nil => exact .inl rfl
  | cons x r ih =>
    obtain ⟨u, v⟩ := x
    have h' : v = .junk ∧ wkE e m ids r ∨ get e u = v.ren m ∧ subN v.refs ids = true ∧ wkE e m ids r := by
      cases v <;> first
        | exact .inl ⟨rfl, h⟩
        | exact .inr h
    simp only [get]
    cases hb : Nat.beq u t with
    | true =>
      have := Nat.eq_of_beq_eq_true hb
      subst this
      rcases h' with ⟨rfl, _⟩ | ⟨h1, h2, _⟩
      · exact .inl rfl
      · exact .inr ⟨h1, subN_spec h2⟩
    | false =>
      rcases h' with ⟨_, h3⟩ | ⟨_, _, h3⟩
      · exact ih h3
      · exact ih h3

theorem wkH_find {h : Heap} {m : Nat → Nat} {ids : List Nat} {h' : Heap} (hw : wkH h m ids h') {i : Nat} {b : Blk} (hf : find h' i = some b) : find h (m i) = some (b.ren m) ∧ ∀ j ∈ b.refs, j ∈ ids := by
  induction h' with
  | nil => cases hf
  | cons x r ih =>
    obtain ⟨u, c⟩ := x
    simp only [wkH] at hw
    simp only [find] at hf
    cases hb : Nat.beq u i with
    | true =>
      rw [hb] at hf
      have := Nat.eq_of_beq_eq_true hb
      subst this
      cases hf
      exact ⟨hw.1, subN_spec hw.2.1⟩
    | false =>
      rw [hb] at hf
      exact ih hw.2.2 hf

theorem ren_le {m : Nat → Nat} (b : Blk) : BlkLe (b.ren m) b := by
  cases b <;> simp [Blk.ren, BlkLe, AV.ren_sh, AV.renL_length]

theorem Weak.sim {B : Nat → Prop} {m : List (Nat × Nat)} {e e' : Env} {h h' : Heap} (hw : Weak B m e h e' h') {n : Nat} (hs : Sim W φ (find h) (get e) n a w) :
    ∃ φ', Sim W φ' (find h') (get e') n a w ∧ HExtB B φ (find h) φ' (find h') := by
  have named : ∀ i, i ∈ idsOf h' → Named (mapN m) φ (find h) (fun i => φ (mapN m i)) (find h') i := fun i hi => by
    obtain ⟨b, hb⟩ := find_ids.1 hi
    exact ⟨rfl, b, hb, (wkH_find hw.heap hb).1⟩
  refine ⟨fun i => φ (mapN m i), ⟨⟨hs.heap.below, fun i b hb => ?_, fun i b b1 c hb hφ => ?_, fun i j x y b c c' hx hy dx dy hij hi hj => ?_⟩, fun t => ?_, hs.size, hs.defers⟩, fun i x hB hx => ?_⟩
  · obtain ⟨h1, h2⟩ := wkH_find hw.heap hb
    exact BlkOK.ren rfl (fun j hj => named j (h2 j hj)) (hs.heap.blk _ _ h1)
  · exact hs.heap.ge _ _ b1 c (wkH_find hw.heap hb).1 hφ
  · have hne : mapN m i ≠ mapN m j := fun he => hij (mapNL_inj (nodupN_spec hw.inj) (find_ids.2 ⟨x, hx⟩) (find_ids.2 ⟨y, hy⟩) he)
    refine hs.heap.dis _ _ _ _ b c c' (wkH_find hw.heap hx).1 (wkH_find hw.heap hy).1 (fun e => dx ?_) (fun e => dy ?_) hne hi hj
    · cases x <;> first | rfl | cases e
    · cases y <;> first | rfl | cases e
  · rcases wkE_get hw.env t with h1 | ⟨h1, h2⟩
    · rw [h1]; simp [Rel]
    · have := hs.env t
      rw [h1] at this
      exact Rel.ren _ _ (fun i hi => named i (h2 i hi)) this
  · obtain ⟨h1, h2⟩ := hw.keep i hB
    obtain ⟨b, hb⟩ := find_ids.1 h2
    have h3 := (wkH_find hw.heap hb).1
    rw [h1, hx] at h3
    cases h3
    exact ⟨congrArg φ h1, b, hb, ren_le b⟩

/-- Behind a round of a loop. -/
def roundK {σ : Type} (B : Nat → Prop) (st : σ → Env) (hp : σ → Heap) (Inv : σ → Prop) (μ : σ → Nat) (s : σ) (K : Ex → Env → Heap → Prop) : Ex → Env → Heap → Prop
  | .normal, e, h => ∃ s' m, Inv s' ∧ μ s' < μ s ∧ Weak B m e h (st s') (hp s')
  | .exit i, e, h => K (.exit i) e h
  | .ret, e, h => K .ret e h

/-- A loop, by its invariant: the state, as a function of what turns. -/
theorem LoopJ.intro (hX : X.ok P) (hm : P.follows .mixedOrders = true) {n : Nat} {B : Nat → Prop} {I : Inls} {base base' : Nat} {c : Code} {e : Env} {h : Heap} {K : Ex → Env → Heap → Prop} (hc : codeOK n c = true)
    {σ : Type} (st : σ → Env) (hp : σ → Heap) (Inv : σ → Prop) (μ : σ → Nat) (s0 : σ) (m0 : List (Nat × Nat)) (h0 : Inv s0) (hw : Weak B m0 e h (st s0) (hp s0))
    (hround : ∀ s, Inv s → codeP X (jd P X n B) I base' c (st s) (hp s) (roundK B st hp Inv μ s K)) : LoopJ P X n B base c e h K := by
  have key : ∀ k s, μ s = k → Inv s → LoopJ P X n B base c (st s) (hp s) K := by
    intro k
    induction k using Nat.strongRecOn with
    | _ k ih =>
      intro s hk hI
      refine ⟨fun W φ a w hG hs => LoopW.step (wp_mono (codeP_ok hX hm c _ _ _ hc (hround s hI) W φ a w hG hs) ?_)⟩
      rintro x1 a1 w1 ⟨φ1, e1, h1, q1, q2, q3⟩
      cases x1 with
      | normal =>
        obtain ⟨s', m, g1, g2, g3⟩ := q3
        obtain ⟨φ2, g4, g5⟩ := g3.sim q1
        exact ((ih (μ s') (hk ▸ g2) s' rfl g1).out W φ2 a1 w1 hG g4).mono fun x2 a2 w2 q => (q.ext g5).ext q2
      | exit i => exact ⟨φ1, e1, h1, q1, q2, q3⟩
      | ret => exact ⟨φ1, e1, h1, q1, q2, q3⟩
      | goto l => exact q3.elim
      | panic l => exact q3.elim
      | outgrown => exact q3.elim
  refine ⟨fun W φ a w hG hs => ?_⟩
  obtain ⟨φ1, g1, g2⟩ := hw.sim hs
  exact ((key _ s0 rfl h0).out W φ1 a w hG g1).mono fun x2 a2 w2 q => q.ext g2

/-- The state that a loop begins in may be read otherwise. -/
theorem LoopJ.weak {n : Nat} {B : Nat → Prop} {base : Nat} {c : Code} {e e' : Env} {h h' : Heap} {K : Ex → Env → Heap → Prop} {m : List (Nat × Nat)} (hw : Weak B m e h e' h') (hl : LoopJ P X n B base c e' h' K) : LoopJ P X n B base c e h K := by
  refine ⟨fun W φ a w hG hs => ?_⟩
  obtain ⟨φ1, g1, g2⟩ := hw.sim hs
  exact (hl.out W φ1 a w hG g1).mono fun x2 a2 w2 q => q.ext g2

/-- The nil slice is a block of the function's own too, with nothing in it. -/
theorem LoopJ.nil {n : Nat} {B : Nat → Prop} {base : Nat} {c : Code} {e : Env} {h : Heap} {K : Ex → Env → Heap → Prop} (t id : Nat) (s : Sh) (ht : get e t = .nil) (hid : find h id = none)
    (hl : LoopJ P X n B base c ((t, .own id) :: e) ((id, .els true s []) :: h) K) : LoopJ P X n B base c e h K := by
  refine ⟨fun W φ a w hG hs => ?_⟩
  obtain ⟨g1, g2⟩ := hs.heap.put (id := id) (blk := .els true s []) (pc := none) hid ⟨trivial, trivial, by rw [upd_same]⟩ (fun b c h => by cases h) (fun b c h => by cases h)
  rw [← find_cons] at g1 g2
  refine (hl.out W _ a w hG ⟨g1, fun u => ?_, hs.size, hs.defers⟩).mono fun x2 a2 w2 q => q.ext g2.toB
  rw [get_cons]
  by_cases hu : u = t
  · subst hu
    have := hs.env u
    rw [ht] at this
    simp only [Rel] at this
    rw [upd_same, find_cons]
    simp only [Rel, upd_same]
    exact ⟨this, trivial⟩
  · rw [upd_ne _ _ hu]
    exact Rel.mono g2 _ _ (hs.env u)

end Go.Proofs.Ytmngcmfcbfkimaa.AM
