/- What the abstract machine's values and blocks say of the model's memory. -/
import Derived.Test.YtmngcmfcbfkimaaAm6
namespace Go.Proofs.Ytmngcmfcbfkimaa.AM
open Go Go.RowKit

abbrev Phi := Nat → Option (Nat × Nat)

def RowAt (W : World) (a : Addr) (cs : List Value) : Prop := ∀ j c, cs[j]? = some c → W.cell? (a.add j) = some c

mutual
def Rel (W : World) (φ : Phi) (H : HeapF) : AV → Value → Prop
  | .junk, _ => True
  | .p x, v => x.ok ∧ v = x.val
  | .nil, v => v = .slice none 0 0
  | .ro s l, v => ∃ a c, v = .slice a l.length c ∧ l.length ≤ c ∧ PV.okL l ∧ PV.allSh s l ∧ (l = [] ∨ ∃ ad, a = some ad ∧ RowAt W ad (PV.cellsL l))
  | .roA l, v => ∃ a c vs, v = .slice a l.length c ∧ RelL W φ H l vs ∧ (∀ x ∈ l, x.isAgg = false ∧ x.stays = true) ∧ (l = [] ∨ ∃ ad, a = some ad ∧ RowAt W ad vs)
  | .sl id off n, v => match H id with
    | some .dead => ∃ a n c, v = .slice a n c
    | some (.els _ s l) => off + n ≤ l.length ∧ match φ id with
      | none => v = .slice none 0 0 ∧ n = 0
      | some (b, cap) => ∃ a c, v = .slice (some a) n c ∧ off + c ≤ cap ∧ n ≤ c ∧ (a = ⟨b, off * s.size, none⟩ ∨ (n = 0 ∧ off ≠ 0))
    | _ => False
  | .own id, v => match H id with
    | some .dead => ∃ a n c, v = .slice a n c
    | some (.els _ _ l) => match φ id with
      | none => v = .slice none 0 0 ∧ l = []
      | some (b, cap) => ∃ c, v = .slice (some ⟨b, 0, none⟩) l.length c ∧ c ≤ cap ∧ l.length ≤ c
    | some (.elsA l) => match φ id with
      | none => False
      | some (b, _) => ∃ c, v = .slice (some ⟨b, 0, none⟩) l.length c ∧ l.length ≤ c
    | _ => False
  | .sa id path off n, v => match H id with
    | some (.var x) => ∃ b cap o k s a c, φ id = some (b, cap) ∧ offS x.sh path = some o ∧ shS x.sh path = some (.arr k s) ∧ off + n ≤ k ∧
        v = .slice (some a) n c ∧ n ≤ c ∧ (a = ⟨b, o + off * s.size, none⟩ ∨ n = 0)
    | _ => False
  | .ptr id path, v => match H id with
    | some (.var x) => ∃ b cap o, φ id = some (b, cap) ∧ offS x.sh path = some o ∧ v = .pointer (some ⟨b, o, none⟩)
    | _ => False
  | .pe id i path, v => match H id with
    | some .dead => ∃ a, v = .pointer a
    | some (.els _ s l) => ∃ b cap o, φ id = some (b, cap) ∧ i < l.length ∧ offS s path = some o ∧ v = .pointer (some ⟨b, i * s.size + o, none⟩)
    | _ => False
  | .pes id off n, v => match H id with
    | some .dead => ∃ a, v = .pointer a
    | some (.els _ s l) => off + n ≤ l.length ∧ ∃ b cap a, φ id = some (b, cap) ∧ v = .pointer (some a) ∧ (a = ⟨b, off * s.size, none⟩ ∨ n = 0)
    | _ => False
  | .rp x, v => ∃ ad u, v = .pointer (some ad) ∧ Rel W φ H x u ∧ x.stays = true ∧ RowAt W ad u.cells.toList
  | .fn f l, v => ∃ cs : List Value, v = .func (.func f) #[] cs.toArray ∧ RelL W φ H l cs
  | .st l, v => ∃ vs : List Value, RelL W φ H l vs ∧ (∀ x ∈ l, x.stays = true) ∧ v = .agg (vs.flatMap fun u => u.cells.toList).toArray
  | .tup l, v => ∃ vs : List Value, RelL W φ H l vs ∧ v = .tuple vs.toArray
  | .nilf, v => v = .nilFunc
def RelL (W : World) (φ : Phi) (H : HeapF) : List AV → List Value → Prop
  | [], [] => True
  | x :: l, v :: vs => Rel W φ H x v ∧ RelL W φ H l vs
  | _, _ => False
end

/-- What a block may become while values still name it. -/
def BlkLe : Blk → Blk → Prop
  | .var x, .var y => y.sh = x.sh
  | .els _ s l, .els _ u m => u = s ∧ m.length = l.length
  | .els _ _ _, .dead => True
  | .elsA l, .elsA m => m.length = l.length
  | .elsA _, .dead => True
  | .dead, .dead => True
  | _, _ => False

theorem BlkLe.refl (b : Blk) : BlkLe b b := by cases b <;> simp [BlkLe]

theorem BlkLe.trans {a b c : Blk} (h : BlkLe a b) (k : BlkLe b c) : BlkLe a c := by
  cases a <;> cases b <;> simp [BlkLe] at h <;> cases c <;> simp [BlkLe] at k ⊢ <;> simp_all

def HExt (φ : Phi) (H : HeapF) (φ' : Phi) (H' : HeapF) : Prop :=
  ∀ id blk, H id = some blk → φ' id = φ id ∧ ∃ blk', H' id = some blk' ∧ BlkLe blk blk'

theorem HExt.refl (φ : Phi) (H : HeapF) : HExt φ H φ H := fun _ b h => ⟨rfl, b, h, BlkLe.refl b⟩

theorem HExt.trans {φ φ1 φ2 : Phi} {H H1 H2 : HeapF} (h : HExt φ H φ1 H1) (k : HExt φ1 H1 φ2 H2) : HExt φ H φ2 H2 := fun id b hb => by
  obtain ⟨h1, b1, h2, h3⟩ := h id b hb
  obtain ⟨k1, b2, k2, k3⟩ := k id b1 h2
  exact ⟨k1.trans h1, b2, k2, h3.trans k3⟩

mutual
theorem Rel.mono {W : World} {φ φ' : Phi} {H H' : HeapF} (he : HExt φ H φ' H') : ∀ (x : AV) (v : Value), Rel W φ H x v → Rel W φ' H' x v
  | .junk, _, _ => by simp [Rel]
  | .p x, v, h => by simpa [Rel] using h
  | .nil, v, h => by simpa [Rel] using h
  | .nilf, v, h => by simpa [Rel] using h
  | .ro s l, v, h => by simpa [Rel] using h
  | .roA l, v, h => by
    simp only [Rel] at h ⊢
    obtain ⟨a, c, vs, h1, h2, h3⟩ := h
    exact ⟨a, c, vs, h1, RelL.mono he l vs h2, h3⟩
  | .sl id off n, v, h => by
    simp only [Rel] at h ⊢
    cases hb : H id with
    | none => simp [hb] at h
    | some b =>
      obtain ⟨hp, b', hb', hle⟩ := he id b hb
      rw [hb] at h
      rw [hb', hp]
      cases b <;> cases b' <;> simp only [BlkLe] at hle <;> simp only at h ⊢
      · obtain ⟨rfl, hl⟩ := hle
        rw [hl]
        exact h
      · obtain ⟨_, h⟩ := h
        split at h
        · exact ⟨_, _, _, h.1⟩
        · obtain ⟨a, c, rfl, _⟩ := h; exact ⟨_, _, _, rfl⟩
      · exact h
  | .own id, v, h => by
    simp only [Rel] at h ⊢
    cases hb : H id with
    | none => simp [hb] at h
    | some b =>
      obtain ⟨hp, b', hb', hle⟩ := he id b hb
      rw [hb] at h
      rw [hb', hp]
      cases b <;> cases b' <;> simp only [BlkLe] at hle <;> simp only at h ⊢
      · obtain ⟨rfl, hl⟩ := hle
        rw [hl]
        cases hφ : φ id with
        | none =>
          rw [hφ] at h
          obtain ⟨h1, h2⟩ := h
          exact ⟨h1, List.eq_nil_of_length_eq_zero (by rw [hl, h2]; rfl)⟩
        | some p => rw [hφ] at h; exact h
      · split at h
        · exact ⟨_, _, _, h.1⟩
        · obtain ⟨c, rfl, _⟩ := h; exact ⟨_, _, _, rfl⟩
      · rw [hle]
        exact h
      · split at h
        · exact h.elim
        · obtain ⟨c, rfl, _⟩ := h; exact ⟨_, _, _, rfl⟩
      · exact h
  | .sa id path off n, v, h => by
    simp only [Rel] at h ⊢
    cases hb : H id with
    | none => simp [hb] at h
    | some b =>
      obtain ⟨hp, b', hb', hle⟩ := he id b hb
      rw [hb] at h
      rw [hb', hp]
      cases b <;> cases b' <;> simp only [BlkLe] at hle <;> simp only at h ⊢ <;> first | trivial | exact h | skip
      rw [hle]
      exact h
  | .ptr id path, v, h => by
    simp only [Rel] at h ⊢
    cases hb : H id with
    | none => simp [hb] at h
    | some b =>
      obtain ⟨hp, b', hb', hle⟩ := he id b hb
      rw [hb] at h
      rw [hb', hp]
      cases b <;> cases b' <;> simp only [BlkLe] at hle <;> simp only at h ⊢ <;> first | trivial | exact h | skip
      rw [hle]
      exact h
  | .pe id i path, v, h => by
    simp only [Rel] at h ⊢
    cases hb : H id with
    | none => simp [hb] at h
    | some b =>
      obtain ⟨hp, b', hb', hle⟩ := he id b hb
      rw [hb] at h
      rw [hb', hp]
      cases b <;> cases b' <;> simp only [BlkLe] at hle <;> simp only at h ⊢
      · obtain ⟨rfl, hl⟩ := hle
        rw [hl]
        exact h
      · obtain ⟨b, cap, o, _, _, _, rfl⟩ := h; exact ⟨_, rfl⟩
      · exact h
  | .pes id off n, v, h => by
    simp only [Rel] at h ⊢
    cases hb : H id with
    | none => simp [hb] at h
    | some b =>
      obtain ⟨hp, b', hb', hle⟩ := he id b hb
      rw [hb] at h
      rw [hb', hp]
      cases b <;> cases b' <;> simp only [BlkLe] at hle <;> simp only at h ⊢
      · obtain ⟨rfl, hl⟩ := hle
        rw [hl]
        exact h
      · obtain ⟨_, b, cap, a, _, rfl, _⟩ := h; exact ⟨_, rfl⟩
      · exact h
  | .rp x, v, h => by
    simp only [Rel] at h ⊢
    obtain ⟨ad, u, h1, h2, h3⟩ := h
    exact ⟨ad, u, h1, Rel.mono he x u h2, h3⟩
  | .fn f l, v, h => by
    simp only [Rel] at h ⊢
    obtain ⟨cs, h1, h2⟩ := h
    exact ⟨cs, h1, RelL.mono he l cs h2⟩
  | .st l, v, h => by
    simp only [Rel] at h ⊢
    obtain ⟨cs, h1, h2⟩ := h
    exact ⟨cs, RelL.mono he l cs h1, h2⟩
  | .tup l, v, h => by
    simp only [Rel] at h ⊢
    obtain ⟨cs, h1, h2⟩ := h
    exact ⟨cs, RelL.mono he l cs h1, h2⟩
theorem RelL.mono {W : World} {φ φ' : Phi} {H H' : HeapF} (he : HExt φ H φ' H') : ∀ (l : List AV) (vs : List Value), RelL W φ H l vs → RelL W φ' H' l vs
  | [], [], _ => by simp [RelL]
  | x :: l, v :: vs, h => by
    simp only [RelL] at h ⊢
    exact ⟨Rel.mono he x v h.1, RelL.mono he l vs h.2⟩
  | [], _ :: _, h => by simp [RelL] at h
  | _ :: _, [], h => by simp [RelL] at h
end

theorem RelL.length {W : World} {φ : Phi} {H : HeapF} {l : List AV} {vs : List Value} (h : RelL W φ H l vs) : vs.length = l.length := by
  induction l generalizing vs with
  | nil => cases vs <;> simp_all [RelL]
  | cons x l ih =>
    cases vs with
    | nil => simp [RelL] at h
    | cons v vs => simp only [RelL] at h; simp [ih h.2]

theorem RelL.get {W : World} {φ : Phi} {H : HeapF} {l : List AV} {vs : List Value} (h : RelL W φ H l vs) {i : Nat} {x : AV} (hx : l[i]? = some x) :
    ∃ v, vs[i]? = some v ∧ Rel W φ H x v := by
  induction l generalizing vs i with
  | nil => simp at hx
  | cons y l ih =>
    cases vs with
    | nil => simp [RelL] at h
    | cons v vs =>
      simp only [RelL] at h
      cases i with
      | zero => simp at hx; subst hx; exact ⟨v, by simp, h.1⟩
      | succ i => simp at hx; obtain ⟨u, h1, h2⟩ := ih h.2 hx; exact ⟨u, by simpa using h1, h2⟩

theorem RelL.append {W : World} {φ : Phi} {H : HeapF} {l m : List AV} {vs us : List Value} (h : RelL W φ H l vs) (k : RelL W φ H m us) : RelL W φ H (l ++ m) (vs ++ us) := by
  induction l generalizing vs with
  | nil => cases vs <;> simp_all [RelL]
  | cons x l ih =>
    cases vs with
    | nil => simp [RelL] at h
    | cons v vs => simp only [RelL] at h; simp only [List.cons_append, RelL]; exact ⟨h.1, ih h.2⟩

theorem RelL.set {W : World} {φ : Phi} {H : HeapF} {l : List AV} {vs : List Value} (h : RelL W φ H l vs) {i : Nat} {x : AV} {v : Value} (hx : Rel W φ H x v) : RelL W φ H (l.set i x) (vs.set i v) := by
  induction l generalizing vs i with
  | nil => cases vs <;> simp_all [RelL]
  | cons y l ih =>
    cases vs with
    | nil => simp [RelL] at h
    | cons u vs =>
      simp only [RelL] at h
      cases i with
      | zero => simp only [List.set_cons_zero, RelL]; exact ⟨hx, h.2⟩
      | succ i => simp only [List.set_cons_succ, RelL]; exact ⟨h.1, ih h.2⟩

/-- The cells of a value that may stand in memory. -/
theorem Rel.one {W : World} {φ : Phi} {H : HeapF} {x : AV} {v : Value} (h : Rel W φ H x v) (hs : x.stays = true) (ha : x.isAgg = false) :
    v.cells = #[v] ∧ v.oneCell' = true := by
  cases x with
  | junk => simp [AV.stays] at hs
  | tup l => simp [AV.stays] at hs
  | st l => simp [AV.isAgg] at ha
  | p x =>
    simp only [Rel] at h
    obtain ⟨_, rfl⟩ := h
    simp only [AV.isAgg] at ha
    cases x <;> simp_all [PV.isAgg, PV.val, Value.cells, Value.oneCell']
  | nil => simp only [Rel] at h; subst h; simp [Value.cells, Value.oneCell']
  | nilf => simp only [Rel] at h; subst h; simp [Value.cells, Value.oneCell']
  | ro s l => simp only [Rel] at h; obtain ⟨a, c, rfl, _⟩ := h; simp [Value.cells, Value.oneCell']
  | roA l => simp only [Rel] at h; obtain ⟨a, c, _, rfl, _⟩ := h; simp [Value.cells, Value.oneCell']
  | rp x => simp only [Rel] at h; obtain ⟨a, c, rfl, _⟩ := h; simp [Value.cells, Value.oneCell']
  | fn f l => simp only [Rel] at h; obtain ⟨a, rfl, _⟩ := h; simp [Value.cells, Value.oneCell']
  | sl id off n =>
    simp only [Rel] at h
    split at h
    · obtain ⟨a, n, c, rfl⟩ := h; simp [Value.cells, Value.oneCell']
    · obtain ⟨_, h⟩ := h
      split at h
      · obtain ⟨rfl, _⟩ := h; simp [Value.cells, Value.oneCell']
      · obtain ⟨a, c, rfl, _⟩ := h; simp [Value.cells, Value.oneCell']
    · exact h.elim
  | own id =>
    simp only [Rel] at h
    split at h
    · obtain ⟨a, n, c, rfl⟩ := h; simp [Value.cells, Value.oneCell']
    · split at h
      · obtain ⟨rfl, _⟩ := h; simp [Value.cells, Value.oneCell']
      · obtain ⟨c, rfl, _⟩ := h; simp [Value.cells, Value.oneCell']
    · split at h
      · exact h.elim
      · obtain ⟨c, rfl, _⟩ := h; simp [Value.cells, Value.oneCell']
    · exact h.elim
  | sa id path off n =>
    simp only [Rel] at h
    split at h
    · obtain ⟨b, cap, o, k, s, a, c, _, _, _, _, rfl, _⟩ := h; simp [Value.cells, Value.oneCell']
    · exact h.elim
  | ptr id path =>
    simp only [Rel] at h
    split at h
    · obtain ⟨b, cap, o, _, _, rfl⟩ := h; simp [Value.cells, Value.oneCell']
    · exact h.elim
  | pe id i path =>
    simp only [Rel] at h
    split at h
    · obtain ⟨a, rfl⟩ := h; simp [Value.cells, Value.oneCell']
    · obtain ⟨b, cap, o, _, _, _, rfl⟩ := h; simp [Value.cells, Value.oneCell']
    · exact h.elim
  | pes id off n =>
    simp only [Rel] at h
    split at h
    · obtain ⟨a, rfl⟩ := h; simp [Value.cells, Value.oneCell']
    · obtain ⟨_, b, cap, a, _, rfl, _⟩ := h; simp [Value.cells, Value.oneCell']
    · exact h.elim

end Go.Proofs.Ytmngcmfcbfkimaa.AM
