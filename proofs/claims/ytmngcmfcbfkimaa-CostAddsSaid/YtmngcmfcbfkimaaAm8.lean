/- The abstract heap over the model's memory: how it is kept. -/
import Derived.Test.YtmngcmfcbfkimaaAm7
namespace Go.Proofs.Ytmngcmfcbfkimaa.AM
open Go Go.RowKit

theorem upd_same {α : Type} (f : Nat → α) (i : Nat) (v : α) : upd f i v i = v := by simp [upd]
theorem upd_ne {α : Type} (f : Nat → α) {i j : Nat} (v : α) (h : j ≠ i) : upd f i v j = f j := by simp [upd, h]

def BlkOK (W : World) (φ : Phi) (H : HeapF) (w : World) (id : Nat) : Blk → Prop
  | .dead => True
  | .var x => x.stays = true ∧ ∃ b c cs T v, φ id = some (b, c) ∧ w.heap[b]? = some (.cells cs T (0, 0)) ∧ Rel W φ H x v ∧ v.cells = cs
  | .els rw s l => PV.okL l ∧ PV.allSh s l ∧ match φ id with
    | none => l = []
    | some (b, cap) => ∃ cs T fr, w.heap[b]? = some (.cells cs T fr) ∧ cap * s.size ≤ cs.size ∧ l.length ≤ cap ∧ cap ≤ maxLen ∧
        cs.toList.take (PV.cellsL l).length = PV.cellsL l ∧ (rw = true → fr = (0, 0))
  | .elsA l => ∃ b cap cs T fr vs, φ id = some (b, cap) ∧ w.heap[b]? = some (.cells cs T fr) ∧ RelL W φ H l vs ∧ (∀ x ∈ l, x.isAgg = false ∧ x.stays = true) ∧
      cs.toList.take vs.length = vs

structure HSim (W : World) (φ : Phi) (H : HeapF) (w : World) : Prop where
  below : Below W.heap.size W w
  blk : ∀ id blk, H id = some blk → BlkOK W φ H w id blk
  ge : ∀ id blk b c, H id = some blk → φ id = some (b, c) → W.heap.size ≤ b
  dis : ∀ i j x y b c c', H i = some x → H j = some y → x ≠ .dead → y ≠ .dead → i ≠ j → φ i = some (b, c) → φ j = some (b, c') → False

theorem BlkOK.lt {W : World} {φ : Phi} {H : HeapF} {w : World} {id : Nat} {blk : Blk} (h : BlkOK W φ H w id blk) (hd : blk ≠ .dead) {b c : Nat} (hφ : φ id = some (b, c)) :
    b < w.heap.size := by
  cases blk with
  | dead => exact absurd rfl hd
  | var x =>
    obtain ⟨_, b', c', cs, T, v, h1, h2, _⟩ := h
    rw [hφ] at h1
    cases h1
    exact (Array.getElem?_eq_some_iff.1 h2).1
  | els rw s l =>
    obtain ⟨_, _, h⟩ := h
    rw [hφ] at h
    obtain ⟨cs, T, fr, h2, _⟩ := h
    exact (Array.getElem?_eq_some_iff.1 h2).1
  | elsA l =>
    obtain ⟨b', c', cs, T, fr, vs, h1, h2, _⟩ := h
    rw [hφ] at h1
    cases h1
    exact (Array.getElem?_eq_some_iff.1 h2).1

theorem BlkOK.keep {W : World} {φ φ' : Phi} {H H' : HeapF} {w w' : World} {id : Nat} {blk : Blk} (h : BlkOK W φ H w id blk) (he : HExt φ H φ' H') (hp : φ' id = φ id)
    (hw : blk ≠ .dead → ∀ b c, φ id = some (b, c) → w'.heap[b]? = w.heap[b]?) : BlkOK W φ' H' w' id blk := by
  cases blk with
  | dead => trivial
  | var x =>
    obtain ⟨h0, b, c, cs, T, v, h1, h2, h3, h4⟩ := h
    exact ⟨h0, b, c, cs, T, v, hp.trans h1, (hw (by simp) b c h1).trans h2, Rel.mono he _ _ h3, h4⟩
  | els rw s l =>
    obtain ⟨h1, h2, h⟩ := h
    refine ⟨h1, h2, ?_⟩
    rw [hp]
    cases hφ : φ id with
    | none => rw [hφ] at h; exact h
    | some p =>
      obtain ⟨b, c⟩ := p
      rw [hφ] at h
      obtain ⟨cs, T, fr, h3, h4⟩ := h
      exact ⟨cs, T, fr, (hw (by simp) b c hφ).trans h3, h4⟩
  | elsA l =>
    obtain ⟨b, c, cs, T, fr, vs, h1, h2, h3, h4⟩ := h
    exact ⟨b, c, cs, T, fr, vs, hp.trans h1, (hw (by simp) b c h1).trans h2, RelL.mono he _ _ h3, h4⟩

/-- The memory has gone on, and nothing that was there has turned. -/
theorem HSim.later {W : World} {φ : Phi} {H : HeapF} {w w' : World} (h : HSim W φ H w) (hb : Below w.heap.size w w') : HSim W φ H w' where
  below := h.below.trans (hb.mono h.below.size)
  blk := fun id blk hi => (h.blk id blk hi).keep (HExt.refl _ _) rfl (fun hd b _c hφ => hb.block b ((h.blk id blk hi).lt hd hφ))
  ge := h.ge
  dis := h.dis

theorem HSim.drew {W : World} {φ : Phi} {H : HeapF} {w : World} (h : HSim W φ H w) : HSim W φ H w.drew := h.later (Below.refl _ _).drew

/-- A new block. -/
theorem HSim.add {W : World} {φ : Phi} {H : HeapF} {w w' : World} {id : Nat} {blk : Blk} {pc : Option (Nat × Nat)} (h : HSim W φ H w) (hb : Below w.heap.size w w') (hn : H id = none)
    (hok : BlkOK W (upd φ id pc) (upd H id (some blk)) w' id blk) (hge : ∀ b c, pc = some (b, c) → w.heap.size ≤ b) :
    HSim W (upd φ id pc) (upd H id (some blk)) w' ∧ HExt φ H (upd φ id pc) (upd H id (some blk)) := by
  have he : HExt φ H (upd φ id pc) (upd H id (some blk)) := fun i x hx => by
    have hne : i ≠ id := fun e => by rw [e, hn] at hx; cases hx
    exact ⟨upd_ne _ _ hne, x, (upd_ne _ _ hne).trans hx, BlkLe.refl x⟩
  refine ⟨⟨h.below.trans (hb.mono h.below.size), fun i x hx => ?_, fun i x b c hx hφ => ?_, fun i j x y b c c' hx hy dx dy hij hi hj => ?_⟩, he⟩
  · by_cases hi : i = id
    · subst hi
      rw [upd_same] at hx
      cases hx
      exact hok
    · rw [upd_ne _ _ hi] at hx
      exact (h.blk i x hx).keep he (upd_ne _ _ hi) (fun hd b c hφ => hb.block b ((h.blk i x hx).lt hd hφ))
  · by_cases hi : i = id
    · subst hi
      rw [upd_same] at hφ
      exact Nat.le_trans h.below.size (hge b c hφ)
    · rw [upd_ne _ _ hi] at hx hφ
      exact h.ge i x b c hx hφ
  · by_cases hi' : i = id
    · subst hi'
      rw [upd_same] at hi
      have hj' : j ≠ i := fun e => hij e.symm
      rw [upd_ne _ _ hj'] at hy hj
      have h1 := (h.blk j y hy).lt dy hj
      have h2 := hge b c hi
      omega
    · rw [upd_ne _ _ hi'] at hx hi
      by_cases hj' : j = id
      · subst hj'
        rw [upd_same] at hj
        have h1 := (h.blk i x hx).lt dx hi
        have h2 := hge b c' hj
        omega
      · rw [upd_ne _ _ hj'] at hy hj
        exact h.dis i j x y b c c' hx hy dx dy hij hi hj

/-- A block is written. -/
theorem HSim.mod {W : World} {φ : Phi} {H : HeapF} {w w' : World} {id : Nat} {blk blk' : Blk} {b c : Nat} (h : HSim W φ H w) (hi : H id = some blk) (hd : blk ≠ .dead) (hφ : φ id = some (b, c))
    (hos : w'.os = w.os) (htape : w'.tape = w.tape) (hout : w'.output = w.output) (hsz : w'.heap.size = w.heap.size) (hoth : ∀ k, k ≠ b → w'.heap[k]? = w.heap[k]?)
    (hle : BlkLe blk blk') (hok : BlkOK W φ (upd H id (some blk')) w' id blk') :
    HSim W φ (upd H id (some blk')) w' ∧ HExt φ H φ (upd H id (some blk')) := by
  have he : HExt φ H φ (upd H id (some blk')) := fun i x hx => by
    refine ⟨rfl, ?_⟩
    by_cases hi' : i = id
    · subst hi'
      rw [hi] at hx
      cases hx
      exact ⟨blk', upd_same _ _ _, hle⟩
    · exact ⟨x, (upd_ne _ _ hi').trans hx, BlkLe.refl x⟩
  have hgeb := h.ge id blk b c hi hφ
  refine ⟨⟨h.below.trans ⟨hos, htape, hout, Nat.le_of_eq hsz.symm, fun k hk => hoth k (by omega)⟩, fun i x hx => ?_, fun i x b' c' hx hφ' => ?_, fun i j x y b' c1 c2 hx hy dx dy hij h1 h2 => ?_⟩, he⟩
  · by_cases hi' : i = id
    · subst hi'
      rw [upd_same] at hx
      cases hx
      exact hok
    · rw [upd_ne _ _ hi'] at hx
      refine (h.blk i x hx).keep he rfl (fun dx b' c' hφ' => hoth b' (fun e => ?_))
      subst e
      exact h.dis i id x blk b' c' c hx hi dx hd hi' hφ' hφ
  · by_cases hi' : i = id
    · subst hi'
      exact h.ge i blk b' c' hi hφ'
    · rw [upd_ne _ _ hi'] at hx
      exact h.ge i x b' c' hx hφ'
  · have old : ∀ i x, upd H id (some blk') i = some x → x ≠ .dead → ∃ x0, H i = some x0 ∧ x0 ≠ .dead := fun i x hx dx => by
      by_cases hi' : i = id
      · subst hi'; exact ⟨blk, hi, hd⟩
      · rw [upd_ne _ _ hi'] at hx; exact ⟨x, hx, dx⟩
    obtain ⟨x0, g1, g2⟩ := old i x hx dx
    obtain ⟨y0, g3, g4⟩ := old j y hy dy
    exact h.dis i j x0 y0 b' c1 c2 g1 g3 g2 g4 hij h1 h2

/-- A slice's block that nobody uses any more. -/
theorem HSim.kill {W : World} {φ : Phi} {H : HeapF} {w : World} {id : Nat} {blk : Blk} (h : HSim W φ H w) (hi : H id = some blk) (hle : BlkLe blk .dead) :
    HSim W φ (upd H id (some .dead)) w ∧ HExt φ H φ (upd H id (some .dead)) := by
  have he : HExt φ H φ (upd H id (some .dead)) := fun i x hx => by
    refine ⟨rfl, ?_⟩
    by_cases hi' : i = id
    · subst hi'
      rw [hi] at hx
      cases hx
      exact ⟨.dead, upd_same _ _ _, hle⟩
    · exact ⟨x, (upd_ne _ _ hi').trans hx, BlkLe.refl x⟩
  refine ⟨⟨h.below, fun i x hx => ?_, fun i x b' c' hx hφ' => ?_, fun i j x y b' c1 c2 hx hy dx dy hij h1 h2 => ?_⟩, he⟩
  · by_cases hi' : i = id
    · subst hi'
      rw [upd_same] at hx
      cases hx
      trivial
    · rw [upd_ne _ _ hi'] at hx
      exact (h.blk i x hx).keep he rfl (fun _ _ _ _ => rfl)
  · by_cases hi' : i = id
    · subst hi'
      exact h.ge i blk b' c' hi hφ'
    · rw [upd_ne _ _ hi'] at hx
      exact h.ge i x b' c' hx hφ'
  · have old : ∀ i x, upd H id (some .dead) i = some x → x ≠ .dead → H i = some x := fun i x hx dx => by
      by_cases hi' : i = id
      · subst hi'; rw [upd_same] at hx; cases hx; exact absurd rfl dx
      · rw [upd_ne _ _ hi'] at hx; exact hx
    exact h.dis i j x y b' c1 c2 (old i x hx dx) (old j y hy dy) dx dy hij h1 h2

/-- The cells of a whole variable. -/
theorem AddrAdd (b o j : Nat) : (⟨b, o, none⟩ : Addr).add j = ⟨b, o + j, none⟩ := by unfold Addr.add; split <;> simp_all

theorem addAdd (a : Addr) (n m : Nat) : (a.add n).add m = a.add (n + m) := by
  unfold Addr.add
  by_cases h1 : n = 0
  · subst h1; simp
  · by_cases h2 : m = 0
    · subst h2; simp
    · rw [if_neg h1, if_neg h2, if_neg (by omega)]
      simp [Nat.add_assoc]

theorem RowAt.part {W : World} {a : Addr} {pre cs post : List Value} (h : RowAt W a (pre ++ (cs ++ post))) : RowAt W (a.add pre.length) cs := fun j c hj => by
  rw [addAdd]
  refine h (pre.length + j) c ?_
  rw [List.getElem?_append_right (by omega), Nat.add_sub_cancel_left, List.getElem?_append_left (List.getElem?_eq_some_iff.1 hj).1]
  exact hj

theorem RowAt.later {W w : World} {a : Addr} {cs : List Value} (h : RowAt W a cs) (hb : Below W.heap.size W w) : RowAt w a cs := fun j c hj => by
  have := h j c hj
  rw [hb.cell (World.block_lt_of_cell? _ _ this)]
  exact this

theorem rowOfBlock {w : World} {b : Nat} {cs : Array Value} {T : TypeId} {fr : Nat × Nat} (h : w.heap[b]? = some (.cells cs T fr)) : RowAt w ⟨b, 0, none⟩ cs.toList := fun j c hj => by
  rw [AddrAdd, Nat.zero_add, cell_of_row w b j cs T fr h]
  simpa using hj

end Go.Proofs.Ytmngcmfcbfkimaa.AM
