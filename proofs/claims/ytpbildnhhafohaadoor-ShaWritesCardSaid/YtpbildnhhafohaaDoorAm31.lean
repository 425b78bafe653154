/- What comes in: a struct whose fields are plain data and slices of plain data. -/
import Derived.Test.YtpbildnhhafohaaDoorAmC
namespace Go.Proofs.YtpbildnhhafohaaDoor.AM
open Go Go.RowKit Go.ChangeShapes Go.WideShapes

/-- The form of a field. -/
inductive FS where
  | pl (s : Sh)
  | sl (s : Sh)

def FS.is : FS → AV → Prop
  | .pl s, x => ∃ y : PV, x = .p y ∧ y.sh = s ∧ y.ok ∧ y.wf
  | .sl s, x => ∃ l : List PV, x = .ro s l ∧ (∀ y ∈ l, y.sh = s ∧ y.ok ∧ y.wf) ∧ l.length ≤ maxLen
def FS.isL : List FS → List AV → Prop
  | [], [] => True
  | f :: l, x :: xs => f.is x ∧ FS.isL l xs
  | _, _ => False

def fieldsB (P : Program) (d : Nat) : Nat → List Field → List FS → Bool
  | _, [], [] => true
  | off, f :: fs, .pl s :: l => Nat.beq f.offset off && (Nat.beq (P.cellsOf f.type) s.size && (plainB P d f.type s && fieldsB P d (off + s.size) fs l))
  | off, f :: fs, .sl s :: l => Nat.beq f.offset off && (Nat.beq (P.cellsOf f.type) 1 && ((match P.underlying f.type with
      | some (.slice e) => plainB P d e s && Nat.beq (P.cellsOf e) s.size
      | _ => false) && fieldsB P d (off + 1) fs l))
  | _, _, _ => false
def FS.size : List FS → Nat
  | [] => 0
  | .pl s :: l => s.size + FS.size l
  | .sl _ :: l => 1 + FS.size l

section
variable {T : Type} {enc : TypeId × Value → T} {P : Program} {w : World} {base : Nat} {spare : Nat → Bool} {held : Bool}

theorem fields_ok {d m : Nat} : ∀ (off : Nat) (fs : List Field) (l : List FS) (cs : List Value), fieldsB P d off fs l = true → cs.length = off + FS.size l →
    (∀ (i : Nat) (f : Field), fs[i]? = some f → ∃ x, DataW.trod enc P w base spare held m f.type ((cs.drop f.offset).take (P.cellsOf f.type)) = some x) →
    ∃ (xs : List AV) (vs : List Value), FS.isL l xs ∧ RelL w noPhi noHeap xs vs ∧ (∀ x ∈ xs, x.stays = true) ∧ (vs.flatMap fun u => u.cells.toList) = cs.drop off
  | off, [], [], cs, _, hl, _ => ⟨[], [], trivial, by simp [RelL], by simp, by
    simp only [FS.size] at hl
    simp [List.drop_of_length_le (show cs.length ≤ off by omega)]⟩
  | off, f :: fs, .pl s :: l, cs, h, hl, hi => by
    simp only [fieldsB, Bool.and_eq_true] at h
    have ho := Nat.eq_of_beq_eq_true h.1
    have hz := Nat.eq_of_beq_eq_true h.2.1
    obtain ⟨x, hx⟩ := hi 0 f rfl
    rw [ho, hz] at hx
    simp only [FS.size] at hl
    obtain ⟨y, ⟨h1, h2, h3⟩, hyc⟩ := plain_ok d f.type s m _ _ h.2.2.1 hx
    obtain ⟨xs, vs, g1, g2, g3, g4⟩ := fields_ok (off + s.size) fs l cs h.2.2.2 (by omega) fun i f' hf => hi (i + 1) f' (by simpa using hf)
    refine ⟨.p y :: xs, y.val :: vs, ⟨⟨y, rfl, h1, h2, h3⟩, g1⟩, ⟨Rel.plain h2, g2⟩, fun z hz => ?_, ?_⟩
    · rcases List.mem_cons.1 hz with rfl | hz
      · rfl
      · exact g3 z hz
    · rw [List.flatMap_cons, g4, PV.cells_val_list, hyc, ← List.drop_drop, List.take_append_drop]
  | off, f :: fs, .sl s :: l, cs, h, hl, hi => by
    simp only [fieldsB, Bool.and_eq_true] at h
    have ho := Nat.eq_of_beq_eq_true h.1
    have hz := Nat.eq_of_beq_eq_true h.2.1
    obtain ⟨x, hx⟩ := hi 0 f rfl
    rw [ho, hz] at hx
    simp only [FS.size] at hl
    have hs := h.2.2.1
    split at hs
    · rename_i e hu
      simp only [Bool.and_eq_true] at hs
      obtain ⟨v, l', h1, h2, h3, h4⟩ := slice_ok hu hs.1 (Nat.eq_of_beq_eq_true hs.2) hx
      obtain ⟨xs, vs, g1, g2, g3, g4⟩ := fields_ok (off + 1) fs l cs h.2.2.2 (by omega) fun i f' hf => hi (i + 1) f' (by simpa using hf)
      refine ⟨.ro s l' :: xs, v :: vs, ⟨⟨l', rfl, h2, h3⟩, g1⟩, ⟨h4, g2⟩, fun z hz => ?_, ?_⟩
      · rcases List.mem_cons.1 hz with rfl | hz
        · rfl
        · exact g3 z hz
      · have hv : v.cells.toList = [v] := by
          simp only [Rel] at h4
          obtain ⟨a, c, rfl, _⟩ := h4
          rfl
        rw [List.flatMap_cons, g4, hv, ← h1, ← List.drop_drop, List.take_append_drop]
    · cases hs
  | _, [], .pl _ :: _, _, h, _, _ => by simp [fieldsB] at h
  | _, [], .sl _ :: _, _, h, _, _ => by simp [fieldsB] at h
  | _, _ :: _, [], _, h, _, _ => by simp [fieldsB] at h

/-- A struct. -/
theorem arg_st {r : Reach} {b0 d t : Nat} {fs : Array Field} {l : List FS} (hu : P.underlying t = some (.struct fs)) (hp : fieldsB P d 0 fs.toList l = true) (hc : P.cellsOf t = FS.size l) {v : Value} {dd : DataW T} {ps : List MemPlace} (hval : Value.okWide P w r b0 t v)
    (h : DataW.Trod enc P w base spare held t v dd ps) : ∃ xs : List AV, FS.isL l xs ∧ Rel w noPhi noHeap (.st xs) v := by
  simp only [Value.okWide, hu] at hval
  obtain ⟨cs, rfl, _⟩ := hval
  obtain ⟨fuel, hf⟩ := h
  simp only [Value.cells] at hf
  obtain ⟨xs, m, _, _, hl, hx, hi⟩ := DataW.trod_struct hu hf
  obtain ⟨ys, vs, g1, g2, g3, g4⟩ := fields_ok (T := T) (enc := enc) (base := base) (spare := spare) (held := held) (w := w) (m := m) (d := d) 0 fs.toList l cs.toList hp (by rw [hl, hc]; omega) fun i f hf => by
    have := hi i f (by simpa using hf)
    have hlt : i < fs.size := by
      have := (List.getElem?_eq_some_iff.1 hf).1
      simpa using this
    rw [List.getElem?_eq_getElem (by omega)] at this
    exact ⟨_, this⟩
  refine ⟨ys, g1, ?_⟩
  simp only [Rel]
  refine ⟨vs, g2, g3, ?_⟩
  rw [g4]
  simp
end
end Go.Proofs.YtpbildnhhafohaaDoor.AM
