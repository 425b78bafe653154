/- Plain data and its cells: laws. -/
import Derived.Test.YtmngcmfcbfkimaaAm5
namespace Go.Proofs.Ytmngcmfcbfkimaa.AM
open Go

theorem PV.cellsL_append (l m : List PV) : PV.cellsL (l ++ m) = PV.cellsL l ++ PV.cellsL m := by
  induction l with
  | nil => simp [PV.cellsL]
  | cons x l ih => simp [PV.cellsL, ih]

theorem PV.okL_append (l m : List PV) : PV.okL (l ++ m) ↔ PV.okL l ∧ PV.okL m := by
  induction l with
  | nil => simp [PV.okL]
  | cons x l ih => simp [PV.okL, ih, and_assoc]

theorem PV.allSh_append (s : Sh) (l m : List PV) : PV.allSh s (l ++ m) ↔ PV.allSh s l ∧ PV.allSh s m := by
  induction l with
  | nil => simp [PV.allSh]
  | cons x l ih => simp [PV.allSh, ih, and_assoc]

theorem PV.shL_append (l m : List PV) : PV.shL (l ++ m) = PV.shL l ++ PV.shL m := by
  induction l with
  | nil => simp [PV.shL]
  | cons x l ih => simp [PV.shL, ih]

theorem PV.shL_length (l : List PV) : (PV.shL l).length = l.length := by
  induction l with
  | nil => rfl
  | cons x l ih => simp [PV.shL, ih]

theorem Sh.sizeL_append (l m : List Sh) : Sh.sizeL (l ++ m) = Sh.sizeL l + Sh.sizeL m := by
  induction l with
  | nil => simp [Sh.sizeL]
  | cons x l ih => simp [Sh.sizeL, ih, Nat.add_assoc]

mutual
theorem PV.cells_length : ∀ (x : PV), x.ok → x.cells.length = x.sh.size
  | .i _ _, _ => by simp [PV.cells, PV.sh, Sh.size]
  | .b _, _ => by simp [PV.cells, PV.sh, Sh.size]
  | .str _, _ => by simp [PV.cells, PV.sh, Sh.size]
  | .arr n s l, h => by
    simp only [PV.ok] at h
    obtain ⟨h1, h2, h3⟩ := h
    simp only [PV.cells, PV.sh, Sh.size]
    rw [PV.cellsL_arr l s h2 h3, h1]
  | .st l, h => by
    simp only [PV.ok] at h
    simp only [PV.cells, PV.sh, Sh.size]
    exact PV.cellsL_st l h
theorem PV.cellsL_st : ∀ (l : List PV), PV.okL l → (PV.cellsL l).length = Sh.sizeL (PV.shL l)
  | [], _ => by simp [PV.cellsL, PV.shL, Sh.sizeL]
  | x :: l, h => by
    simp only [PV.okL] at h
    simp only [PV.cellsL, PV.shL, Sh.sizeL, List.length_append]
    rw [PV.cells_length x h.1, PV.cellsL_st l h.2]
theorem PV.cellsL_arr : ∀ (l : List PV) (s : Sh), PV.okL l → PV.allSh s l → (PV.cellsL l).length = l.length * s.size
  | [], s, _, _ => by simp [PV.cellsL]
  | x :: l, s, h, h' => by
    simp only [PV.okL] at h
    simp only [PV.allSh] at h'
    simp only [PV.cellsL, List.length_append, List.length_cons]
    rw [PV.cells_length x h.1, PV.cellsL_arr l s h.2 h'.2, h'.1, Nat.add_mul, Nat.one_mul, Nat.add_comm]
end

theorem PV.cells_val (x : PV) : x.val.cells = x.cells.toArray := by
  cases x <;> simp [PV.val, Value.cells, PV.cells]

theorem PV.cells_val_list (x : PV) : x.val.cells.toList = x.cells := by rw [PV.cells_val]

theorem PV.val_agg (x : PV) (h : x.isAgg = true) : x.val = .agg x.cells.toArray := by
  cases x <;> simp_all [PV.val, PV.isAgg, PV.cells]

theorem PV.cells_one (x : PV) (h : x.isAgg = false) : x.cells = [x.val] := by
  cases x <;> simp_all [PV.val, PV.isAgg, PV.cells]

theorem okL_get {l : List PV} (h : PV.okL l) {i : Nat} {x : PV} (hx : l[i]? = some x) : x.ok := by
  induction l generalizing i with
  | nil => simp at hx
  | cons y l ih =>
    simp only [PV.okL] at h
    cases i with
    | zero => simp at hx; subst hx; exact h.1
    | succ i => simp at hx; exact ih h.2 hx

theorem allSh_get {s : Sh} {l : List PV} (h : PV.allSh s l) {i : Nat} {x : PV} (hx : l[i]? = some x) : x.sh = s := by
  induction l generalizing i with
  | nil => simp at hx
  | cons y l ih =>
    simp only [PV.allSh] at h
    cases i with
    | zero => simp at hx; subst hx; exact h.1
    | succ i => simp at hx; exact ih h.2 hx

/-- A list, cut at a place. -/
theorem cut_at {α : Type} {l : List α} {i : Nat} {x : α} (hx : l[i]? = some x) : l = l.take i ++ x :: l.drop (i + 1) ∧ ∀ y, l.set i y = l.take i ++ y :: l.drop (i + 1) := by
  obtain ⟨hlt, hget⟩ := List.getElem?_eq_some_iff.1 hx
  refine ⟨?_, fun y => List.set_eq_take_append_cons_drop .. |>.trans (by rw [if_pos hlt])⟩
  have h1 : l = l.take i ++ l.drop i := (List.take_append_drop i l).symm
  rw [List.drop_eq_getElem_cons hlt, hget] at h1
  exact h1

/-- Where a place lies: by the shape alone. -/
def offS : Sh → List Nat → Option Nat
  | _, [] => some 0
  | .st l, f :: r => match l[f]? with
    | some s => match offS s r with
      | some o => some (Sh.sizeL (l.take f) + o)
      | none => none
    | none => none
  | .arr n s, i :: r => if i < n then match offS s r with
      | some o => some (i * s.size + o)
      | none => none
    else none
  | .one, _ :: _ => none
  | .int _, _ :: _ => none
  | .bool, _ :: _ => none

/-- The shape at a place. -/
def shS : Sh → List Nat → Option Sh
  | s, [] => some s
  | .st l, f :: r => match l[f]? with
    | some s => shS s r
    | none => none
  | .arr n s, i :: r => if i < n then shS s r else none
  | .one, _ :: _ => none
  | .int _, _ :: _ => none
  | .bool, _ :: _ => none

theorem shL_get {l : List PV} {f : Nat} {x : PV} (h : l[f]? = some x) : (PV.shL l)[f]? = some x.sh := by
  induction l generalizing f with
  | nil => simp at h
  | cons y l ih =>
    cases f with
    | zero => simp at h; subst h; simp [PV.shL]
    | succ f => simp at h; simp [PV.shL, ih h]

theorem shL_take (l : List PV) (f : Nat) : (PV.shL l).take f = PV.shL (l.take f) := by
  induction l generalizing f with
  | nil => simp [PV.shL]
  | cons y l ih =>
    cases f with
    | zero => simp [PV.shL]
    | succ f => simp [PV.shL, ih]

theorem shL_set {l : List PV} {f : Nat} {x y : PV} (h : l[f]? = some x) (hs : y.sh = x.sh) : PV.shL (l.set f y) = PV.shL l := by
  induction l generalizing f with
  | nil => simp
  | cons z l ih =>
    cases f with
    | zero => simp at h; subst h; simp [PV.shL, hs]
    | succ f => simp at h; simp [PV.shL, ih h]

theorem okL_set {l : List PV} {f : Nat} {y : PV} (h : PV.okL l) (hy : y.ok) : PV.okL (l.set f y) := by
  induction l generalizing f with
  | nil => simp [PV.okL]
  | cons z l ih =>
    simp only [PV.okL] at h
    cases f with
    | zero => simp [PV.okL, hy, h.2]
    | succ f => simp [PV.okL, h.1, ih h.2]

theorem allSh_set {s : Sh} {l : List PV} {f : Nat} {y : PV} (h : PV.allSh s l) (hy : y.sh = s) : PV.allSh s (l.set f y) := by
  induction l generalizing f with
  | nil => simp [PV.allSh]
  | cons z l ih =>
    simp only [PV.allSh] at h
    cases f with
    | zero => simp [PV.allSh, hy, h.2]
    | succ f => simp [PV.allSh, h.1, ih h.2]

theorem okL_take {l : List PV} (h : PV.okL l) (n : Nat) : PV.okL (l.take n) := by
  have := (PV.okL_append (l.take n) (l.drop n)).1 (by rw [List.take_append_drop]; exact h)
  exact this.1
theorem okL_drop {l : List PV} (h : PV.okL l) (n : Nat) : PV.okL (l.drop n) := by
  have := (PV.okL_append (l.take n) (l.drop n)).1 (by rw [List.take_append_drop]; exact h)
  exact this.2
theorem allSh_take {s : Sh} {l : List PV} (h : PV.allSh s l) (n : Nat) : PV.allSh s (l.take n) := by
  have := (PV.allSh_append s (l.take n) (l.drop n)).1 (by rw [List.take_append_drop]; exact h)
  exact this.1
theorem allSh_drop {s : Sh} {l : List PV} (h : PV.allSh s l) (n : Nat) : PV.allSh s (l.drop n) := by
  have := (PV.allSh_append s (l.take n) (l.drop n)).1 (by rw [List.take_append_drop]; exact h)
  exact this.2

theorem okL_replicate {x : PV} (h : x.ok) (n : Nat) : PV.okL (List.replicate n x) := by
  induction n with
  | zero => simp [PV.okL]
  | succ n ih => simp [List.replicate_succ, PV.okL, h, ih]
theorem allSh_replicate (x : PV) (n : Nat) : PV.allSh x.sh (List.replicate n x) := by
  induction n with
  | zero => simp [PV.allSh]
  | succ n ih => simp [List.replicate_succ, PV.allSh, ih]

/-- A place in a piece of data: where its cells lie, and what another value there makes of the whole. -/
theorem nav_spec : ∀ (path : List Nat) (x y : PV), x.ok → nav x path = some y →
    y.ok ∧ shS x.sh path = some y.sh ∧ ∃ o pre post, offS x.sh path = some o ∧ pre.length = o ∧ x.cells = pre ++ (y.cells ++ post) ∧
      ∀ v z, v.ok → v.sh = y.sh → setP x path v = some z → z.ok ∧ z.sh = x.sh ∧ z.cells = pre ++ (v.cells ++ post)
  | [], x, y, hx, h => by
    cases x <;> simp only [nav, Option.some.injEq] at h <;> subst h <;>
      refine ⟨hx, rfl, 0, [], [], rfl, rfl, by simp, ?_⟩ <;> intro v z hv hs hz <;> simp only [setP, Option.some.injEq] at hz <;> subst hz <;>
      exact ⟨hv, hs, by simp⟩
  | f :: r, .st l, y, hx, h => by
    simp only [nav] at h
    cases hl : l[f]? with
    | none => simp [hl] at h
    | some x =>
      simp only [hl] at h
      simp only [PV.ok] at hx
      obtain ⟨h1, h2, o, pre, post, h3, h4, h5, h6⟩ := nav_spec r x y (okL_get hx hl) h
      obtain ⟨c1, c2⟩ := cut_at hl
      refine ⟨h1, by simp [shS, PV.sh, shL_get hl, h2], Sh.sizeL ((PV.shL l).take f) + o, PV.cellsL (l.take f) ++ pre, post ++ PV.cellsL (l.drop (f + 1)), ?_, ?_, ?_, ?_⟩
      · simp [offS, PV.sh, shL_get hl, h3]
      · rw [List.length_append, h4, shL_take, PV.cellsL_st _ (okL_take hx f)]
      · simp only [PV.cells]
        conv => lhs; rw [c1]
        simp [PV.cellsL_append, PV.cellsL, h5]
      · intro v z hv hs hz
        simp only [setP, hl] at hz
        cases hz' : setP x r v with
        | none => simp [hz'] at hz
        | some x' =>
          simp only [hz', Option.some.injEq] at hz
          subst hz
          obtain ⟨g1, g2, g3⟩ := h6 v x' hv hs hz'
          refine ⟨by simp only [PV.ok]; exact okL_set hx g1, by simp [PV.sh, shL_set hl g2], ?_⟩
          simp only [PV.cells]
          rw [c2 x']
          simp [PV.cellsL_append, PV.cellsL, g3]
  | f :: r, .arr n s l, y, hx, h => by
    simp only [nav] at h
    cases hl : l[f]? with
    | none => simp [hl] at h
    | some x =>
      simp only [hl] at h
      simp only [PV.ok] at hx
      obtain ⟨hx1, hx2, hx3⟩ := hx
      have hsx := allSh_get hx3 hl
      have hlt : f < n := by rw [← hx1]; exact (List.getElem?_eq_some_iff.1 hl).1
      obtain ⟨h1, h2, o, pre, post, h3, h4, h5, h6⟩ := nav_spec r x y (okL_get hx2 hl) h
      obtain ⟨c1, c2⟩ := cut_at hl
      rw [hsx] at h2 h3
      refine ⟨h1, by simp [shS, PV.sh, hlt, h2], f * s.size + o, PV.cellsL (l.take f) ++ pre, post ++ PV.cellsL (l.drop (f + 1)), ?_, ?_, ?_, ?_⟩
      · simp [offS, PV.sh, hlt, h3]
      · rw [List.length_append, h4, PV.cellsL_arr _ s (okL_take hx2 f) (allSh_take hx3 f), List.length_take, Nat.min_eq_left (by omega)]
      · simp only [PV.cells]
        conv => lhs; rw [c1]
        simp [PV.cellsL_append, PV.cellsL, h5]
      · intro v z hv hs hz
        simp only [setP, hl] at hz
        cases hz' : setP x r v with
        | none => simp [hz'] at hz
        | some x' =>
          simp only [hz', Option.some.injEq] at hz
          subst hz
          obtain ⟨g1, g2, g3⟩ := h6 v x' hv hs hz'
          refine ⟨by simp only [PV.ok]; exact ⟨by simp [hx1], okL_set hx2 g1, allSh_set hx3 (g2.trans hsx)⟩, by simp [PV.sh], ?_⟩
          simp only [PV.cells]
          rw [c2 x']
          simp [PV.cellsL_append, PV.cellsL, g3]
  | _ :: _, .i _ _, _, _, h => by simp [nav] at h
  | _ :: _, .b _, _, _, h => by simp [nav] at h
  | _ :: _, .str _, _, _, h => by simp [nav] at h

end Go.Proofs.Ytmngcmfcbfkimaa.AM
