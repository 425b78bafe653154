/- The abstract machine's operations are the model's: literals. -/
import Derived.Test.YtmngcmfcbfkimaaAm16
namespace Go.Proofs.Ytmngcmfcbfkimaa.AM
open Go Go.RowKit

variable {P : Program} {X : Ctx} {W : World} {φ : Phi} {H L : HeapF} {w : World} {ρ : Nat → AV} {a : Act}

theorem foldl_splice (off : Nat) : ∀ (ns : List Value) (k : Nat) (cells : Array Value) (pre old post : List Value), cells.toList = pre ++ (old ++ post) → pre.length = off + k → ns.length = old.length →
    ((ns.zipIdx k).foldl (fun cs (c, j) => cs.setIfInBounds (off + j) c) cells).toList = pre ++ (ns ++ post)
  | [], k, cells, pre, old, post, h1, h2, h3 => by
    have : old = [] := List.eq_nil_of_length_eq_zero (by simpa using h3.symm)
    subst this
    simpa using h1
  | c :: ns, k, cells, pre, old, post, h1, h2, h3 => by
    cases old with
    | nil => simp at h3
    | cons o old =>
      simp only [List.zipIdx_cons, List.foldl_cons]
      have hset : (cells.setIfInBounds (off + k) c).toList = (pre ++ [c]) ++ (old ++ post) := by
        rw [Array.toList_setIfInBounds, h1, ← h2]
        simp
      rw [foldl_splice off ns (k + 1) _ (pre ++ [c]) old post hset (by simp; omega) (by simpa using h3)]
      simp

theorem fill_cons {place : Nat → Option (Nat × Nat)} {cells : Array Value} {i : Nat} {v : Value} {rest : List (Nat × Value)} {pre old post : List Value} (hp : place i = some (pre.length, v.cells.size))
    (hc : cells.toList = pre ++ (old ++ post)) (hl : v.cells.size = old.length) :
    Instr.fill place cells ((i, v) :: rest) = Instr.fill place (pre ++ (v.cells.toList ++ post)).toArray rest := by
  have hsz : ¬ (pre.length + v.cells.size > cells.size) := by
    have : cells.size = cells.toList.length := rfl
    rw [this, hc]
    simp
    omega
  simp only [Instr.fill, hp]
  have hcond : (decide (v.cells.size ≠ v.cells.size) || decide (pre.length + v.cells.size > cells.size)) = false := by simp; simp at hsz; omega
  rw [if_neg (by simpa using hcond)]
  congr 1
  have := foldl_splice pre.length v.cells.toList 0 cells pre old post hc (by simp) (by simpa using hl)
  rw [← Array.toArray_toList (xs := (v.cells.zipIdx.foldl _ cells)), ← this]
  congr 2
  rw [← Array.foldl_toList, Array.toList_zipIdx]

/-- The parts of a literal and their values. -/
def RelP (W : World) (φ : Phi) (H : HeapF) : List (Nat × AV) → List (Nat × Value) → Prop
  | [], [] => True
  | (i, x) :: l, (j, v) :: vs => i = j ∧ Rel W φ H x v ∧ RelP W φ H l vs
  | _, _ => False

theorem fillP_ok {s : Sh} : ∀ {parts : List (Nat × AV)} {vals : List (Nat × Value)} {l m : List PV}, RelP W φ H parts vals → PV.okL l → PV.allSh s l → fillP l parts = some m →
    PV.okL m ∧ PV.allSh s m ∧ m.length = l.length ∧ Instr.fill (fun i => some (i * s.size, s.size)) (PV.cellsL l).toArray vals = some (PV.cellsL m).toArray
  | [], vals, l, m, hr, h1, h2, h => by
    cases vals with
    | nil => simp only [fillP, Option.some.injEq] at h; subst h; exact ⟨h1, h2, rfl, rfl⟩
    | cons v vs => simp [RelP] at hr
  | (i, x) :: parts, vals, l, m, hr, h1, h2, h => by
    cases vals with
    | nil => simp [RelP] at hr
    | cons v vs =>
      obtain ⟨j, v⟩ := v
      simp only [RelP] at hr
      obtain ⟨rfl, hx, hr⟩ := hr
      cases x <;> simp only [fillP] at h <;> try (cases h; done)
      rename_i x
      split at h
      · rename_i y hy
        split at h
        · rename_i hsh
          have hsh := Sh.eq_of_beq _ _ hsh
          simp only [Rel] at hx
          obtain ⟨hxok, rfl⟩ := hx
          have hys := allSh_get h2 hy
          have hxs : x.sh = s := hsh.symm.trans hys
          obtain ⟨k1, k2, k3, k4⟩ := fillP_ok hr (okL_set h1 hxok) (allSh_set h2 hxs) h
          refine ⟨k1, k2, by rw [k3, List.length_set], ?_⟩
          obtain ⟨c1, c2⟩ := cut_at hy
          have hlt := (List.getElem?_eq_some_iff.1 hy).1
          have hpre : (PV.cellsL (l.take i)).length = i * s.size := by
            rw [PV.cellsL_arr _ s (okL_take h1 i) (allSh_take h2 i), List.length_take, Nat.min_eq_left (by omega)]
          have hvsz : x.val.cells.size = s.size := by
            rw [PV.cells_val, List.size_toArray, PV.cells_length x hxok, hxs]
          rw [fill_cons (pre := PV.cellsL (l.take i)) (old := y.cells) (post := PV.cellsL (l.drop (i + 1))) (by rw [hpre, hvsz]) (by
            simp only
            conv => lhs; rw [c1]
            rw [PV.cellsL_append]
            rfl) (by rw [hvsz, PV.cells_length y (okL_get h1 hy), hys])]
          rw [← k4, c2 x, PV.cellsL_append]
          simp only [PV.cellsL, PV.cells_val_list]
        · cases h
      · cases h

theorem fillS_ok (hX : X.ok P) {t : Nat} {fields : Array Field} {places : Array (Nat × Nat)} (ht : P.underlying t = some (.struct fields))
    (hp : ∀ (f : Nat) (fld : Field) (d : TD), fields[f]? = some fld → X.at fld.type = some d → places[f]? = some (fld.offset, d.size)) :
    ∀ {parts : List (Nat × AV)} {vals : List (Nat × Value)} {l m : List PV}, RelP W φ H parts vals → PV.okL l → fillS X t l parts = some m →
      PV.okL m ∧ PV.shL m = PV.shL l ∧ Instr.fill (places[·]?) (PV.cellsL l).toArray vals = some (PV.cellsL m).toArray
  | [], vals, l, m, hr, h1, h => by
    cases vals with
    | nil => simp only [fillS, Option.some.injEq] at h; subst h; exact ⟨h1, rfl, rfl⟩
    | cons v vs => simp [RelP] at hr
  | (i, x) :: parts, vals, l, m, hr, h1, h => by
    cases vals with
    | nil => simp [RelP] at hr
    | cons v vs =>
      obtain ⟨j, v⟩ := v
      simp only [RelP] at hr
      obtain ⟨rfl, hx, hr⟩ := hr
      cases x <;> simp only [fillS] at h <;> try (cases h; done)
      rename_i x
      split at h
      · rename_i y hy
        split at h
        · rename_i hsh
          have hsh := Sh.eq_of_beq _ _ hsh
          simp only [Rel] at hx
          obtain ⟨hxok, rfl⟩ := hx
          have hstok : (PV.st l).ok := by simp only [PV.ok]; exact h1
          obtain ⟨_, fields', fld, d, f1, f2, f3, f4, f5, ⟨ls, f6, f7, f8⟩, _⟩ := partOf_ok hX (W := W) (φ := φ) (H := H) (Rel.plain hstok) rfl hy
          rw [ht] at f1
          cases f1
          have f6' : ls = PV.shL l := by
            have : (AV.p (.st l)).sh = .st (PV.shL l) := rfl
            rw [this] at f6
            cases f6
            rfl
          subst f6'
          -- the component itself
          obtain ⟨y0, hy0⟩ : ∃ y0, l[i]? = some y0 := by
            have hlt := (List.getElem?_eq_some_iff.1 f7).1
            rw [PV.shL_length] at hlt
            exact ⟨_, List.getElem?_eq_getElem hlt⟩
          have hys : y0.sh = x.sh := by
            have := Option.some.inj (f7.symm.trans (shL_get hy0))
            exact this.symm.trans hsh
          obtain ⟨k1, k2, k3⟩ := fillS_ok hX ht hp hr (okL_set h1 hxok) h
          refine ⟨k1, by rw [k2, shL_set hy0 hys.symm], ?_⟩
          obtain ⟨c1, c2⟩ := cut_at hy0
          have hpre : (PV.cellsL (l.take i)).length = fld.offset := by
            rw [PV.cellsL_st _ (okL_take h1 i), ← shL_take]
            exact f8
          have hvsz : x.val.cells.size = d.size := by
            rw [PV.cells_val, List.size_toArray, PV.cells_length x hxok]
            have := fits_size f4
            rw [← this]
            exact congrArg Sh.size hsh.symm
          rw [fill_cons (pre := PV.cellsL (l.take i)) (old := y0.cells) (post := PV.cellsL (l.drop (i + 1))) (by rw [hpre, hvsz]; exact hp i fld d f2 f3) (by
            simp only
            conv => lhs; rw [c1]
            rw [PV.cellsL_append]
            rfl) (by rw [PV.cells_val, List.size_toArray, PV.cells_length x hxok, PV.cells_length y0 (okL_get h1 hy0), hys])]
          rw [← k3, c2 x, PV.cellsL_append]
          simp only [PV.cellsL, PV.cells_val_list]
        · cases h
      · cases h

theorem AV.shL_length (l : List AV) : (AV.shL l).length = l.length := by
  induction l with
  | nil => rfl
  | cons x l ih => simp [AV.shL, ih]

theorem fillSA_ok (hX : X.ok P) {t : Nat} {fields : Array Field} {places : Array (Nat × Nat)} (ht : P.underlying t = some (.struct fields))
    (hp : ∀ (f : Nat) (fld : Field) (d : TD), fields[f]? = some fld → X.at fld.type = some d → places[f]? = some (fld.offset, d.size)) :
    ∀ {parts : List (Nat × AV)} {vals : List (Nat × Value)} {l m : List AV} {us : List Value}, RelP W φ H parts vals → RelL W φ H l us → (∀ x ∈ l, x.stays = true) → fillSA X t l parts = some m →
      ∃ us', RelL W φ H m us' ∧ (∀ x ∈ m, x.stays = true) ∧ Instr.fill (places[·]?) (us.flatMap fun u => u.cells.toList).toArray vals = some (us'.flatMap fun u => u.cells.toList).toArray
  | [], vals, l, m, us, hr, h1, h2, h => by
    cases vals with
    | nil => simp only [fillSA, Option.some.injEq] at h; subst h; exact ⟨us, h1, h2, rfl⟩
    | cons v vs => simp [RelP] at hr
  | (i, x) :: parts, vals, l, m, us, hr, h1, h2, h => by
    cases vals with
    | nil => simp [RelP] at hr
    | cons v vs =>
      obtain ⟨j, v⟩ := v
      simp only [RelP] at hr
      obtain ⟨rfl, hx, hr⟩ := hr
      simp only [fillSA] at h
      split at h
      · rename_i y hy
        split at h
        · rename_i hsh
          simp only [Bool.and_eq_true] at hsh
          have hxs := hsh.2
          have hsh := Sh.eq_of_beq _ _ hsh.1
          have hst : Rel W φ H (.st l) (.agg (us.flatMap fun u => u.cells.toList).toArray) := by
            unfold Rel
            exact ⟨us, h1, h2, rfl⟩
          obtain ⟨_, fields', fld, d, f1, f2, f3, f4, f5, ⟨ls, f6, f7, f8⟩, _⟩ := partOf_ok hX hst rfl hy
          rw [ht] at f1
          cases f1
          have f6' : ls = AV.shL l := by
            have : (AV.st l).sh = .st (AV.shL l) := rfl
            rw [this] at f6
            cases f6
            rfl
          subst f6'
          obtain ⟨y0, hy0⟩ : ∃ y0, l[i]? = some y0 := by
            have hlt := (List.getElem?_eq_some_iff.1 f7).1
            rw [AV.shL_length] at hlt
            exact ⟨_, List.getElem?_eq_getElem hlt⟩
          have hys : y0.sh = x.sh := by
            have := Option.some.inj (f7.symm.trans (AV.shL_get hy0))
            exact this.symm.trans hsh
          obtain ⟨u0, hu0, hru0⟩ := h1.get hy0
          have h2' : ∀ a ∈ l.set i x, a.stays = true := fun a ha => by
            rcases List.mem_or_eq_of_mem_set ha with ha | ha
            · exact h2 a ha
            · subst ha; exact hxs
          obtain ⟨us', k1, k2, k3⟩ := fillSA_ok hX ht hp hr (h1.set (i := i) hx) h2' h
          refine ⟨us', k1, k2, ?_⟩
          obtain ⟨c1, c2⟩ := cut_at hu0
          have hpre : ((us.take i).flatMap fun u => u.cells.toList).length = fld.offset := by
            rw [Rel.sizeL _ _ (h1.take i) (fun y hy => h2 y (List.mem_of_mem_take hy)), ← AV.shL_take]
            exact f8
          have hvsz : v.cells.size = d.size := by
            rw [Rel.size x v hx hxs]
            have := fits_size f4
            rw [← this]
            exact congrArg Sh.size hsh.symm
          rw [fill_cons (pre := (us.take i).flatMap fun u => u.cells.toList) (old := u0.cells.toList) (post := (us.drop (i + 1)).flatMap fun u => u.cells.toList) (by rw [hpre, hvsz]; exact hp i fld d f2 f3) (by
            simp only
            conv => lhs; rw [c1]
            simp) (by rw [Rel.size x v hx hxs, Array.length_toList, Rel.size y0 u0 hru0 (h2 y0 (List.mem_of_getElem? hy0)), hys])]
          rw [← k3, c2 v]
          simp
        · cases h
      · cases h

theorem fillA_ok : ∀ {parts : List (Nat × AV)} {vals : List (Nat × Value)} {l m : List AV} {us : List Value}, RelP W φ H parts vals → RelL W φ H l us → (∀ x ∈ l, x.isAgg = false ∧ x.stays = true) → fillA l parts = some m →
      ∃ us', RelL W φ H m us' ∧ m.length = l.length ∧ (∀ x ∈ m, x.isAgg = false ∧ x.stays = true) ∧ Instr.fill (fun i => some (i * 1, 1)) us.toArray vals = some us'.toArray
  | [], vals, l, m, us, hr, h1, h2, h => by
    cases vals with
    | nil => simp only [fillA, Option.some.injEq] at h; subst h; exact ⟨us, h1, rfl, h2, rfl⟩
    | cons v vs => simp [RelP] at hr
  | (i, x) :: parts, vals, l, m, us, hr, h1, h2, h => by
    cases vals with
    | nil => simp [RelP] at hr
    | cons v vs =>
      obtain ⟨j, v⟩ := v
      simp only [RelP] at hr
      obtain ⟨rfl, hx, hr⟩ := hr
      simp only [fillA] at h
      split at h
      · rename_i y hy
        split at h
        · rename_i hsh
          simp only [Bool.and_eq_true, Bool.not_eq_true'] at hsh
          have h2' : ∀ a ∈ l.set i x, a.isAgg = false ∧ a.stays = true := fun a ha => by
            rcases List.mem_or_eq_of_mem_set ha with ha | ha
            · exact h2 a ha
            · subst ha; exact hsh
          obtain ⟨us', k1, k4, k2, k3⟩ := fillA_ok hr (h1.set (i := i) hx) h2' h
          refine ⟨us', k1, by rw [k4, List.length_set], k2, ?_⟩
          obtain ⟨u0, hu0, hru0⟩ := h1.get hy
          obtain ⟨c1, c2⟩ := cut_at hu0
          have hlt := (List.getElem?_eq_some_iff.1 hu0).1
          have hone := (Rel.one hx hsh.2 hsh.1).1
          rw [fill_cons (pre := us.take i) (old := [u0]) (post := us.drop (i + 1)) (by rw [hone]; simp; omega) (by simp only; exact c1) (by rw [hone]; rfl)]
          rw [← k3, c2 v, hone]
          rfl
        · cases h
      · cases h

end Go.Proofs.Ytmngcmfcbfkimaa.AM
