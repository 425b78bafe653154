/- The abstract machine's operations are the model's: reading and writing. -/
import Derived.Test.YtmngcmfcbfkimaaAm9
namespace Go.Proofs.Ytmngcmfcbfkimaa.AM
open Go Go.RowKit

variable {P : Program} {X : Ctx} {W : World} {φ : Phi} {H L : HeapF} {w : World} {ρ : Nat → AV} {a : Act}

def EnvOK (W : World) (φ : Phi) (H : HeapF) (ρ : Nat → AV) (a : Act) : Prop := ∀ t, Rel W φ H (ρ t) (a.tmps.getD t undef)

theorem EnvOK.mono {φ' : Phi} {H' : HeapF} (h : EnvOK W φ H ρ a) (he : HExt φ H φ' H') : EnvOK W φ' H' ρ a := fun t => Rel.mono he _ _ (h t)

theorem globAt_ok {G : Globs} (hG : GlobOK W G) (g : Nat) : Rel W φ H (globAt G g) (.pointer (some ⟨g, 0, none⟩)) := by
  induction G with
  | nil => simp [globAt, Rel]
  | cons e G ih =>
    obtain ⟨h, x⟩ := e
    simp only [globAt]
    cases hb : Nat.beq h g with
    | false => exact ih fun g' x' hm => hG g' x' (by simp [hm])
    | true =>
      have := Nat.eq_of_beq_eq_true hb
      subst this
      obtain ⟨h1, h2⟩ := hG h x (by simp)
      simp only
      unfold Rel
      exact ⟨⟨h, 0, none⟩, x.val, rfl, Rel.plain h1, rfl, by rw [PV.cells_val_list]; exact h2⟩

theorem ev_ok {G : Globs} (hG : GlobOK W G) (he : EnvOK W φ H ρ a) (x : Operand) : Rel W φ H (ev G ρ x) (a.eval x) := by
  cases x with
  | tmp t => exact he t
  | global g => exact globAt_ok hG g
  | func f => simp only [ev, Act.eval]; unfold Rel; exact ⟨[], rfl, by simp [RelL]⟩
  | const v =>
    simp only [ev, Act.eval]
    unfold ofConst
    split <;> (unfold Rel; first | exact ⟨trivial, rfl⟩ | rfl | trivial)

def SubH (L H : HeapF) : Prop := ∀ id b, L id = some b → H id = some b

/-- A value is read out of memory. -/
theorem load_row {t : Nat} {d : TD} {ad : Addr} {y : AV} {u : Value} (hd : TDok P t d) (hy : Rel W φ H y u) (hs : y.stays = true) (hf : fits d y = true)
    (hrow : RowAt w ad u.cells.toList) : (loadVar t ad).run P w = .ok u w := by
  simp only [fits, Bool.and_eq_true, beq_iff_eq] at hf
  have hsz := Nat.eq_of_beq_eq_true hf.2
  have hlen := Rel.size y u hy hs
  unfold loadVar
  simp only [Sem.run_bind, hd.agg, Result.andThen_ok, Sem.run_ite, hd.sizeOf]
  rcases Rel.cases hy hs with ⟨ha, hu⟩ | ⟨ha, hu⟩
  · rw [← hf.1, ha, if_pos rfl]
    have hl := run_loadCells_list (P := P) w ad u.cells.toList hrow
    rw [Array.length_toList, hlen, hsz] at hl
    rw [hl]
    simp only [Result.andThen_ok, Sem.run_pure]
    rw [Array.toArray_toList]
    exact congrArg (fun x => Result.ok x w) hu.symm
  · rw [← hf.1, ha, if_neg (by simp)]
    have h0 := hrow 0 u (by rw [hu]; rfl)
    have : ad.add 0 = ad := by simp [Addr.add]
    rw [this] at h0
    simp [h0]

/-- A value is written into a block. -/
theorem store_row {t : Nat} {d : TD} {b : Nat} {cs : Array Value} {T : TypeId} {pre old post : List Value} {u : Value} (hd : TDok P t d) (hsz : u.cells.size = d.size)
    (hg : w.heap[b]? = some (.cells cs T (0, 0))) (hcs : cs.toList = pre ++ (old ++ post)) (hlen : u.cells.size = old.length) (h1 : ∀ c ∈ u.cells.toList, c.oneCell' = true) :
    (storeVar t ⟨b, pre.length, none⟩ u).run P w = .ok () (w.setRow b (pre ++ (u.cells.toList ++ post)).toArray) := by
  unfold storeVar
  have hne : ¬ (u.cells.size ≠ d.size) := by simp [hsz]
  have hsize : cs.size = pre.length + (old.length + post.length) := by rw [← Array.length_toList, hcs]; simp
  have hst := run_storeCells_at P b pre.length T u.cells.toList 0 cs w hg (by simp; omega) h1
  simp only [Nat.add_zero] at hst
  simp only [Sem.run_bind, hd.sizeOf, Result.andThen_ok, Sem.run_ite, if_neg hne]
  have hlen' : u.cells.toList.length = old.length := by rw [Array.length_toList]; exact hlen
  rw [hst, hcs, hlen']
  congr 3
  rw [List.take_left' rfl, ← List.append_assoc pre old post, List.drop_left' (by simp), List.append_assoc]

theorem RowAt.of_block {b : Nat} {cs : Array Value} {T : TypeId} {fr : Nat × Nat} (h : w.heap[b]? = some (.cells cs T fr)) {pre mid post : List Value} (hcs : cs.toList = pre ++ (mid ++ post)) :
    RowAt w ⟨b, pre.length, none⟩ mid := by
  have := rowOfBlock h
  rw [hcs] at this
  have := this.part
  rwa [AddrAdd, Nat.zero_add] at this

/-- The elements of a block of the function's own: where one of them lies. -/
theorem els_at {b : Nat} {cs : Array Value} {T : TypeId} {fr : Nat × Nat} {l : List PV} {s : Sh} (hb : w.heap[b]? = some (.cells cs T fr)) (hcs : cs.toList.take (PV.cellsL l).length = PV.cellsL l)
    (hok : PV.okL l) (hsh : PV.allSh s l) {off n : Nat} (hn : off + n ≤ l.length) : RowAt w ⟨b, off * s.size, none⟩ (PV.cellsL ((l.drop off).take n)) := by
  have h1 : PV.cellsL l = PV.cellsL (l.take off) ++ (PV.cellsL ((l.drop off).take n) ++ PV.cellsL ((l.drop off).drop n)) := by
    rw [← PV.cellsL_append, ← PV.cellsL_append, List.take_append_drop, List.take_append_drop]
  have h2 : cs.toList = PV.cellsL (l.take off) ++ (PV.cellsL ((l.drop off).take n) ++ (PV.cellsL ((l.drop off).drop n) ++ cs.toList.drop (PV.cellsL l).length)) := by
    have h3 := (List.take_append_drop (PV.cellsL l).length cs.toList).symm
    rw [hcs] at h3
    conv => lhs; rw [h3]
    conv => lhs; lhs; rw [h1]
    simp only [List.append_assoc]
  have h4 := RowAt.of_block hb h2
  rwa [PV.cellsL_arr _ s (okL_take hok off) (allSh_take hsh off), List.length_take, Nat.min_eq_left (by omega)] at h4

theorem isArr_ok (hX : X.ok P) {t n : Nat} (h : isArr X t n = true) : ∃ e, P.underlying t = some (.array n e) ∧ ∃ d, X.at t = some d ∧ d.kind = .arr n e := by
  unfold isArr at h
  split at h
  · rename_i m e a b c z hd
    have := Nat.eq_of_beq_eq_true h
    subst this
    exact ⟨e, (hX t _ hd).kind.1, _, hd, rfl⟩
  · cases h

theorem isSlice_ok (hX : X.ok P) {t : Nat} (h : isSlice X t = true) : ∃ e, P.underlying t = some (.slice e) ∧ ∃ d, X.at t = some d ∧ d.kind = .slice e := by
  unfold isSlice at h
  split at h
  · rename_i e a b c z hd
    exact ⟨e, (hX t _ hd).kind, _, hd, rfl⟩
  · cases h

/-- The size of the elements of an array's or a slice's type. -/
theorem elemOK_ok (hX : X.ok P) {t : Nat} {s : Sh} (h : elemOK X t s = true) {e : Nat} (he : (∃ n, P.underlying t = some (.array n e)) ∨ P.underlying t = some (.slice e)) (w : World) :
    (Go.sizeOf e).run P w = .ok s.size w := by
  unfold elemOK at h
  split at h
  · rename_i m e' a b c z hd
    have hk := (hX t _ hd).kind.1
    have hee : e' = e := by
      rcases he with ⟨n, he⟩ | he <;> rw [he] at hk <;> cases hk
      rfl
    subst hee
    split at h
    · rename_i d hd'
      have := Nat.eq_of_beq_eq_true h
      rw [← this]
      exact (hX e' d hd').sizeOf w
    · cases h
  · rename_i e' a b c z hd
    have hk := (hX t _ hd).kind
    have hee : e' = e := by
      rcases he with ⟨n, he⟩ | he <;> simp only [KindOK] at hk <;> rw [he] at hk <;> cases hk
      rfl
    subst hee
    split at h
    · rename_i d hd'
      have := Nat.eq_of_beq_eq_true h
      rw [← this]
      exact (hX e' d hd').sizeOf w
    · cases h
  · cases h

theorem peek_ok (hS : HSim W φ H w) (hL : SubH L H) {t : Nat} {x y : AV} {v : Value} (hr : Rel W φ H x v) (h : peekV X L t x = some y) :
    y.stays = true ∧ ∃ ad u, v = .pointer (some ad) ∧ Rel W φ H y u ∧ RowAt w ad u.cells.toList := by
  cases x <;> simp only [peekV] at h <;> try (cases h; done)
  case ptr id path =>
    split at h
    · rename_i x hx
      have hH := hL _ _ hx
      obtain ⟨hst, b, c, cs, T, vx, h1, h2, h3, h4⟩ := hS.blk _ _ hH
      obtain ⟨g1, g2, u, o, pre, post, g3, g4, g5, g6, _⟩ := navA_spec path x y vx h3 hst h
      simp only [Rel, hH] at hr
      obtain ⟨b', cap, o', r1, r2, rfl⟩ := hr
      rw [h1] at r1
      cases r1
      rw [g4] at r2
      cases r2
      subst g5
      refine ⟨g1, _, u, rfl, g3, ?_⟩
      subst h4
      exact RowAt.of_block h2 g6
    · cases h
  case pe id i path =>
    split at h
    · rename_i rw_ s l hx
      have hH := hL _ _ hx
      split at h
      · rename_i x hi
        split at h
        · rename_i y0 hn
          cases h
          simp only [Rel, hH] at hr
          obtain ⟨b, cap, o', r1, r2, r3, rfl⟩ := hr
          obtain ⟨h1, h2, h3⟩ := hS.blk _ _ hH
          rw [r1] at h3
          obtain ⟨cs, T, fr, h4, h5, h6, h7, h8, h9⟩ := h3
          have hx1 := okL_get h1 hi
          have hx2 := allSh_get h2 hi
          obtain ⟨g1, g2, o, pre, post, g3, g4, g5, _⟩ := nav_spec path x y0 hx1 hn
          rw [hx2, r3] at g3
          cases g3
          refine ⟨rfl, _, y0.val, rfl, Rel.plain g1, ?_⟩
          have hrow := els_at h4 h8 h1 h2 (off := i) (n := 1) (by omega)
          have hone : (l.drop i).take 1 = [x] := by
            rw [List.drop_eq_getElem_cons r2, List.take_succ_cons, List.take_zero]
            congr 1
            have := (List.getElem?_eq_some_iff.1 hi).2
            exact this
          rw [hone] at hrow
          simp only [PV.cellsL, List.append_nil, g5] at hrow
          have := hrow.part
          rw [AddrAdd, g4] at this
          rw [PV.cells_val_list]
          exact this
        · cases h
      · cases h
    · cases h
  case pes id off n =>
    split at h
    · rename_i rw_ s l hx
      have hH := hL _ _ hx
      split at h
      · cases h
        simp only [Rel, hH] at hr
        obtain ⟨r1, b, cap, ad, r2, rfl, r3⟩ := hr
        obtain ⟨h1, h2, h3⟩ := hS.blk _ _ hH
        rw [r2] at h3
        obtain ⟨cs, T, fr, h4, h5, h6, h7, h8, h9⟩ := h3
        have hok : (PV.arr n s ((l.drop off).take n)).ok := by
          simp only [PV.ok]
          exact ⟨by simp; omega, okL_take (okL_drop h1 off) n, allSh_take (allSh_drop h2 off) n⟩
        refine ⟨rfl, ad, _, rfl, Rel.plain hok, ?_⟩
        rw [PV.cells_val_list]
        simp only [PV.cells]
        rcases r3 with rfl | rfl
        · exact els_at h4 h8 h1 h2 r1
        · intro j c hj; simp [PV.cellsL] at hj
      · cases h
    · cases h
  case rp x =>
    cases h
    simp only [Rel] at hr
    obtain ⟨ad, u, rfl, h1, h2, h3⟩ := hr
    exact ⟨h2, ad, u, rfl, h1, h3.later hS.below⟩

theorem loadV_ok (hX : X.ok P) (hS : HSim W φ H w) (hL : SubH L H) {t : Nat} {x y : AV} {v : Value} (hr : Rel W φ H x v) (h : loadV X L t x = some y) :
    y.stays = true ∧ ∃ u, (Instr.loadAt t v).run P w = .ok u w ∧ Rel W φ H y u := by
  unfold loadV at h
  split at h
  · rename_i d hd
    split at h
    · rename_i y0 hp
      split at h
      · rename_i hf
        cases h
        simp only [Bool.and_eq_true] at hf
        obtain ⟨g1, ad, u, rfl, g2, g3⟩ := peek_ok hS hL hr hp
        refine ⟨g1, u, ?_, g2⟩
        simp [Instr.loadAt, Instr.sureAddr, load_row (hX t d hd) g2 g1 hf.1 g3]
      · cases h
    · cases h
  · cases h

end Go.Proofs.Ytmngcmfcbfkimaa.AM
