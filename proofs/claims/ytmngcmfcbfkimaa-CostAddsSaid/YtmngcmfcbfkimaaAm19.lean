/- The abstract machine's operations are the model's: comparisons. -/
import Derived.Test.YtmngcmfcbfkimaaAm18
namespace Go.Proofs.Ytmngcmfcbfkimaa.AM
open Go Go.RowKit

variable {P : Program} {X : Ctx} {W : World} {φ : Phi} {H L : HeapF} {w : World} {ρ : Nat → AV} {a : Act}

theorem run_part {u off : Nat} {d : TD} {x : PV} {cs : Array Value} {pre post : List Value} (hd : TDok P u d) (hx : x.ok) (ha : d.agg = x.isAgg) (hsz : d.size = x.sh.size)
    (hcs : cs.toList = pre ++ (x.cells ++ post)) (hpre : pre.length = off) : (part u cs off).run P w = .ok x.val w := by
  unfold part
  simp only [Sem.run_bind, hd.agg, Result.andThen_ok, Sem.run_ite, hd.sizeOf, ha]
  have hlen := PV.cells_length x hx
  cases hagg : x.isAgg with
  | true =>
    rw [if_pos rfl]
    simp only [Sem.run_pure]
    rw [PV.val_agg x hagg]
    congr 2
    rw [← Array.toArray_toList (xs := cs.extract _ _), Array.toList_extract, hcs, hsz, ← hlen, ← hpre]
    congr 1
    simp [List.extract_eq_take_drop]
  | false =>
    rw [if_neg (by simp)]
    have hone := PV.cells_one x hagg
    have hget : cs[off]? = some x.val := by
      have : cs[off]? = cs.toList[off]? := by simp
      rw [this, hcs, ← hpre, hone]
      simp
    rw [hget]
    rfl

theorem flat_spec {n t : Nat} {s : Sh} (h : flat X (n + 1) t s = true) : ∃ d, X.at t = some d ∧ d.size = s.size ∧ (match d.kind, s with
      | .int j, .int j' => j = j' ∧ d.agg = false
      | .bool, .bool => d.agg = false
      | .arr m e, .arr m' s' => m = m' ∧ d.agg = true ∧ flat X n e s' = true
      | .st fs, .st l => d.agg = true ∧ flatL X n 0 fs l = true
      | _, _ => False) := by
  simp only [flat] at h
  split at h
  · rename_i k z b g zz hd
    simp only [Bool.and_eq_true] at h
    obtain ⟨h1, h2⟩ := h
    refine ⟨_, hd, Nat.eq_of_beq_eq_true h1, ?_⟩
    split at h2
    · simp only [Bool.and_eq_true, Bool.not_eq_true'] at h2
      exact ⟨kind_of_beq h2.1, h2.2⟩
    · simpa using h2
    · simp only [Bool.and_eq_true] at h2
      exact ⟨Nat.eq_of_beq_eq_true h2.1.1, h2.1.2, h2.2⟩
    · simp only [Bool.and_eq_true] at h2
      exact h2
    · cases h2
  · cases h

theorem isAgg_sh (x : PV) : x.isAgg = (match x.sh with | .arr _ _ => true | .st _ => true | _ => false) := by cases x <;> rfl

theorem flat_agg (_hX : X.ok P) {n t : Nat} {s : Sh} {x : PV} (h : flat X n t s = true) (hs : x.sh = s) : ∃ d, X.at t = some d ∧ d.agg = x.isAgg ∧ d.size = x.sh.size := by
  cases n with
  | zero => simp [flat] at h
  | succ n =>
    obtain ⟨d, h1, h2, h3⟩ := flat_spec h
    refine ⟨d, h1, ?_, by rw [h2, hs]⟩
    rw [isAgg_sh, hs]
    split at h3
    · rename_i he; rw [h3.2]
    · rename_i he; rw [h3]
    · rename_i he; rw [h3.2.1]
    · rename_i he; rw [h3.1]
    · exact h3.elim

theorem equal_fields (hX : X.ok P) {n : Nat} (ih : ∀ t s x y, flat X n t s = true → x.ok → y.ok → x.sh = s → y.sh = s → ∀ d, n ≤ d → (Op.equalIn d t x.val y.val).run P w = .ok (PV.same x y) w) (d : Nat) (hd : n ≤ d) :
    ∀ (k : Nat), k ≤ n + 1 → ∀ (fs : List (Nat × Nat)) (fields : List Field) (off : Nat) (ls : List Sh) (xs ys : List PV) (cx cy : Array Value) (px py : List Value),
      (∀ t s, flat X (k - 1) t s = true → flat X n t s = true) → flatL X k off fs ls = true → fields.map (fun f => (f.offset, f.type)) = fs → (∀ f ∈ fields, f.name ≠ "_") → PV.okL xs → PV.okL ys → PV.shL xs = ls → PV.shL ys = ls →
      cx.toList = px ++ PV.cellsL xs → cy.toList = py ++ PV.cellsL ys → px.length = off → py.length = off →
      (Op.eqFields d cx cy fields).run P w = .ok (PV.sameL xs ys) w := by
  intro k
  induction k with
  | zero => intro _ fs fields off ls xs ys cx cy px py _ h; simp [flatL] at h
  | succ k ihk =>
    intro hk fs fields off ls xs ys cx cy px py hup h hf hn hx hy hsx hsy hcx hcy hpx hpy
    cases fs with
    | nil =>
      cases ls with
      | nil =>
        have : fields = [] := by simpa using hf
        subst this
        cases xs with
        | nil =>
          cases ys with
          | nil => simp [Op.eqFields, PV.sameL]
          | cons y ys => simp [PV.shL] at hsy
        | cons x xs => simp [PV.shL] at hsx
      | cons s ls => simp [flatL] at h
    | cons of fs =>
      obtain ⟨o, u⟩ := of
      cases ls with
      | nil => simp [flatL] at h
      | cons s ls =>
        simp only [flatL, Bool.and_eq_true] at h
        obtain ⟨⟨h1, h2⟩, h3⟩ := h
        have h1 := Nat.eq_of_beq_eq_true h1
        subst h1
        cases fields with
        | nil => simp at hf
        | cons f fields =>
          simp only [List.map_cons, List.cons.injEq, Prod.mk.injEq] at hf
          obtain ⟨⟨hf1, hf2⟩, hf3⟩ := hf
          cases xs with
          | nil => simp [PV.shL] at hsx
          | cons x xs =>
            cases ys with
            | nil => simp [PV.shL] at hsy
            | cons y ys =>
              simp only [PV.shL, List.cons.injEq] at hsx hsy
              simp only [PV.okL] at hx hy
              have h2n := hup _ _ h2
              subst hf2
              obtain ⟨du, d1, d2, d3⟩ := flat_agg hX h2n hsx.1
              obtain ⟨du', d1', d2', d3'⟩ := flat_agg hX h2n hsy.1
              rw [d1] at d1'
              cases d1'
              have hpx' := run_part (w := w) (hX _ du d1) hx.1 d2 d3 (pre := px) (post := PV.cellsL xs) (cs := cx) (by rw [hcx]; rfl) hpx
              have hpy' := run_part (w := w) (hX _ du d1) hy.1 d2' d3' (pre := py) (post := PV.cellsL ys) (cs := cy) (by rw [hcy]; rfl) hpy
              have heq := ih _ _ x y h2n hx.1 hy.1 hsx.1 hsy.1 d hd
              simp only [Op.eqFields, if_pos (hn f (by simp)), Sem.run_bind, hf1, hpx', hpy', Result.andThen_ok, heq, PV.sameL]
              cases hsame : PV.same x y with
              | false => simp
              | true =>
                simp only [Bool.not_true, Bool.false_eq_true, if_false, Bool.true_and]
                refine ihk (by omega) fs fields (o + s.size) ls xs ys cx cy (px ++ x.cells) (py ++ y.cells) ?_ h3 hf3 (fun g hg => hn g (by simp [hg])) hx.2 hy.2 hsx.2 hsy.2 ?_ ?_ ?_ ?_
                · intro t' s' ht'
                  refine hup t' s' ?_
                  -- one more step of depth
                  clear ihk
                  cases k with
                  | zero => simp [flat] at ht'
                  | succ k =>
                    have mono : ∀ m, (∀ t s, flat X m t s = true → flat X (m + 1) t s = true) ∧ (∀ off fs ls, flatL X m off fs ls = true → flatL X (m + 1) off fs ls = true) := by
                      intro m
                      induction m with
                      | zero => exact ⟨fun t s h => by simp [flat] at h, fun off fs ls h => by simp [flatL] at h⟩
                      | succ m ihm =>
                        refine ⟨fun t s h => ?_, fun off fs ls h => ?_⟩
                        · rw [flat] at h ⊢
                          split at h
                          · rename_i k z b g zz hd0
                            simp only [Bool.and_eq_true] at h ⊢
                            refine ⟨h.1, ?_⟩
                            have h2 := h.2
                            split at h2
                            · exact h2
                            · exact h2
                            · simp only [Bool.and_eq_true] at h2 ⊢
                              exact ⟨h2.1, ihm.1 _ _ h2.2⟩
                            · simp only [Bool.and_eq_true] at h2 ⊢
                              exact ⟨h2.1, ihm.2 _ _ _ h2.2⟩
                            · cases h2
                          · cases h
                        · cases fs with
                          | nil =>
                            cases ls with
                            | nil => simp [flatL]
                            | cons s ls => simp [flatL] at h
                          | cons e fs =>
                            obtain ⟨o, u⟩ := e
                            cases ls with
                            | nil => simp [flatL] at h
                            | cons s ls =>
                              simp only [flatL, Bool.and_eq_true] at h ⊢
                              exact ⟨⟨h.1.1, ihm.1 _ _ h.1.2⟩, ihm.2 _ _ _ h.2⟩
                    exact (mono k).1 t' s' ht'
                · rw [hcx]; simp [PV.cellsL]
                · rw [hcy]; simp [PV.cellsL]
                · rw [List.length_append, hpx, PV.cells_length x hx.1, hsx.1]
                · rw [List.length_append, hpy, PV.cells_length y hy.1, hsy.1]

theorem equal_elems (hX : X.ok P) {n e sz : Nat} {s : Sh} (ih : ∀ t s x y, flat X n t s = true → x.ok → y.ok → x.sh = s → y.sh = s → ∀ d, n ≤ d → (Op.equalIn d t x.val y.val).run P w = .ok (PV.same x y) w) (d : Nat) (hd : n ≤ d)
    (hfl : flat X n e s = true) (hsz : sz = s.size) {lx ly : List PV} (hx : PV.okL lx) (hy : PV.okL ly) (hsx : PV.allSh s lx) (hsy : PV.allSh s ly) (hl : lx.length = ly.length) {cx cy : Array Value}
    (hcx : cx.toList = PV.cellsL lx) (hcy : cy.toList = PV.cellsL ly) :
    ∀ m i, i + m = lx.length → (forIn (List.range' i m 1) ((none : Option Bool), ()) fun i _ => (do
        let u ← part e cx (i * sz)
        let v ← part e cy (i * sz)
        let r ← Op.equalIn d e u v
        if (!r) = true then pure (ForInStep.done (some false, ())) else pure (ForInStep.yield (none, ())) : Sem (ForInStep (Option Bool × Unit)))).run P w =
      .ok (if PV.sameL (lx.drop i) (ly.drop i) then (none, ()) else (some false, ())) w := by
  intro m
  induction m with
  | zero =>
    intro i hi
    rw [List.drop_of_length_le (by omega), List.drop_of_length_le (by omega)]
    simp [PV.sameL]
  | succ m ihm =>
    intro i hi
    have hix : i < lx.length := by omega
    have hiy : i < ly.length := by omega
    have gx : lx[i]? = some lx[i] := List.getElem?_eq_getElem hix
    have gy : ly[i]? = some ly[i] := List.getElem?_eq_getElem hiy
    obtain ⟨postx, px1, px2⟩ := cellsL_at hx hsx gx
    obtain ⟨posty, py1, py2⟩ := cellsL_at hy hsy gy
    have okx := okL_get hx gx
    have oky := okL_get hy gy
    have shx := allSh_get hsx gx
    have shy := allSh_get hsy gy
    obtain ⟨du, d1, d2, d3⟩ := flat_agg hX hfl shx
    obtain ⟨du', d1', d2', d3'⟩ := flat_agg hX hfl shy
    rw [d1] at d1'
    cases d1'
    have h1 := run_part (w := w) (hX _ du d1) okx d2 d3 (cs := cx) (by rw [hcx]; exact px1) (px2.trans (by rw [← hsz]))
    have h2 := run_part (w := w) (hX _ du d1) oky d2' d3' (cs := cy) (by rw [hcy]; exact py1) (py2.trans (by rw [← hsz]))
    have h3 := ih e s lx[i] ly[i] hfl okx oky shx shy d hd
    rw [List.range'_succ, List.forIn_cons]
    simp only [Sem.run_bind, h1, h2, h3, Result.andThen_ok]
    rw [List.drop_eq_getElem_cons hix, List.drop_eq_getElem_cons hiy]
    simp only [PV.sameL]
    by_cases hsame : PV.same lx[i] ly[i] = true
    · simp only [hsame, Bool.not_true, Bool.false_eq_true, if_false, Sem.run_pure, Result.andThen_ok, Bool.true_and]
      exact ihm (i + 1) (by omega)
    · have hsame : PV.same lx[i] ly[i] = false := by simpa using hsame
      simp [hsame]

theorem run_equalIn_arr {d t n e sz : Nat} {cx cy : Array Value} (ht : P.underlying t = some (.array n e)) (hsz : (sizeOf e).run P w = .ok sz w) (b : Bool)
    (h : (forIn (List.range' 0 n 1) ((none : Option Bool), ()) fun i _ => (do
        let u ← part e cx (i * sz)
        let v ← part e cy (i * sz)
        let r ← Op.equalIn d e u v
        if (!r) = true then pure (ForInStep.done (some false, ())) else pure (ForInStep.yield (none, ())) : Sem (ForInStep (Option Bool × Unit)))).run P w =
      .ok (if b then (none, ()) else (some false, ())) w) : (Op.equalIn (d + 1) t (.agg cx) (.agg cy)).run P w = .ok b w := by
  simp only [Op.equalIn, Sem.run_bind, run_underlying ht, Result.andThen_ok, hsz]
  rw [Std.Legacy.Range.forIn_eq_forIn_range']
  have : List.range' ({ stop := n, step_pos := by decide } : Std.Legacy.Range).start ({ stop := n, step_pos := by decide } : Std.Legacy.Range).size ({ stop := n, step_pos := by decide } : Std.Legacy.Range).step = List.range' 0 n 1 := by
    simp [Std.Legacy.Range.size]
  rw [this, h]
  cases b <;> simp

theorem equal_flat (hX : X.ok P) : ∀ n t s x y, flat X n t s = true → x.ok → y.ok → x.sh = s → y.sh = s → ∀ d, n ≤ d → (Op.equalIn d t x.val y.val).run P w = .ok (PV.same x y) w := by
  intro n
  induction n with
  | zero => intro t s x y h; simp [flat] at h
  | succ n ih =>
    intro t s x y h hx hy hsx hsy d hd
    obtain ⟨d, rfl⟩ : ∃ m, d = m + 1 := ⟨d - 1, by omega⟩
    obtain ⟨td, h1, h2, h3⟩ := flat_spec h
    have hk := (hX t td h1).kind
    split at h3
    · rename_i j j' hkd
      rw [hkd] at hk
      cases x <;> simp [PV.sh] at hsx
      cases y <;> simp [PV.sh] at hsy
      subst hsx hsy
      simp only [PV.val, PV.same]
      exact run_equalIn_int w d t _ _ _ _ hk
    · rename_i hkd
      rw [hkd] at hk
      cases x <;> simp [PV.sh] at hsx
      cases y <;> simp [PV.sh] at hsy
      simp only [PV.val, PV.same]
      exact run_equalIn_bool w d t _ _ hk
    · rename_i m e m' s' h hkd
      rw [hkd] at hk
      obtain ⟨rfl, h4, h5⟩ := h3
      cases x <;> simp [PV.sh] at hsx
      cases y <;> simp [PV.sh] at hsy
      rename_i m1 s1 lx m2 s2 ly
      obtain ⟨rfl, rfl⟩ := hsx
      obtain ⟨rfl, rfl⟩ := hsy
      simp only [PV.ok] at hx hy
      simp only [PV.val, PV.same]
      obtain ⟨ed, e1, e2⟩ : ∃ ed, X.at e = some ed ∧ ed.size = s2.size := by
        cases n with
        | zero => simp [flat] at h5
        | succ n =>
          obtain ⟨ed, e1, e2, _⟩ := flat_spec h5
          exact ⟨ed, e1, e2⟩
      have hszr := (hX e ed e1).sizeOf w
      refine run_equalIn_arr hk.1 hszr _ ?_
      have := equal_elems hX ih d (by omega) h5 e2 hx.2.1 hy.2.1 hx.2.2 hy.2.2 (hx.1.trans hy.1.symm) (cx := (PV.cellsL lx).toArray) (cy := (PV.cellsL ly).toArray) rfl rfl m2 0 (by omega)
      simpa using this
    · rename_i fs l h hkd
      rw [hkd] at hk
      obtain ⟨fields, k1, k2, k3, k4, k5, k6⟩ := hk
      cases x <;> simp [PV.sh] at hsx
      cases y <;> simp [PV.sh] at hsy
      rename_i lx ly
      simp only [PV.ok] at hx hy
      simp only [PV.val, PV.same]
      have hfo : P.fieldsOf t = fields := by simp [Program.fieldsOf, k1]
      rw [run_equalIn_struct w d t _ _ (by rw [hfo]; exact k1) k3, hfo]
      exact equal_fields hX ih d (by omega) n (by omega) fs fields.toList 0 l lx ly _ _ [] [] (fun t' s' h' => by
        cases n with
        | zero => simp [flat] at h'
        | succ n =>
          have mono : ∀ m, (∀ t s, flat X m t s = true → flat X (m + 1) t s = true) ∧ (∀ off fs ls, flatL X m off fs ls = true → flatL X (m + 1) off fs ls = true) := by
            intro m
            induction m with
            | zero => exact ⟨fun t s h => by simp [flat] at h, fun off fs ls h => by simp [flatL] at h⟩
            | succ m ihm =>
              refine ⟨fun t s h => ?_, fun off fs ls h => ?_⟩
              · rw [flat] at h ⊢
                split at h
                · rename_i k z b g zz hd0
                  simp only [Bool.and_eq_true] at h ⊢
                  refine ⟨h.1, ?_⟩
                  have h2 := h.2
                  split at h2
                  · exact h2
                  · exact h2
                  · simp only [Bool.and_eq_true] at h2 ⊢
                    exact ⟨h2.1, ihm.1 _ _ h2.2⟩
                  · simp only [Bool.and_eq_true] at h2 ⊢
                    exact ⟨h2.1, ihm.2 _ _ _ h2.2⟩
                  · cases h2
                · cases h
              · cases fs with
                | nil =>
                  cases ls with
                  | nil => simp [flatL]
                  | cons s ls => simp [flatL] at h
                | cons e fs =>
                  obtain ⟨o, u⟩ := e
                  cases ls with
                  | nil => simp [flatL] at h
                  | cons s ls =>
                    simp only [flatL, Bool.and_eq_true] at h ⊢
                    exact ⟨⟨h.1.1, ihm.1 _ _ h.1.2⟩, ihm.2 _ _ _ h.2⟩
          exact (mono n).1 t' s' h') h3.2 k2 k5 hx hy hsx hsy rfl rfl rfl rfl
    · exact h3.elim

end Go.Proofs.Ytmngcmfcbfkimaa.AM
