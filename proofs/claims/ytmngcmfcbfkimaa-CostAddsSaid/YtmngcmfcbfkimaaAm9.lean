/- Types, operands and places: what the abstract machine reads of them is what the model has. -/
import Derived.Test.YtmngcmfcbfkimaaAm8
namespace Go.Proofs.Ytmngcmfcbfkimaa.AM
open Go Go.RowKit

def KindOK (P : Program) (t : Nat) : TK → Prop
  | .int k => P.underlying t = some (.int k)
  | .bool => P.underlying t = some .bool
  | .str => P.underlying t = some .string
  | .slice e => P.underlying t = some (.slice e)
  | .arr n e => P.underlying t = some (.array n e) ∧ P.eqGuardType P.depth t = false
  | .st fs => ∃ fields, P.underlying t = some (.struct fields) ∧ fields.toList.map (fun f => (f.offset, f.type)) = fs ∧ P.stoodInHeld t = false ∧ P.eqGuardType P.depth t = false ∧
      (∀ f ∈ fields.toList, f.name ≠ "_") ∧ ∀ f ∈ fields.toList, ∃ i, P.info? f.type = some i
  | .ptr e => P.underlying t = some (.pointer e)
  | .other => True

structure TDok (P : Program) (t : Nat) (d : TD) : Prop where
  info : ∃ i, P.info? t = some i ∧ i.size = d.size ∧ i.bytes = d.bytes ∧
    ∀ z, d.zero = some z → z.stays = true ∧ z.sh.size = d.size ∧ ∃ zv, i.zero = some zv ∧ ∀ W φ H, Rel W φ H z zv
  kind : KindOK P t d.kind
  agg : (isAgg t).run P = fun w => .ok d.agg w

def Ctx.ok (P : Program) (X : Ctx) : Prop := ∀ t d, X.at t = some d → TDok P t d

def GlobOK (W : World) (G : Globs) : Prop := ∀ g x, (g, x) ∈ G → x.ok ∧ RowAt W ⟨g, 0, none⟩ x.cells

theorem TDok.sizeOf {P : Program} {t : Nat} {d : TD} (h : TDok P t d) (w : World) : (Go.sizeOf t).run P w = .ok d.size w := by
  obtain ⟨i, h1, h2, _⟩ := h.info
  simp [Go.sizeOf, typeInfo, h1, h2]

mutual
theorem Rel.size {W : World} {φ : Phi} {H : HeapF} : ∀ (x : AV) (v : Value), Rel W φ H x v → x.stays = true → v.cells.size = x.sh.size
  | .p x, v, h, _ => by
    simp only [Rel] at h
    obtain ⟨h1, rfl⟩ := h
    rw [PV.cells_val]
    simp only [List.size_toArray, AV.sh]
    exact PV.cells_length x h1
  | .st l, v, h, _ => by
    simp only [Rel] at h
    obtain ⟨vs, h1, h2, rfl⟩ := h
    simp only [Value.cells, List.size_toArray, AV.sh, Sh.size]
    exact Rel.sizeL l vs h1 h2
  | .junk, _, _, hs => by simp [AV.stays] at hs
  | .tup _, _, _, hs => by simp [AV.stays] at hs
  | .nil, v, h, hs => by rw [(Rel.one h hs rfl).1]; rfl
  | .nilf, v, h, hs => by rw [(Rel.one h hs rfl).1]; rfl
  | .ro s l, v, h, hs => by rw [(Rel.one h hs rfl).1]; rfl
  | .roA l, v, h, hs => by rw [(Rel.one h hs rfl).1]; rfl
  | .sl _ _ _, v, h, hs => by rw [(Rel.one h hs rfl).1]; rfl
  | .own _, v, h, hs => by rw [(Rel.one h hs rfl).1]; rfl
  | .sa _ _ _ _, v, h, hs => by rw [(Rel.one h hs rfl).1]; rfl
  | .ptr _ _, v, h, hs => by rw [(Rel.one h hs rfl).1]; rfl
  | .pe _ _ _, v, h, hs => by rw [(Rel.one h hs rfl).1]; rfl
  | .pes _ _ _, v, h, hs => by rw [(Rel.one h hs rfl).1]; rfl
  | .rp _, v, h, hs => by rw [(Rel.one h hs rfl).1]; rfl
  | .fn _ _, v, h, hs => by rw [(Rel.one h hs rfl).1]; rfl
theorem Rel.sizeL {W : World} {φ : Phi} {H : HeapF} : ∀ (l : List AV) (vs : List Value), RelL W φ H l vs → (∀ x ∈ l, x.stays = true) → (vs.flatMap fun u => u.cells.toList).length = Sh.sizeL (AV.shL l)
  | [], [], _, _ => by simp [AV.shL, Sh.sizeL]
  | x :: l, v :: vs, h, hs => by
    simp only [RelL] at h
    simp only [List.flatMap_cons, List.length_append, AV.shL, Sh.sizeL]
    rw [Rel.sizeL l vs h.2 (fun y hy => hs y (by simp [hy]))]
    have := Rel.size x v h.1 (hs x (by simp))
    simp [this]
  | [], _ :: _, h, _ => by simp [RelL] at h
  | _ :: _, [], h, _ => by simp [RelL] at h
end

/-- A value that may stand in memory: an aggregate's cells, or the one cell. -/
theorem Rel.cases {W : World} {φ : Phi} {H : HeapF} {x : AV} {v : Value} (h : Rel W φ H x v) (hs : x.stays = true) :
    (x.isAgg = true ∧ v = .agg v.cells) ∨ (x.isAgg = false ∧ v.cells = #[v]) := by
  cases ha : x.isAgg with
  | false => exact .inr ⟨rfl, (Rel.one h hs ha).1⟩
  | true =>
    refine .inl ⟨rfl, ?_⟩
    cases x with
    | p x =>
      simp only [Rel] at h
      obtain ⟨_, rfl⟩ := h
      rw [PV.cells_val]
      exact PV.val_agg x ha
    | st l =>
      simp only [Rel] at h
      obtain ⟨vs, _, _, rfl⟩ := h
      simp [Value.cells]
    | _ => simp [AV.isAgg] at ha

mutual
theorem PV.cells_oneCell : ∀ (x : PV), ∀ c ∈ x.cells, c.oneCell' = true
  | .i k m, c, hc => by simp [PV.cells] at hc; subst hc; rfl
  | .b y, c, hc => by simp [PV.cells] at hc; subst hc; rfl
  | .str s, c, hc => by simp [PV.cells] at hc; subst hc; rfl
  | .arr _ _ l, c, hc => by simp only [PV.cells] at hc; exact PV.cellsL_oneCell l c hc
  | .st l, c, hc => by simp only [PV.cells] at hc; exact PV.cellsL_oneCell l c hc
theorem PV.cellsL_oneCell : ∀ (l : List PV), ∀ c ∈ PV.cellsL l, c.oneCell' = true
  | [], c, hc => by simp [PV.cellsL] at hc
  | y :: l, c, hc => by
    simp only [PV.cellsL, List.mem_append] at hc
    rcases hc with hc | hc
    · exact PV.cells_oneCell y c hc
    · exact PV.cellsL_oneCell l c hc
end

theorem cells_agg (cs : Array Value) : (Value.agg cs).cells = cs := rfl

theorem Rel.plain {W : World} {φ : Phi} {H : HeapF} {x : PV} (h : x.ok) : Rel W φ H (.p x) x.val := by
  unfold Rel
  exact ⟨h, rfl⟩

mutual
theorem Rel.oneCells {W : World} {φ : Phi} {H : HeapF} : ∀ (x : AV) (v : Value), Rel W φ H x v → x.stays = true → ∀ c ∈ v.cells.toList, c.oneCell' = true
  | .p x, v, h, _ => by
    simp only [Rel] at h
    obtain ⟨h1, rfl⟩ := h
    rw [PV.cells_val_list]
    exact PV.cells_oneCell x
  | .st l, v, h, _ => by
    simp only [Rel] at h
    obtain ⟨vs, h1, h2, rfl⟩ := h
    simp only [Value.cells]
    exact Rel.oneCellsL l vs h1 h2
  | .junk, _, _, hs => by simp [AV.stays] at hs
  | .tup _, _, _, hs => by simp [AV.stays] at hs
  | .nil, v, h, hs => by have := Rel.one h hs rfl; rw [this.1]; simpa using this.2
  | .nilf, v, h, hs => by have := Rel.one h hs rfl; rw [this.1]; simpa using this.2
  | .ro s l, v, h, hs => by have := Rel.one h hs rfl; rw [this.1]; simpa using this.2
  | .roA l, v, h, hs => by have := Rel.one h hs rfl; rw [this.1]; simpa using this.2
  | .sl _ _ _, v, h, hs => by have := Rel.one h hs rfl; rw [this.1]; simpa using this.2
  | .own _, v, h, hs => by have := Rel.one h hs rfl; rw [this.1]; simpa using this.2
  | .sa _ _ _ _, v, h, hs => by have := Rel.one h hs rfl; rw [this.1]; simpa using this.2
  | .ptr _ _, v, h, hs => by have := Rel.one h hs rfl; rw [this.1]; simpa using this.2
  | .pe _ _ _, v, h, hs => by have := Rel.one h hs rfl; rw [this.1]; simpa using this.2
  | .pes _ _ _, v, h, hs => by have := Rel.one h hs rfl; rw [this.1]; simpa using this.2
  | .rp _, v, h, hs => by have := Rel.one h hs rfl; rw [this.1]; simpa using this.2
  | .fn _ _, v, h, hs => by have := Rel.one h hs rfl; rw [this.1]; simpa using this.2
theorem Rel.oneCellsL {W : World} {φ : Phi} {H : HeapF} : ∀ (l : List AV) (vs : List Value), RelL W φ H l vs → (∀ x ∈ l, x.stays = true) → ∀ c ∈ (vs.flatMap fun u => u.cells.toList), c.oneCell' = true
  | [], [], _, _ => by simp
  | x :: l, v :: vs, h, hs => by
    simp only [RelL] at h
    intro c hc
    simp only [List.flatMap_cons, List.mem_append] at hc
    rcases hc with hc | hc
    · exact Rel.oneCells x v h.1 (hs x (by simp)) c hc
    · exact Rel.oneCellsL l vs h.2 (fun y hy => hs y (by simp [hy])) c hc
  | [], _ :: _, h, _ => by simp [RelL] at h
  | _ :: _, [], h, _ => by simp [RelL] at h
end

theorem AV.shL_get {l : List AV} {f : Nat} {x : AV} (h : l[f]? = some x) : (AV.shL l)[f]? = some x.sh := by
  induction l generalizing f with
  | nil => simp at h
  | cons y l ih =>
    cases f with
    | zero => simp at h; subst h; simp [AV.shL]
    | succ f => simp at h; simp [AV.shL, ih h]

theorem AV.shL_take (l : List AV) (f : Nat) : (AV.shL l).take f = AV.shL (l.take f) := by
  induction l generalizing f with
  | nil => simp [AV.shL]
  | cons y l ih =>
    cases f with
    | zero => simp [AV.shL]
    | succ f => simp [AV.shL, ih]

theorem AV.shL_set {l : List AV} {f : Nat} {x y : AV} (h : l[f]? = some x) (hs : y.sh = x.sh) : AV.shL (l.set f y) = AV.shL l := by
  induction l generalizing f with
  | nil => simp
  | cons z l ih =>
    cases f with
    | zero => simp at h; subst h; simp [AV.shL, hs]
    | succ f => simp at h; simp [AV.shL, ih h]

theorem RelL.take {W : World} {φ : Phi} {H : HeapF} {l : List AV} {vs : List Value} (h : RelL W φ H l vs) (n : Nat) : RelL W φ H (l.take n) (vs.take n) := by
  induction l generalizing vs n with
  | nil => cases vs <;> simp_all [RelL]
  | cons x l ih =>
    cases vs with
    | nil => simp [RelL] at h
    | cons v vs =>
      simp only [RelL] at h
      cases n with
      | zero => simp [RelL]
      | succ n => simp only [List.take_succ_cons, RelL]; exact ⟨h.1, ih h.2 n⟩

/-- The value at a place of a value in memory. -/
theorem navA_spec {W : World} {φ : Phi} {H : HeapF} : ∀ (path : List Nat) (x y : AV) (v : Value), Rel W φ H x v → x.stays = true → navA x path = some y →
    y.stays = true ∧ shS x.sh path = some y.sh ∧ ∃ u o pre post, Rel W φ H y u ∧ offS x.sh path = some o ∧ pre.length = o ∧ v.cells.toList = pre ++ (u.cells.toList ++ post) ∧
      ∀ y' u' z, Rel W φ H y' u' → y'.stays = true → y'.sh = y.sh → setA x path y' = some z →
        z.stays = true ∧ z.sh = x.sh ∧ ∃ v', Rel W φ H z v' ∧ v'.cells.toList = pre ++ (u'.cells.toList ++ post)
  | [], x, y, v, hv, hs, h => by
    have h' : x = y := by cases x <;> simpa [navA] using h
    subst h'
    refine ⟨hs, by cases x.sh <;> rfl, v, 0, [], [], hv, by cases x.sh <;> rfl, rfl, by simp, fun y' u' z hy' hs' hsh hz => ?_⟩
    have hz' : y' = z := by cases x <;> cases y' <;> simpa [setA] using hz
    subst hz'
    exact ⟨hs', hsh, u', hy', by simp⟩
  | f :: r, .p x, y, v, hv, hs, h => by
    simp only [navA] at h
    cases hn : nav x (f :: r) with
    | none => simp [hn] at h
    | some y0 =>
      simp only [hn, Option.some.injEq] at h
      subst h
      simp only [Rel] at hv
      obtain ⟨hx, rfl⟩ := hv
      obtain ⟨h1, h2, o, pre, post, h3, h4, h5, h6⟩ := nav_spec _ _ _ hx hn
      refine ⟨rfl, h2, y0.val, o, pre, post, Rel.plain h1, h3, h4, by rw [PV.cells_val_list, PV.cells_val_list, h5], fun y' u' z hy' hs' hsh hz => ?_⟩
      cases y' with
      | p v' =>
        simp only [setA] at hz
        cases hset : setP x (f :: r) v' with
        | none => simp [hset] at hz
        | some z0 =>
          simp only [hset, Option.some.injEq] at hz
          subst hz
          simp only [Rel] at hy'
          obtain ⟨g1, rfl⟩ := hy'
          obtain ⟨g2, g3, g4⟩ := h6 v' z0 g1 hsh hset
          exact ⟨rfl, g3, z0.val, Rel.plain g2, by rw [PV.cells_val_list, PV.cells_val_list, g4]⟩
      | _ => simp [setA] at hz
  | f :: r, .st l, y, v, hv, hs, h => by
    simp only [navA] at h
    cases hl : l[f]? with
    | none => simp [hl] at h
    | some x =>
      simp only [hl] at h
      simp only [Rel] at hv
      obtain ⟨vs, hvs, hst, rfl⟩ := hv
      obtain ⟨vx, hvx, hrx⟩ := hvs.get hl
      obtain ⟨h1, h2, u, o, pre, post, h3, h4, h5, h6, h7⟩ := navA_spec r x y vx hrx (hst x (List.mem_of_getElem? hl)) h
      obtain ⟨c1, c2⟩ := cut_at hvx
      refine ⟨h1, by simp [shS, AV.sh, AV.shL_get hl, h2], u, Sh.sizeL ((AV.shL l).take f) + o, (vs.take f).flatMap (fun u => u.cells.toList) ++ pre, post ++ (vs.drop (f + 1)).flatMap (fun u => u.cells.toList), h3, ?_, ?_, ?_, ?_⟩
      · simp [offS, AV.sh, AV.shL_get hl, h4]
      · rw [List.length_append, h5, AV.shL_take, Rel.sizeL _ _ (hvs.take f) (fun y hy => hst y (List.mem_of_mem_take hy))]
      · rw [cells_agg]
        conv => lhs; rw [c1]
        simp [h6]
      · intro y' u' z hy' hs' hsh hz
        simp only [setA, hl] at hz
        cases hset : setA x r y' with
        | none => simp [hset] at hz
        | some x' =>
          simp only [hset, Option.some.injEq] at hz
          subst hz
          obtain ⟨g1, g2, v', g3, g4⟩ := h7 y' u' x' hy' hs' hsh hset
          refine ⟨rfl, by simp [AV.sh, AV.shL_set hl g2], .agg ((vs.set f v').flatMap fun u => u.cells.toList).toArray, ?_, ?_⟩
          · simp only [Rel]
            refine ⟨vs.set f v', hvs.set g3, fun a ha => ?_, rfl⟩
            rcases List.mem_or_eq_of_mem_set ha with ha | ha
            · exact hst a ha
            · subst ha; exact g1
          · rw [cells_agg]
            rw [c2 v']
            simp [g4]
  | _ :: _, .junk, _, _, _, _, h => by simp [navA] at h
  | _ :: _, .tup _, _, _, _, _, h => by simp [navA] at h
  | _ :: _, .nil, _, _, _, _, h => by simp [navA] at h
  | _ :: _, .nilf, _, _, _, _, h => by simp [navA] at h
  | _ :: _, .ro _ _, _, _, _, _, h => by simp [navA] at h
  | _ :: _, .roA _, _, _, _, _, h => by simp [navA] at h
  | _ :: _, .sl _ _ _, _, _, _, _, h => by simp [navA] at h
  | _ :: _, .own _, _, _, _, _, h => by simp [navA] at h
  | _ :: _, .sa _ _ _ _, _, _, _, _, h => by simp [navA] at h
  | _ :: _, .ptr _ _, _, _, _, _, h => by simp [navA] at h
  | _ :: _, .pe _ _ _, _, _, _, _, h => by simp [navA] at h
  | _ :: _, .pes _ _ _, _, _, _, _, h => by simp [navA] at h
  | _ :: _, .rp _, _, _, _, _, h => by simp [navA] at h
  | _ :: _, .fn _ _, _, _, _, _, h => by simp [navA] at h

end Go.Proofs.Ytmngcmfcbfkimaa.AM
