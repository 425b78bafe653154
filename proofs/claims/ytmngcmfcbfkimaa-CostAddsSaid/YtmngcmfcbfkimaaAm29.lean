/- What comes in: a reading of an argument is a value of the abstract machine. -/
import Derived.Test.YtmngcmfcbfkimaaAm28
import Derived.OpenShut
import Derived.ProofKit
import Derived.Below
namespace Go.Proofs.Ytmngcmfcbfkimaa.AM
open Go Go.RowKit Go.ChangeShapes Go.WideShapes

-- Every integer fits its kind.
mutual
def PV.wf : PV → Prop
  | .i k n => (Lit.int k n).wf = true
  | .b _ => True
  | .str _ => True
  | .arr _ _ l => PV.wfL l
  | .st l => PV.wfL l
def PV.wfL : List PV → Prop
  | [] => True
  | x :: l => x.wf ∧ PV.wfL l
end

theorem PV.wfL_iff {l : List PV} : PV.wfL l ↔ ∀ x ∈ l, x.wf := by
  induction l with
  | nil => simp [PV.wfL]
  | cons x l ih => simp [PV.wfL, ih]

theorem PV.okL_iff {l : List PV} : PV.okL l ↔ ∀ x ∈ l, x.ok := by
  induction l with
  | nil => simp [PV.okL]
  | cons x l ih => simp [PV.okL, ih]

theorem PV.allSh_iff {s : Sh} {l : List PV} : PV.allSh s l ↔ ∀ x ∈ l, x.sh = s := by
  induction l with
  | nil => simp [PV.allSh]
  | cons x l ih => simp [PV.allSh, ih]

mutual
/-- The type lies as the shape says, and has nothing in it but integers and bools. -/
def plainB (P : Program) : Nat → Nat → Sh → Bool
  | 0, _, _ => false
  | _d + 1, t, .int k => match P.underlying t with
    | some (.int k') => kindBeq k' k
    | _ => false
  | _d + 1, t, .bool => match P.underlying t with
    | some .bool => true
    | _ => false
  | d + 1, t, .arr n s => match P.underlying t with
    | some (.array n' e) => Nat.beq n' n && (Nat.beq (P.cellsOf t) (n * s.size) && (Nat.beq (P.cellsOf e) s.size && plainB P d e s))
    | _ => false
  | d + 1, t, .st l => match P.underlying t with
    | some (.struct fs) => Nat.beq (P.cellsOf t) (Sh.sizeL l) && plainF P d 0 fs.toList l
    | _ => false
  | _ + 1, _, .one => false
def plainF (P : Program) : Nat → Nat → List Field → List Sh → Bool
  | 0, _, _, _ => false
  | _ + 1, _, [], [] => true
  | d + 1, off, f :: fs, s :: l => Nat.beq f.offset off && (Nat.beq (P.cellsOf f.type) s.size && (plainB P d f.type s && plainF P d (off + s.size) fs l))
  | _, _, _, _ => false
end

theorem chunks {Q : PV → Prop} {c : Nat} : ∀ (n : Nat) (cs : List Value), cs.length = n * c → (∀ i, i < n → ∃ x, Q x ∧ x.cells = (cs.drop (i * c)).take c) →
    ∃ l : List PV, l.length = n ∧ (∀ x ∈ l, Q x) ∧ PV.cellsL l = cs
  | 0, cs, hl, _ => ⟨[], rfl, by simp, by
    have : cs = [] := List.eq_nil_of_length_eq_zero (by simpa using hl)
    rw [this]; rfl⟩
  | n + 1, cs, hl, h => by
    obtain ⟨x, hx, hc⟩ := h 0 (by omega)
    obtain ⟨l, h1, h2, h3⟩ := chunks (Q := Q) (c := c) n (cs.drop c) (by rw [List.length_drop, hl, Nat.succ_mul]; omega) fun i hi => by
      obtain ⟨y, hy, hyc⟩ := h (i + 1) (by omega)
      refine ⟨y, hy, ?_⟩
      rw [hyc, List.drop_drop, Nat.succ_mul, Nat.add_comm c]
    refine ⟨x :: l, by simp [h1], fun y hy => ?_, ?_⟩
    · rcases List.mem_cons.1 hy with rfl | hy
      · exact hx
      · exact h2 y hy
    · simp only [PV.cellsL]
      rw [hc, h3]
      simp

section
variable {T : Type} {enc : TypeId × Value → T} {P : Program} {w : World} {base : Nat} {spare : Nat → Bool} {held : Bool}

mutual
theorem plain_ok : ∀ (d t : Nat) (s : Sh) (fuel : Nat) (cs : List Value) (x : DataW T × List MemPlace), plainB P d t s = true → DataW.trod enc P w base spare held fuel t cs = some x →
    ∃ y : PV, (y.sh = s ∧ y.ok ∧ y.wf) ∧ y.cells = cs
  | 0, _, _, _, _, _, h, _ => by simp [plainB] at h
  | d + 1, t, .int k, fuel, cs, x, h, ht => by
    simp only [plainB] at h
    split at h
    · rename_i k' hu
      rw [kind_of_beq h] at hu
      obtain ⟨n, rfl, _, hw⟩ := DataW.trod_int hu ht
      exact ⟨.i k n, ⟨rfl, trivial, hw⟩, rfl⟩
    · cases h
  | d + 1, t, .bool, fuel, cs, x, h, ht => by
    simp only [plainB] at h
    split at h
    · rename_i hu
      obtain ⟨b, rfl, _⟩ := DataW.trod_bool hu ht
      exact ⟨.b b, ⟨rfl, trivial, trivial⟩, rfl⟩
    · cases h
  | d + 1, t, .arr n s, fuel, cs, x, h, ht => by
    simp only [plainB] at h
    split at h
    · rename_i n' e hu
      simp only [Bool.and_eq_true] at h
      have hn := Nat.eq_of_beq_eq_true h.1
      subst hn
      have hc := Nat.eq_of_beq_eq_true h.2.1
      have he := Nat.eq_of_beq_eq_true h.2.2.1
      obtain ⟨xs, m, _, _, hl, hx, hi⟩ := DataW.trod_array hu ht
      obtain ⟨l, h1, h2, h3⟩ := chunks (Q := fun y => y.sh = s ∧ y.ok ∧ y.wf) (c := s.size) n' cs (by rw [hl, hc]) fun i hin => by
        have := hi i hin
        rw [List.getElem?_eq_getElem (by omega), he] at this
        exact plain_ok d e s m _ _ h.2.2.2 this
      exact ⟨.arr n' s l, ⟨rfl, ⟨h1, PV.okL_iff.2 fun y hy => (h2 y hy).2.1, PV.allSh_iff.2 fun y hy => (h2 y hy).1⟩, PV.wfL_iff.2 fun y hy => (h2 y hy).2.2⟩, h3⟩
    · cases h
  | d + 1, t, .st l, fuel, cs, x, h, ht => by
    simp only [plainB] at h
    split at h
    · rename_i fs hu
      simp only [Bool.and_eq_true] at h
      have hc := Nat.eq_of_beq_eq_true h.1
      obtain ⟨xs, m, _, _, hl, hx, hi⟩ := DataW.trod_struct hu ht
      obtain ⟨ys, h1, h2, h3, h4⟩ := plain_okF d 0 fs.toList l m cs h.2 (by rw [hl, hc]; omega) fun i f hf => by
        have := hi i f (by simpa using hf)
        have hlt : i < fs.size := by
          have := (List.getElem?_eq_some_iff.1 hf).1
          simpa using this
        rw [List.getElem?_eq_getElem (by omega)] at this
        exact ⟨_, this⟩
      exact ⟨.st ys, ⟨by simp only [PV.sh, h1], h2, h3⟩, by simpa [PV.cells] using h4⟩
    · cases h
  | _ + 1, _, .one, _, _, _, h, _ => by simp [plainB] at h
theorem plain_okF : ∀ (d off : Nat) (fs : List Field) (l : List Sh) (m : Nat) (cs : List Value), plainF P d off fs l = true → cs.length = off + Sh.sizeL l →
    (∀ (i : Nat) (f : Field), fs[i]? = some f → ∃ x, DataW.trod enc P w base spare held m f.type ((cs.drop f.offset).take (P.cellsOf f.type)) = some x) →
    ∃ ys : List PV, PV.shL ys = l ∧ PV.okL ys ∧ PV.wfL ys ∧ PV.cellsL ys = cs.drop off
  | 0, _, _, _, _, _, h, _, _ => by simp [plainF] at h
  | d + 1, off, [], [], m, cs, _, hl, _ => ⟨[], rfl, trivial, trivial, by
    simp only [Sh.sizeL] at hl
    simp only [PV.cellsL]
    rw [List.drop_of_length_le (by omega)]⟩
  | d + 1, off, f :: fs, s :: l, m, cs, h, hl, hi => by
    simp only [plainF, Bool.and_eq_true] at h
    have ho := Nat.eq_of_beq_eq_true h.1
    have hz := Nat.eq_of_beq_eq_true h.2.1
    obtain ⟨x, hx⟩ := hi 0 f rfl
    rw [ho, hz] at hx
    simp only [Sh.sizeL] at hl
    obtain ⟨y, hy, hyc⟩ := plain_ok d f.type s m _ _ h.2.2.1 hx
    obtain ⟨ys, h1, h2, h3, h4⟩ := plain_okF d (off + s.size) fs l m cs h.2.2.2 (by omega) fun i f' hf => hi (i + 1) f' (by simpa using hf)
    refine ⟨y :: ys, by simp only [PV.shL, h1, hy.1], ⟨hy.2.1, h2⟩, ⟨hy.2.2, h3⟩, ?_⟩
    simp only [PV.cellsL]
    rw [hyc, h4, ← List.drop_drop, List.take_append_drop]
  | d + 1, _, [], _ :: _, _, _, h, _, _ => by simp [plainF] at h
  | d + 1, _, _ :: _, [], _, _, h, _, _ => by simp [plainF] at h
end

theorem cells?_get {a : Addr} {n : Nat} {cs : List Value} (h : w.cells? base a n = some cs) : cs.length = n ∧ ∀ j c, cs[j]? = some c → w.cell? (a.add j) = some c := by
  unfold World.cells? at h
  split at h
  · have hl := mapM_some_length h
    refine ⟨by simpa using hl, fun j c hj => ?_⟩
    have hlt : j < n := by
      have := (List.getElem?_eq_some_iff.1 hj).1
      simp at hl
      omega
    rw [mapM_some_get h j j (by simp [hlt]), hj]
  · cases h

theorem rowAt_append {a : Addr} {xs ys : List Value} (h1 : RowAt w a xs) (h2 : RowAt w (a.add xs.length) ys) : RowAt w a (xs ++ ys) := fun j c hj => by
  by_cases hlt : j < xs.length
  · rw [List.getElem?_append_left hlt] at hj
    exact h1 j c hj
  · rw [List.getElem?_append_right (by omega)] at hj
    have := h2 _ c hj
    rw [addAdd] at this
    rwa [show xs.length + (j - xs.length) = j by omega] at this

/-- So many elements of one shape, one behind the other. -/
theorem elems_ok {d e : Nat} {s : Sh} (hp : plainB P d e s = true) (hc : P.cellsOf e = s.size) {a : Addr} {m : Nat} : ∀ (n k : Nat),
    (∀ i, i < n → ∃ x, (w.cells? base (a.add ((k + i) * P.cellsOf e)) (P.cellsOf e)).bind (DataW.trod enc P w base spare held m e) = some x) →
    ∃ l : List PV, l.length = n ∧ (∀ y ∈ l, y.sh = s ∧ y.ok ∧ y.wf) ∧ RowAt w (a.add (k * s.size)) (PV.cellsL l)
  | 0, k, _ => ⟨[], rfl, by simp, fun j c hj => by simp [PV.cellsL] at hj⟩
  | n + 1, k, h => by
    obtain ⟨x, hx⟩ := h 0 (by omega)
    cases hcs : w.cells? base (a.add ((k + 0) * P.cellsOf e)) (P.cellsOf e) with
    | none => rw [hcs] at hx; simp at hx
    | some cs =>
      rw [hcs] at hx
      simp only [Option.bind_some] at hx
      obtain ⟨y, hy, hyc⟩ := plain_ok d e s m cs _ hp hx
      obtain ⟨hlen, hrow⟩ := cells?_get hcs
      rw [hc, Nat.add_zero] at hrow
      obtain ⟨l, h1, h2, h3⟩ := elems_ok hp hc n (k + 1) fun i hi => by
        have := h (i + 1) (by omega)
        rwa [show k + (i + 1) = k + 1 + i by omega] at this
      refine ⟨y :: l, by simp [h1], fun z hz => ?_, ?_⟩
      · rcases List.mem_cons.1 hz with rfl | hz
        · exact hy
        · exact h2 z hz
      · simp only [PV.cellsL]
        refine rowAt_append (by rw [hyc]; exact hrow) ?_
        rw [addAdd, hyc, hlen, hc, ← Nat.succ_mul]
        exact h3

theorem slice_ok {d t e : Nat} {s : Sh} (hu : P.underlying t = some (.slice e)) (hp : plainB P d e s = true) (hc : P.cellsOf e = s.size) {fuel : Nat} {cs : List Value} {x : DataW T × List MemPlace}
    (h : DataW.trod enc P w base spare held fuel t cs = some x) :
    ∃ (v : Value) (l : List PV), cs = [v] ∧ (∀ y ∈ l, y.sh = s ∧ y.ok ∧ y.wf) ∧ l.length ≤ maxLen ∧ Rel w noPhi noHeap (.ro s l) v := by
  rcases DataW.trod_slice hu h with ⟨rfl, _⟩ | ⟨a, len, cap, elems, rest, m, _, rfl, _, hb, hl, hm, hlen, hel, _, _⟩
  · refine ⟨_, [], rfl, by simp, by simp, ?_⟩
    simp only [Rel]
    exact ⟨none, 0, rfl, by simp, trivial, trivial, .inl trivial⟩
  · obtain ⟨l, h1, h2, h3⟩ := elems_ok (T := T) (enc := enc) (base := base) (spare := spare) (held := held) (w := w) (a := a) (m := m) hp hc len 0 fun i hi => by
      rw [Nat.zero_add, hel i hi, List.getElem?_eq_getElem (by omega)]
      exact ⟨_, rfl⟩
    refine ⟨_, l, rfl, h2, by omega, ?_⟩
    simp only [Rel]
    refine ⟨some a, cap, by rw [h1], by omega, PV.okL_iff.2 fun y hy => (h2 y hy).2.1, PV.allSh_iff.2 fun y hy => (h2 y hy).1, .inr ⟨a, rfl, ?_⟩⟩
    rw [Nat.zero_mul] at h3
    have : a.add 0 = a := by unfold Addr.add; simp
    rwa [this] at h3

/-- A plain argument. -/
theorem arg_plain {r : Reach} {b0 d t : Nat} {s : Sh} (hp : plainB P d t s = true) {v : Value} {dd : DataW T} {ps : List MemPlace} (hval : Value.okWide P w r b0 t v) (h : DataW.Trod enc P w base spare held t v dd ps) :
    ∃ y : PV, y.sh = s ∧ y.ok ∧ y.wf ∧ Rel w noPhi noHeap (.p y) v := by
  obtain ⟨fuel, hf⟩ := h
  obtain ⟨y, ⟨h1, h2, h3⟩, h4⟩ := plain_ok d t s fuel _ _ hp hf
  refine ⟨y, h1, h2, h3, ?_⟩
  simp only [Rel]
  refine ⟨h2, ?_⟩
  cases d with
  | zero => simp [plainB] at hp
  | succ d =>
    cases s with
    | one => simp [plainB] at hp
    | int k =>
      simp only [plainB] at hp
      split at hp
      · rename_i k' hu
        obtain ⟨n, rfl⟩ := okWide_int hu hval
        cases y <;> simp [PV.sh] at h1 <;> simp_all [PV.cells, Value.cells, PV.val]
      · cases hp
    | bool =>
      simp only [plainB] at hp
      split at hp
      · rename_i hu
        obtain ⟨n, rfl⟩ := okWide_bool hu hval
        cases y <;> simp [PV.sh] at h1 <;> simp_all [PV.cells, Value.cells, PV.val]
      · cases hp
    | arr n s =>
      simp only [plainB] at hp
      split at hp
      · rename_i n' e hu
        simp only [Value.okWide, hu] at hval
        obtain ⟨cs, rfl, _⟩ := hval
        cases y <;> simp [PV.sh] at h1
        simp only [PV.cells, Value.cells] at h4
        simp only [PV.val, h4]
      · cases hp
    | st l =>
      simp only [plainB] at hp
      split at hp
      · rename_i fs hu
        simp only [Value.okWide, hu] at hval
        obtain ⟨cs, rfl, _⟩ := hval
        cases y <;> simp [PV.sh] at h1
        simp only [PV.cells, Value.cells] at h4
        simp only [PV.val, h4]
      · cases hp

/-- A slice of plain data. -/
theorem arg_slice {r : Reach} {b0 d t e : Nat} {s : Sh} (hu : P.underlying t = some (.slice e)) (hp : plainB P d e s = true) (hc : P.cellsOf e = s.size) {v : Value} {dd : DataW T} {ps : List MemPlace} (hval : Value.okWide P w r b0 t v)
    (h : DataW.Trod enc P w base spare held t v dd ps) : ∃ l : List PV, (∀ y ∈ l, y.sh = s ∧ y.ok ∧ y.wf) ∧ l.length ≤ maxLen ∧ Rel w noPhi noHeap (.ro s l) v := by
  obtain ⟨a, len, cap, rfl⟩ := okWide_slice hu hval
  obtain ⟨fuel, hf⟩ := h
  obtain ⟨v, l, h1, h2, h3, h4⟩ := slice_ok hu hp hc hf
  simp [Value.cells] at h1
  subst h1
  exact ⟨l, h2, h3, h4⟩
end

/-- A law's contract, as the row asks for it. -/
theorem Fn.calls {P : Program} {G : Globs} {f : Nat} {as : List AV} (h : Fn P G f as (.p (.b true))) {w : World} (hG : GlobOK w G) {vs : List Value} (hr : RelL w noPhi noHeap as vs) :
    Calls P f vs.toArray w fun e w' => e = .returned (.bool true) ∧ Below w.heap.size w w' := by
  refine (h.2 w vs hG hr).mono ?_
  rintro e w' ⟨v, φ, H, x, rfl, h1, h2, h3⟩
  have hx : x = .p (.b true) := by
    unfold told at h3
    split at h3
    · split at h3
      · split at h3
        · cases h3
        · cases h3
      · split at h3
        · cases h3
        · cases h3
      · unfold told1 at h3
        split at h3
        · cases h3; rfl
        · unfold toldN at h3; split at h3 <;> cases h3
        · split at h3 <;> cases h3
        · split at h3 <;> cases h3
        · cases h3
    · cases h3
  subst hx
  simp only [Rel] at h2
  rw [h2.2]
  exact ⟨rfl, h1.below⟩

theorem ints_of {k : IntKind} {l : List PV} (h : ∀ y ∈ l, y.sh = .int k ∧ y.ok ∧ y.wf) : ∃ ns : List Int, l = ns.map (.i k) ∧ ∀ n ∈ ns, (Lit.int k n).wf = true := by
  induction l with
  | nil => exact ⟨[], rfl, by simp⟩
  | cons y l ih =>
    obtain ⟨ns, rfl, h2⟩ := ih fun z hz => h z (by simp [hz])
    obtain ⟨h3, _, h4⟩ := h y (by simp)
    cases y with
    | i k' n =>
      simp only [PV.sh, Sh.int.injEq] at h3
      subst h3
      refine ⟨n :: ns, rfl, fun m hm => ?_⟩
      rcases List.mem_cons.1 hm with rfl | hm
      · exact h4
      · exact h2 m hm
    | _ => simp [PV.sh] at h3

theorem arr_of {k : IntKind} {n : Nat} {y : PV} (h1 : y.sh = .arr n (.int k)) (h2 : y.ok) (h3 : y.wf) : ∃ ns : List Int, y = .arr n (.int k) (ns.map (.i k)) ∧ ns.length = n ∧ ∀ m ∈ ns, (Lit.int k m).wf = true := by
  cases y with
  | arr n' s l =>
    simp only [PV.sh, Sh.arr.injEq] at h1
    obtain ⟨rfl, rfl⟩ := h1
    obtain ⟨g1, g2, g3⟩ := h2
    obtain ⟨ns, rfl, g4⟩ := ints_of (k := k) (l := l) fun z hz => ⟨PV.allSh_iff.1 g3 z hz, PV.okL_iff.1 g2 z hz, PV.wfL_iff.1 h3 z hz⟩
    exact ⟨ns, rfl, by simpa using g1, g4⟩
  | _ => simp [PV.sh] at h1

theorem int_of {k : IntKind} {y : PV} (h1 : y.sh = .int k) (h3 : y.wf) : ∃ n, y = .i k n ∧ (Lit.int k n).wf = true := by
  cases y with
  | i k' n =>
    simp only [PV.sh, Sh.int.injEq] at h1
    subst h1
    exact ⟨n, rfl, h3⟩
  | _ => simp [PV.sh] at h1

theorem wf_u8 {n : Int} (h : (Lit.int .u8 n).wf = true) : 0 ≤ n ∧ n < 256 := by
  have := bounds_u8 h
  omega

end Go.Proofs.Ytmngcmfcbfkimaa.AM
