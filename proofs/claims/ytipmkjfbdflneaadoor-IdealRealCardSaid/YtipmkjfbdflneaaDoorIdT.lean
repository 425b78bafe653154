/- Tables as they come in. -/
import Derived.Test.YtipmkjfbdflneaaDoorAmC
import Derived.SizedLaws
import Derived.Test.YtipmkjfbdflneaaDoorIdB
import Derived.Test.YtipmkjfbdflneaaDoorpTokS
namespace Go.Proofs.YtipmkjfbdflneaaDoor.AM
open Go Go.RowKit Go.ChangeShapes Go.WideShapes

/-- The form of a field. -/
inductive FG where
  | pl (s : Sh)
  | sl (s : Sh)

def fieldsB (P : Program) (d : Nat) : Nat → List Field → List FG → Bool
  | _, [], [] => true
  | off, f :: fs, .pl s :: l => Nat.beq f.offset off && (Nat.beq (P.cellsOf f.type) s.size && (plainB P d f.type s && fieldsB P d (off + s.size) fs l))
  | off, f :: fs, .sl s :: l => Nat.beq f.offset off && (Nat.beq (P.cellsOf f.type) 1 && ((match P.underlying f.type with
      | some (.slice e) => plainB P d e s && Nat.beq (P.cellsOf e) s.size
      | _ => false) && fieldsB P d (off + 1) fs l))
  | _, _, _ => false
def FG.size : List FG → Nat
  | [] => 0
  | .pl s :: l => s.size + FG.size l
  | .sl _ :: l => 1 + FG.size l

def FG.isS : FG → AV → Prop
  | .pl s, x => ∃ y : PV, x = .p y ∧ y.sh = s ∧ y.ok ∧ y.wf
  | .sl s, x => ∃ l : List PV, x = .ro s l ∧ (∀ y ∈ l, y.sh = s ∧ y.ok ∧ y.wf) ∧ l.length ≤ reachBytes
def FG.isSL : List FG → List AV → Prop
  | [], [] => True
  | f :: l, x :: xs => f.isS x ∧ FG.isSL l xs
  | _, _ => False
def fieldsS (P : Program) : List Field → List FG → Bool
  | [], [] => true
  | _ :: fs, .pl _ :: l => fieldsS P fs l
  | f :: fs, .sl _ :: l => (match P.underlying f.type with
      | some (.slice e) => Nat.ble 1 (P.bytesOf e)
      | _ => false) && fieldsS P fs l
  | _, _ => false

section
variable {T : Type} {enc : TypeId × Value → T} {P : Program} {w : World} {base : Nat} {spare : Nat → Bool} {held : Bool}

theorem slice_okS {d t e : Nat} {s : Sh} (hu : P.underlying t = some (.slice e)) (hp : plainB P d e s = true) (hc : P.cellsOf e = s.size) (hb1 : 1 ≤ P.bytesOf e) {fuel : Nat} {cs : List Value} {x : DataW T × List MemPlace}
    (h : DataW.trod enc P w base spare held fuel t cs = some x) (hz : ∀ n ∈ x.1.weights P t, n ≤ reachBytes) :
    ∃ (v : Value) (l : List PV), cs = [v] ∧ (∀ y ∈ l, y.sh = s ∧ y.ok ∧ y.wf) ∧ l.length ≤ reachBytes ∧ Rel w noPhi noHeap (.ro s l) v := by
  rcases DataW.trod_slice hu h with ⟨rfl, _⟩ | ⟨a, len, cap, elems, rest, m, _, rfl, hx, hb, hl, hm, hlen, hel, _, _⟩
  · refine ⟨_, [], rfl, by simp, by simp, ?_⟩
    simp only [Rel]
    exact ⟨none, 0, rfl, by simp, trivial, trivial, .inl trivial⟩
  · obtain ⟨l, h1, h2, h3⟩ := elems_ok (T := T) (enc := enc) (base := base) (spare := spare) (held := held) (w := w) (a := a) (m := m) hp hc len 0 fun i hi => by
      rw [Nat.zero_add, hel i hi, List.getElem?_eq_getElem (by omega)]
      exact ⟨_, rfl⟩
    have hw := hz ((elems.length + rest.length) * P.bytesOf e) (by rw [hx]; simp [DataW.weights, hu])
    have hw2 : elems.length + rest.length ≤ (elems.length + rest.length) * P.bytesOf e := Nat.le_mul_of_pos_right _ (by omega)
    refine ⟨_, l, rfl, h2, by omega, ?_⟩
    simp only [Rel]
    refine ⟨some a, cap, by rw [h1], by omega, PV.okL_iff.2 fun y hy => (h2 y hy).2.1, PV.allSh_iff.2 fun y hy => (h2 y hy).1, .inr ⟨a, rfl, ?_⟩⟩
    rw [Nat.zero_mul] at h3
    have : a.add 0 = a := by unfold Addr.add; simp
    rwa [this] at h3
theorem fields_okS {d m : Nat} : ∀ (off : Nat) (fs : List Field) (l : List FG) (cs : List Value), fieldsB P d off fs l = true → fieldsS P fs l = true → cs.length = off + FG.size l →
    (∀ (i : Nat) (f : Field), fs[i]? = some f → ∃ x, DataW.trod enc P w base spare held m f.type ((cs.drop f.offset).take (P.cellsOf f.type)) = some x ∧ ∀ n ∈ x.1.weights P f.type, n ≤ reachBytes) →
    ∃ (xs : List AV) (vs : List Value), FG.isSL l xs ∧ RelL w noPhi noHeap xs vs ∧ (∀ x ∈ xs, x.stays = true) ∧ (vs.flatMap fun u => u.cells.toList) = cs.drop off
  | off, [], [], cs, _, _, hl, _ => ⟨[], [], trivial, by simp [RelL], by simp, by
    simp only [FG.size] at hl
    simp [List.drop_of_length_le (show cs.length ≤ off by omega)]⟩
  | off, f :: fs, .pl s :: l, cs, h, hs1, hl, hi => by
    simp only [fieldsB, Bool.and_eq_true] at h
    simp only [fieldsS] at hs1
    have ho := Nat.eq_of_beq_eq_true h.1
    have hz := Nat.eq_of_beq_eq_true h.2.1
    obtain ⟨x, hx, _⟩ := hi 0 f rfl
    rw [ho, hz] at hx
    simp only [FG.size] at hl
    obtain ⟨y, ⟨h1, h2, h3⟩, hyc⟩ := plain_ok d f.type s m _ _ h.2.2.1 hx
    obtain ⟨xs, vs, g1, g2, g3, g4⟩ := fields_okS (off + s.size) fs l cs h.2.2.2 hs1 (by omega) fun i f' hf => hi (i + 1) f' (by simpa using hf)
    refine ⟨.p y :: xs, y.val :: vs, ⟨⟨y, rfl, h1, h2, h3⟩, g1⟩, ⟨Rel.plain h2, g2⟩, fun z hz => ?_, ?_⟩
    · rcases List.mem_cons.1 hz with rfl | hz
      · rfl
      · exact g3 z hz
    · rw [List.flatMap_cons, g4, PV.cells_val_list, hyc, ← List.drop_drop, List.take_append_drop]
  | off, f :: fs, .sl s :: l, cs, h, hs1, hl, hi => by
    simp only [fieldsB, Bool.and_eq_true] at h
    simp only [fieldsS, Bool.and_eq_true] at hs1
    have ho := Nat.eq_of_beq_eq_true h.1
    have hz := Nat.eq_of_beq_eq_true h.2.1
    obtain ⟨x, hx, hw⟩ := hi 0 f rfl
    rw [ho, hz] at hx
    simp only [FG.size] at hl
    have hs := h.2.2.1
    have hs2 := hs1.1
    split at hs
    · rename_i e hu
      rw [hu] at hs2
      simp only [Bool.and_eq_true] at hs
      obtain ⟨v, l', h1, h2, h3, h4⟩ := slice_okS hu hs.1 (Nat.eq_of_beq_eq_true hs.2) (Nat.le_of_ble_eq_true hs2) hx hw
      obtain ⟨xs, vs, g1, g2, g3, g4⟩ := fields_okS (off + 1) fs l cs h.2.2.2 hs1.2 (by omega) fun i f' hf => hi (i + 1) f' (by simpa using hf)
      refine ⟨.ro s l' :: xs, v :: vs, ⟨⟨l', rfl, h2, h3⟩, g1⟩, ⟨h4, g2⟩, fun z hz => ?_, ?_⟩
      · rcases List.mem_cons.1 hz with rfl | hz
        · rfl
        · exact g3 z hz
      · have hv : v.cells.toList = [v] := by
          simp only [Rel] at h4
          obtain ⟨a, c, rfl, _⟩ := h4
          rfl
        rw [List.flatMap_cons, g4, hv, ← h1, ← List.drop_drop, List.take_append_drop]
    · cases hs
  | _, [], .pl _ :: _, _, h, _, _, _ => by simp [fieldsB] at h
  | _, [], .sl _ :: _, _, h, _, _, _ => by simp [fieldsB] at h
  | _, _ :: _, [], _, h, _, _, _ => by simp [fieldsB] at h

/-- A struct, its slices within reach. -/
theorem arg_stS {r : Reach} {b0 d t : Nat} {fs : Array Field} {l : List FG} (hu : P.underlying t = some (.struct fs)) (hp : fieldsB P d 0 fs.toList l = true) (hp2 : fieldsS P fs.toList l = true) (hc : P.cellsOf t = FG.size l) {v : Value} {dd : DataW T} {ps : List MemPlace} (hval : Value.okWide P w r b0 t v)
    (h : DataW.Trod enc P w base spare held t v dd ps) (hz : ∀ n ∈ dd.weights P t, n ≤ reachBytes) : ∃ xs : List AV, FG.isSL l xs ∧ Rel w noPhi noHeap (.st xs) v := by
  simp only [Value.okWide, hu] at hval
  obtain ⟨cs, rfl, _⟩ := hval
  obtain ⟨fuel, hf⟩ := h
  simp only [Value.cells] at hf
  obtain ⟨xs, m, _, hdd, hl, hx, hi⟩ := DataW.trod_struct hu hf
  have hd1 : dd = .agg (xs.map (·.1)) := congrArg Prod.fst hdd
  obtain ⟨ys, vs, g1, g2, g3, g4⟩ := fields_okS (T := T) (enc := enc) (base := base) (spare := spare) (held := held) (w := w) (m := m) (d := d) 0 fs.toList l cs.toList hp hp2 (by rw [hl, hc]; omega) fun i f hf => by
    have := hi i f (by simpa using hf)
    have hlt : i < fs.size := by
      have := (List.getElem?_eq_some_iff.1 hf).1
      simpa using this
    rw [List.getElem?_eq_getElem (by omega)] at this
    refine ⟨_, this, fun n hn => hz n ?_⟩
    rw [hd1]
    simp only [DataW.weights, hu]
    exact DataW.weights_mem_each (j := i) (by rw [List.getElem?_map, hf]; rfl) (by rw [List.getElem?_map, List.getElem?_eq_getElem (by omega)]; rfl) n hn
  refine ⟨ys, g1, ?_⟩
  simp only [Rel]
  refine ⟨vs, g2, g3, ?_⟩
  rw [g4]
  simp
end
end Go.Proofs.YtipmkjfbdflneaaDoor.AM

namespace Go.Proofs.YtipmkjfbdflneaaDoor.AM
open Go Go.Proofs Go.RowKit Go.ChangeShapes Go.WideShapes
set_option maxRecDepth 100000

theorem sized_at {T : Type} {P : Program} {ts : List TypeId} {ds : List (DataW T)} (h : (DataW.weightsEach P ts ds).all (· ≤ reachBytes) = true) {j : Nat} {t : TypeId} {d : DataW T} (ht : ts[j]? = some t) (hd : ds[j]? = some d) : ∀ n ∈ d.weights P t, n ≤ reachBytes :=
  fun n hn => by simpa using List.all_eq_true.1 h n (DataW.weights_mem_each ht hd n hn)
theorem tks_of : ∀ {l : List PV}, (∀ y ∈ l, y.sh = tsh ∧ y.ok ∧ y.wf) → ∃ ts : List Tk, l = ts.map (fun t => tkv t) ∧ ∀ t ∈ ts, t.ok
  | [], _ => ⟨[], rfl, by simp⟩
  | y :: l, h => by
    obtain ⟨h1, h2, h3⟩ := h y (by simp)
    obtain ⟨t, rfl, ht⟩ := tk_of h1 h2 h3
    obtain ⟨ts, rfl, hts⟩ := tks_of (l := l) fun z hz => h z (List.mem_cons_of_mem _ hz)
    exact ⟨t :: ts, rfl, fun z hz => by
      rcases List.mem_cons.1 hz with rfl | hz
      · exact ht
      · exact hts z hz⟩
theorem cms_of : ∀ {l : List PV}, (∀ y ∈ l, y.sh = csh ∧ y.ok ∧ y.wf) → ∃ cs : List Cm, l = cs.map (fun c => cmv c) ∧ ∀ c ∈ cs, c.ok
  | [], _ => ⟨[], rfl, by simp⟩
  | y :: l, h => by
    obtain ⟨h1, h2, h3⟩ := h y (by simp)
    obtain ⟨t, rfl, ht⟩ := cm_of h1 h2 h3
    obtain ⟨ts, rfl, hts⟩ := cms_of (l := l) fun z hz => h z (List.mem_cons_of_mem _ hz)
    exact ⟨t :: ts, rfl, fun z hz => by
      rcases List.mem_cons.1 hz with rfl | hz
      · exact ht
      · exact hts z hz⟩
theorem id_of {xs : List AV} (h : FG.isSL [.sl tsh, .sl csh] xs) : ∃ d : Id, xs = [tks d.ts, cms d.cs] ∧ d.ok := by
  match xs, h with
  | [x, y], h =>
    obtain ⟨⟨l, rfl, hl, hn⟩, ⟨m, rfl, hm, hk⟩, _⟩ := h
    obtain ⟨ts, rfl, hts⟩ := tks_of hl
    obtain ⟨cs, rfl, hcs⟩ := cms_of hm
    refine ⟨⟨ts, cs⟩, rfl, hts, hcs, ?_⟩
    rw [List.length_map] at hn hk
    have := reachBytes_lt
    unfold Id.n
    simp only
    omega
end Go.Proofs.YtipmkjfbdflneaaDoor.AM
