/- The abstract machine's operations are the model's: append and copy. -/
import Derived.Test.YtmngcmfcbfkimaaAm14
namespace Go.Proofs.Ytmngcmfcbfkimaa.AM
open Go Go.RowKit

variable {P : Program} {X : Ctx} {W : World} {φ : Phi} {H L : HeapF} {w : World} {ρ : Nat → AV} {a : Act}

/-- A slice's block goes on under another name; what it holds may be written. -/
theorem HSim.move {w' : World} {o id : Nat} {blk blk' : Blk} {b c c' : Nat} (h : HSim W φ H w) (ho : H o = some blk) (hd : blk ≠ .dead) (hle : BlkLe blk .dead) (hφ : φ o = some (b, c)) (hn : H id = none)
    (hos : w'.os = w.os) (htape : w'.tape = w.tape) (hout : w'.output = w.output) (hsz : w'.heap.size = w.heap.size) (hoth : ∀ k, k ≠ b → w'.heap[k]? = w.heap[k]?)
    (hok : BlkOK W (upd φ id (some (b, c'))) (upd (upd H o (some .dead)) id (some blk')) w' id blk') :
    HSim W (upd φ id (some (b, c'))) (upd (upd H o (some .dead)) id (some blk')) w' ∧ HExt φ H (upd φ id (some (b, c'))) (upd (upd H o (some .dead)) id (some blk')) := by
  have hoi : o ≠ id := fun e => by rw [e, hn] at ho; cases ho
  have he : HExt φ H (upd φ id (some (b, c'))) (upd (upd H o (some .dead)) id (some blk')) := fun i x hx => by
    have hne : i ≠ id := fun e => by rw [e, hn] at hx; cases hx
    refine ⟨upd_ne _ _ hne, ?_⟩
    rw [upd_ne _ _ hne]
    by_cases hi' : i = o
    · subst hi'
      rw [ho] at hx
      cases hx
      exact ⟨.dead, upd_same _ _ _, hle⟩
    · exact ⟨x, (upd_ne _ _ hi').trans hx, BlkLe.refl x⟩
  have hgeb := h.ge o blk b c ho hφ
  have old : ∀ i x, i ≠ id → upd (upd H o (some .dead)) id (some blk') i = some x → x ≠ .dead → H i = some x ∧ i ≠ o := fun i x hne hx dx => by
    rw [upd_ne _ _ hne] at hx
    by_cases hi' : i = o
    · subst hi'; rw [upd_same] at hx; cases hx; exact absurd rfl dx
    · rw [upd_ne _ _ hi'] at hx; exact ⟨hx, hi'⟩
  refine ⟨⟨h.below.trans ⟨hos, htape, hout, Nat.le_of_eq hsz.symm, fun k hk => hoth k (by omega)⟩, fun i x hx => ?_, fun i x b' c1 hx hφ' => ?_, fun i j x y b' c1 c2 hx hy dx dy hij h1 h2 => ?_⟩, he⟩
  · by_cases hi' : i = id
    · subst hi'
      rw [upd_same] at hx
      cases hx
      exact hok
    · by_cases hd' : x = .dead
      · subst hd'; trivial
      · obtain ⟨g1, g2⟩ := old i x hi' hx hd'
        refine (h.blk i x g1).keep he (upd_ne _ _ hi') (fun dx b' c1 hφ' => hoth b' (fun e => ?_))
        subst e
        exact h.dis i o x blk b' c1 c g1 ho dx hd g2 hφ' hφ
  · by_cases hi' : i = id
    · subst hi'
      rw [upd_same] at hφ'
      cases hφ'
      exact hgeb
    · rw [upd_ne _ _ hi'] at hx hφ'
      by_cases hi2 : i = o
      · subst hi2
        exact h.ge i blk b' c1 ho hφ'
      · rw [upd_ne _ _ hi2] at hx
        exact h.ge i x b' c1 hx hφ'
  · by_cases hi' : i = id
    · have hj' : j ≠ id := fun e => hij (hi'.trans e.symm)
      obtain ⟨g1, g2⟩ := old j y hj' hy dy
      rw [upd_ne _ _ hj'] at h2
      rw [hi', upd_same] at h1
      cases h1
      exact h.dis j o y blk _ _ _ g1 ho dy hd g2 h2 hφ
    · obtain ⟨g1, g2⟩ := old i x hi' hx dx
      rw [upd_ne _ _ hi'] at h1
      by_cases hj' : j = id
      · rw [hj', upd_same] at h2
        cases h2
        exact h.dis i o x blk _ _ _ g1 ho dx hd g2 h1 hφ
      · obtain ⟨g3, g4⟩ := old j y hj' hy dy
        rw [upd_ne _ _ hj'] at h2
        exact h.dis i j x y b' c1 c2 g1 g3 dx dy hij h1 h2

theorem run_append_zero {t u e eu : TypeId} {i : TypeInfo} (ht : P.underlying t = some (.slice e)) (hu : P.underlying u = some (.slice eu)) (hi : P.info? e = some i) (ty : TypeId) (ao so : Option Addr) (n c sc : Nat) (hn : n ≤ c) :
    (Builtin.append_ #[t, u] ty #[.slice ao n c, .slice so 0 sc]).run P w = .ok (.slice ao n c) w := by
  cases so <;> cases ao <;> simp [Builtin.append_, run_underlying ht, run_underlying hu, sizeOf, typeInfo, hi, Builtin.lenOf, hn, Builtin.firstCells, loadCells, loadCellsFrom, storeCells]

theorem run_append_types {t u e eu : TypeId} (ht : P.underlying t = some (.slice e)) (hu : P.underlying u = some (.slice eu)) (ty : TypeId) (ao : Option Addr) (n c : Nat) (x : Value) :
    (Builtin.append_ #[t, u] ty #[.slice ao n c, x]).run P w = (Builtin.append_ #[t, t] ty #[.slice ao n c, x]).run P w := by
  unfold Builtin.append_
  simp only [List.getElem?_toArray, List.getElem?_cons_zero, List.getElem?_cons_succ, Sem.run_bind, run_underlying ht, run_underlying hu, Result.andThen_ok, Sem.run_pure]

/-- A slice that is appended to, and what is appended. -/
theorem append_core (hS : HSim W φ H w) {t u e eu : TypeId} {i : TypeInfo} {zv : Value} (ht : P.underlying t = some (.slice e)) (hu : P.underlying u = some (.slice eu)) (hi : P.info? e = some i) (hz : i.zero = some zv)
    (hzs : zv.cells.size = i.size) {o id n c : Nat} {s : Sh} {l m : List PV} {ao so : Option Addr} {sc : Nat} (ho : H o = some (.els true s l)) (hn : n ≤ l.length) (hid : H id = none)
    (hs : i.size = s.size) (hb : 1 ≤ i.bytes) (hbytes : (n + m.length) * i.bytes ≤ 140737488351232)
    (hdst : match φ o with
      | none => ao = none ∧ n = 0 ∧ c = 0 ∧ l = []
      | some (b, cap) => ao = some ⟨b, 0, none⟩ ∧ n ≤ c ∧ c ≤ cap)
    (hm1 : PV.okL m) (hm2 : PV.allSh s m) (hsrc : m = [] ∨ ∃ ad, so = some ad ∧ RowAt w ad (PV.cellsL m)) (ty : TypeId) :
    ∃ v' w' φ', (Builtin.append_ #[t, u] ty #[.slice ao n c, .slice so m.length sc]).run P w = .ok v' w' ∧
      HSim W φ' (upd (upd H o (some .dead)) id (some (.els true s (l.take n ++ m)))) w' ∧ HExt φ H φ' (upd (upd H o (some .dead)) id (some (.els true s (l.take n ++ m)))) ∧
      Rel W φ' (upd (upd H o (some .dead)) id (some (.els true s (l.take n ++ m)))) (.own id) v' := by
  have hoi : id ≠ o := fun e => by rw [e, ho] at hid; cases hid
  obtain ⟨h1, h2, h3⟩ := hS.blk _ _ ho
  have hlen : (l.take n ++ m).length = n + m.length := by rw [List.length_append, List.length_take, Nat.min_eq_left hn]
  have hok : PV.okL (l.take n ++ m) := (PV.okL_append _ _).2 ⟨okL_take h1 n, hm1⟩
  have hall : PV.allSh s (l.take n ++ m) := (PV.allSh_append _ _ _).2 ⟨allSh_take h2 n, hm2⟩
  have hmul : n + m.length ≤ (n + m.length) * i.bytes := Nat.le_mul_of_pos_right _ hb
  have hbig : n + m.length ≤ maxLen := by unfold maxLen; omega
  have hnl : (PV.cellsL (l.take n)).length = n * s.size := by rw [PV.cellsL_arr _ s (okL_take h1 n) (allSh_take h2 n), List.length_take, Nat.min_eq_left hn]
  have hml : (PV.cellsL m).length = m.length * i.size := by rw [PV.cellsL_arr _ s hm1 hm2, hs]
  have hself : upd (upd H o (some .dead)) id (some (Blk.els true s (l.take n ++ m))) id = some (.els true s (l.take n ++ m)) := upd_same _ _ _
  -- a block of its own, made new
  have fresh : ∀ (w1 : World) (cap : Nat) (cs : Array Value), w1.heap = w.heap → w1.os = w.os → w1.tape = w.tape → w1.output = w.output → n + m.length ≤ cap → cap ≤ maxLen → cap * s.size ≤ cs.size → cs.toList.take (PV.cellsL (l.take n ++ m)).length = PV.cellsL (l.take n ++ m) →
      HSim W (upd φ id (some (w.heap.size, cap))) (upd (upd H o (some .dead)) id (some (.els true s (l.take n ++ m)))) (w1.alloc (.cells cs e)) ∧
      HExt φ H (upd φ id (some (w.heap.size, cap))) (upd (upd H o (some .dead)) id (some (.els true s (l.take n ++ m)))) := by
    intro w1 cap cs hw1 e1 e2 e3 hcap hcap2 hcs htk
    obtain ⟨k1, k2⟩ := hS.kill ho (by simp [BlkLe])
    have hbel : Below w.heap.size w (w1.alloc (.cells cs e)) := by
      have : Below w.heap.size w w1 := ⟨e1, e2, e3, by rw [hw1]; exact Nat.le_refl _, fun k _ => by rw [hw1]⟩
      exact this.alloc (by rw [hw1]; exact Nat.le_refl _) _
    obtain ⟨g1, g2⟩ := k1.add (w' := w1.alloc (.cells cs e)) (id := id) (blk := .els true s (l.take n ++ m)) (pc := some (w.heap.size, cap)) hbel (by rw [upd_ne _ _ hoi]; exact hid)
      ⟨hok, hall, by
        rw [upd_same]
        refine ⟨cs, e, (0, 0), ?_, hcs, by rw [hlen]; exact hcap, hcap2, htk, fun _ => rfl⟩
        have := heap_alloc_new w1 (.cells cs e)
        rw [hw1] at this
        exact this⟩ (fun b c h => by cases h; exact Nat.le_refl _)
    exact ⟨g1, k2.trans g2⟩
  rw [run_append_types ht hu]
  by_cases hm0 : m = []
  · subst hm0
    simp only [List.length_nil, List.append_nil]
    cases hφ : φ o with
    | none =>
      rw [hφ] at hdst
      obtain ⟨rfl, rfl, rfl, rfl⟩ := hdst
      refine ⟨_, w, upd φ id none, run_append_zero ht ht hi ty _ _ 0 0 sc (Nat.le_refl _), ?_⟩
      obtain ⟨k1, k2⟩ := hS.kill ho (by simp [BlkLe])
      obtain ⟨g1, g2⟩ := k1.add (w' := w) (id := id) (blk := .els true s (([] : List PV).take 0)) (pc := none) (Below.refl _ _) (by rw [upd_ne _ _ hoi]; exact hid)
        ⟨trivial, trivial, by rw [upd_same]; rfl⟩ (fun b c h => by cases h)
      refine ⟨g1, k2.trans g2, ?_⟩
      simp only [Rel, upd_same]
      exact ⟨trivial, rfl⟩
    | some p =>
      obtain ⟨b, cap⟩ := p
      rw [hφ] at hdst h3
      obtain ⟨rfl, hnc, hcc⟩ := hdst
      obtain ⟨cs, T, fr, h4, h5, h6, h7, h8, h9⟩ := h3
      have hfr := h9 rfl
      subst hfr
      refine ⟨_, w, upd φ id (some (b, cap)), run_append_zero ht ht hi ty _ _ n c sc hnc, ?_⟩
      obtain ⟨g1, g2⟩ := hS.move (w' := w) (id := id) (blk' := .els true s (l.take n)) (c' := cap) ho (by simp) (by simp [BlkLe]) hφ hid rfl rfl rfl rfl (fun _ _ => rfl)
        ⟨okL_take h1 n, allSh_take h2 n, by
          rw [upd_same]
          refine ⟨cs, T, (0, 0), h4, h5, by rw [List.length_take]; omega, h7, ?_, fun _ => rfl⟩
          have h10 : PV.cellsL l = PV.cellsL (l.take n) ++ PV.cellsL (l.drop n) := by rw [← PV.cellsL_append, List.take_append_drop]
          have h11 : cs.toList.take (PV.cellsL (l.take n)).length = ((cs.toList.take (PV.cellsL l).length)).take (PV.cellsL (l.take n)).length := by
            rw [List.take_take, Nat.min_eq_left (by rw [h10, List.length_append]; omega)]
          rw [h11, h8, h10, List.take_left' rfl]⟩
      refine ⟨g1, g2, ?_⟩
      simp only [Rel, upd_same]
      refine ⟨c, ?_, hcc, by rw [List.length_take]; omega⟩
      rw [List.length_take, Nat.min_eq_left hn]
  · have hmpos : 0 < m.length := List.length_pos_iff.2 hm0
    obtain ⟨sa, rfl, hrow⟩ := hsrc.resolve_left hm0
    cases hφ : φ o with
    | none =>
      rw [hφ] at hdst
      obtain ⟨rfl, rfl, rfl, rfl⟩ := hdst
      have hrun := run_append_nil (P := P) w t ty e i zv ht hi hz sa m.length sc (PV.cellsL m) hml hrow hmpos (by unfold maxLen at hbig; omega) (by rw [Nat.zero_add] at hbytes; omega)
      have hge := grownCap_ge w m.length 0 e
      have hle := grownCap_le_maxLen w m.length 0 e (by omega)
      obtain ⟨g1, g2⟩ := fresh w.drew (grownCap w m.length 0 e) ((PV.cellsL m).toArray ++ Builtin.zeroCells zv.cells (grownCap w m.length 0 e - m.length)) rfl rfl rfl rfl (by omega) hle
        (by simp only [Array.size_append, List.size_toArray, size_zeroCells, hzs, hml, hs, ← Nat.add_mul]; rw [show m.length + (grownCap w m.length 0 e - m.length) = grownCap w m.length 0 e from by omega]; exact Nat.le_refl _)
        (by simp only [List.take_nil, List.nil_append, Array.toList_append]; exact List.take_left' rfl)
      refine ⟨_, _, _, hrun, g1, g2, ?_⟩
      simp only [Rel, upd_same]
      exact ⟨_, by rw [hlen, Nat.zero_add], Nat.le_refl _, by rw [hlen]; omega⟩
    | some p =>
      obtain ⟨b, cap⟩ := p
      rw [hφ] at hdst h3
      obtain ⟨rfl, hnc, hcc⟩ := hdst
      obtain ⟨cs, T, fr, h4, h5, h6, h7, h8, h9⟩ := h3
      have hfr := h9 rfl
      subst hfr
      have h10 : PV.cellsL l = PV.cellsL (l.take n) ++ PV.cellsL (l.drop n) := by rw [← PV.cellsL_append, List.take_append_drop]
      have h11 : cs.toList.take (n * i.size) = PV.cellsL (l.take n) := by
        have h12 : cs.toList.take (PV.cellsL (l.take n)).length = ((cs.toList.take (PV.cellsL l).length)).take (PV.cellsL (l.take n)).length := by
          rw [List.take_take, Nat.min_eq_left (by rw [h10, List.length_append]; omega)]
        rw [hs, ← hnl, h12, h8, h10, List.take_left' rfl]
      have hcsz : c * s.size ≤ cs.size := Nat.le_trans (Nat.mul_le_mul_right _ hcc) h5
      by_cases hroom : n + m.length ≤ c
      · have hfit : n * i.size + (PV.cellsL m).length ≤ cs.size := by
          rw [hml, ← Nat.add_mul, hs]
          exact Nat.le_trans (Nat.mul_le_mul_right _ hroom) hcsz
        have hfit2 : n * i.size ≤ cs.size := by omega
        have hT : ∀ E, (Builtin.append_ #[t, t] ty #[.slice (some ⟨b, 0, none⟩) n c, .slice (some sa) m.length sc]).run P w = E ↔
            (Builtin.append_ #[t, t] ty #[.slice (some ⟨b, 0, none⟩) n c, .slice (some sa) m.length sc]).run P w = E := fun _ => Iff.rfl
        have hf := run_firstCells_some (P := P) w i.size m.length sa m.length sc (PV.cellsL m) hml hrow
        have hst := run_storeCells_at P b (n * i.size) T (PV.cellsL m) 0 cs w h4 (by simpa using hfit) (fun c hc => PV.cellsL_oneCell m c hc)
        simp only [Nat.add_zero] at hst
        have hrun : (Builtin.append_ #[t, t] ty #[.slice (some ⟨b, 0, none⟩) n c, .slice (some sa) m.length sc]).run P w =
            .ok (.slice (some ⟨b, 0, none⟩) (n + m.length) c) (w.setRow b (cs.toList.take (n * i.size) ++ PV.cellsL m ++ cs.toList.drop (n * i.size + (PV.cellsL m).length)).toArray) := by
          simp [Builtin.append_, run_underlying ht, sizeOf, typeInfo, hi, Builtin.lenOf, hroom, hf, Addr.add_lit, hst]
        refine ⟨_, _, upd φ id (some (b, cap)), hrun, ?_⟩
        have hcsl : (cs.toList.take (n * i.size) ++ PV.cellsL m ++ cs.toList.drop (n * i.size + (PV.cellsL m).length)).length = cs.size := by
          simp only [List.length_append, List.length_take, List.length_drop, Array.length_toList]
          omega
        obtain ⟨g1, g2⟩ := hS.move (w' := w.setRow b (cs.toList.take (n * i.size) ++ PV.cellsL m ++ cs.toList.drop (n * i.size + (PV.cellsL m).length)).toArray) (id := id) (blk' := .els true s (l.take n ++ m)) (c' := cap)
          ho (by simp) (by simp [BlkLe]) hφ hid rfl rfl rfl (by simp) (fun k hk => setRow_other w b k _ hk)
          ⟨hok, hall, by
            rw [upd_same]
            refine ⟨_, T, (0, 0), setRow_heap w b _ _ T _ h4, by simp only [List.size_toArray]; rw [hcsl]; exact h5, by rw [hlen]; omega, h7, ?_, fun _ => rfl⟩
            rw [h11, PV.cellsL_append]
            exact List.take_left' rfl⟩
        refine ⟨g1, g2, ?_⟩
        simp only [Rel, upd_same]
        exact ⟨c, by rw [hlen], hcc, by rw [hlen]; exact hroom⟩
      · have holds : RowAt w ⟨b, 0, none⟩ (PV.cellsL (l.take n)) := by
          have := els_at h4 h8 h1 h2 (off := 0) (n := n) (by omega)
          simpa using this
        have hrun := run_append_grow (P := P) w t ty e i zv ht hi hz ⟨b, 0, none⟩ n c (PV.cellsL (l.take n)) (by rw [hnl, hs]) holds sa m.length sc (PV.cellsL m) hml hrow (by omega) (by unfold maxLen at hbig; omega)
          (growslice_fits (by omega) (by omega))
        have hge := grownCap_ge w (n + m.length) c e
        have hle := grownCap_le_maxLen w (n + m.length) c e hbig
        obtain ⟨g1, g2⟩ := fresh w.drew (grownCap w (n + m.length) c e) ((PV.cellsL (l.take n)).toArray ++ (PV.cellsL m).toArray ++ Builtin.zeroCells zv.cells (grownCap w (n + m.length) c e - (n + m.length))) rfl rfl rfl rfl hge hle
          (by simp only [Array.size_append, List.size_toArray, size_zeroCells, hzs, hml, hs, hnl, ← Nat.add_mul]; rw [show n + m.length + (grownCap w (n + m.length) c e - (n + m.length)) = grownCap w (n + m.length) c e from by omega]; exact Nat.le_refl _)
          (by simp only [Array.toList_append, PV.cellsL_append]; exact List.take_left' rfl)
        refine ⟨_, _, _, hrun, g1, g2, ?_⟩
        simp only [Rel, upd_same]
        exact ⟨_, by rw [hlen], Nat.le_refl _, by rw [hlen]; omega⟩

end Go.Proofs.Ytmngcmfcbfkimaa.AM
