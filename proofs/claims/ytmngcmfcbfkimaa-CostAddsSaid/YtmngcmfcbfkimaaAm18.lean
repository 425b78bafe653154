/- The abstract machine's operations are the model's: literals, comparisons. -/
import Derived.Test.YtmngcmfcbfkimaaAm17
namespace Go.Proofs.Ytmngcmfcbfkimaa.AM
open Go Go.RowKit

variable {P : Program} {X : Ctx} {W : World} {φ : Phi} {H L : HeapF} {w : World} {ρ : Nat → AV} {a : Act}

theorem run_mapM_fields (fields : Array Field) (sz : Field → Nat) (h : ∀ f ∈ fields.toList, (sizeOf f.type).run P w = .ok (sz f) w) :
    (fields.mapM fun f => do pure (f.offset, ← sizeOf f.type) : Sem (Array (Nat × Nat))).run P w = .ok (fields.map fun f => (f.offset, sz f)) w := by
  rw [Array.mapM_eq_mapM_toList, Sem.run_map]
  have key : ∀ l : List Field, (∀ f ∈ l, (sizeOf f.type).run P w = .ok (sz f) w) → (l.mapM fun f => do pure (f.offset, ← sizeOf f.type) : Sem (List (Nat × Nat))).run P w = .ok (l.map fun f => (f.offset, sz f)) w := by
    intro l hl
    induction l with
    | nil => simp
    | cons f l ih =>
      rw [List.mapM_cons]
      simp only [Sem.run_bind, hl f (by simp), Result.andThen_ok, Sem.run_pure, ih (fun g hg => hl g (by simp [hg])), List.map_cons]
  rw [key _ h]
  simp only [Result.andThen_ok]
  congr 1
  rw [← Array.toArray_toList (xs := fields.map _), Array.toList_map]

theorem info_size {t : Nat} {i : TypeInfo} (h : P.info? t = some i) : (sizeOf t).run P w = .ok i.size w := by simp [sizeOf, typeInfo, h]

theorem zero_run {t : Nat} {i : TypeInfo} {z : Value} (h : P.info? t = some i) (hz : i.zero = some z) : (zeroValue t).run P w = .ok z w := by simp [zeroValue, typeInfo, h, hz]

theorem buildV_ok (hX : X.ok P) {t : Nat} {parts : List (Nat × AV)} {vals : Array (Nat × Value)} {v : AV} (hr : RelP W φ H parts vals.toList) (h : buildV X t parts = some v) :
    ∃ v', (Instr.build t vals).run P w = .ok v' w ∧ Rel W φ H v v' := by
  unfold buildV at h
  -- the places of a struct's fields
  have hplaces : ∀ fields : Array Field, (∀ f ∈ fields.toList, ∃ i, P.info? f.type = some i) →
      ∃ places : Array (Nat × Nat), (fields.mapM fun f => do pure (f.offset, ← sizeOf f.type) : Sem (Array (Nat × Nat))).run P w = .ok places w ∧
        ∀ (f : Nat) (fld : Field) (d : TD), fields[f]? = some fld → X.at fld.type = some d → places[f]? = some (fld.offset, d.size) := by
    intro fields hall
    refine ⟨_, run_mapM_fields fields (fun f => ((P.info? f.type).map (·.size)).getD 0) (fun f hf => ?_), fun f fld d' hf hd' => ?_⟩
    · obtain ⟨i, hi⟩ := hall f hf
      rw [info_size hi, hi]
      rfl
    · obtain ⟨i, i1, i2, _⟩ := (hX _ d' hd').info
      simp [hf, i1, i2]
  split at h
  · rename_i fs a b c l hd
    obtain ⟨i, i1, i2, i3, i4⟩ := (hX t _ hd).info
    obtain ⟨zs1, zs2, zv, zs3, zs4⟩ := i4 _ rfl
    have hzr := zs4 W φ H
    simp only [Rel, PV.ok] at hzr
    obtain ⟨hzok, rfl⟩ := hzr
    obtain ⟨fields, hu, _, _, _, _, hall⟩ := (hX t _ hd).kind
    obtain ⟨places, hpl, hp⟩ := hplaces fields hall
    split at h
    · rename_i m hm
      cases h
      obtain ⟨k1, k2, k3⟩ := fillS_ok hX hu hp hr hzok hm
      refine ⟨.agg (PV.cellsL m).toArray, ?_, ?_⟩
      · simp only [Instr.build, Sem.run_bind, zero_run i1 zs3, Result.andThen_ok, run_underlying hu, hpl, PV.val, cells_agg, k3, Sem.run_pure]
      · unfold Rel
        exact ⟨by simp only [PV.ok]; exact k1, rfl⟩
    · cases h
  · rename_i fs a b c l hd
    obtain ⟨i, i1, i2, i3, i4⟩ := (hX t _ hd).info
    obtain ⟨zs1, zs2, zv, zs3, zs4⟩ := i4 _ rfl
    have hzr := zs4 W φ H
    simp only [Rel] at hzr
    obtain ⟨us, hus, hst, rfl⟩ := hzr
    obtain ⟨fields, hu, _, _, _, _, hall⟩ := (hX t _ hd).kind
    obtain ⟨places, hpl, hp⟩ := hplaces fields hall
    split at h
    · rename_i m hm
      cases h
      obtain ⟨us', k1, k2, k3⟩ := fillSA_ok hX hu hp hr hus hst hm
      refine ⟨.agg (us'.flatMap fun u => u.cells.toList).toArray, ?_, ?_⟩
      · simp only [Instr.build, Sem.run_bind, zero_run i1 zs3, Result.andThen_ok, run_underlying hu, hpl, cells_agg, k3, Sem.run_pure]
      · unfold Rel
        exact ⟨us', k1, k2, rfl⟩
    · cases h
  · rename_i m0 e0 a b c n s l hd
    obtain ⟨i, i1, i2, i3, i4⟩ := (hX t _ hd).info
    obtain ⟨zs1, zs2, zv, zs3, zs4⟩ := i4 _ rfl
    have hzr := zs4 W φ H
    simp only [Rel, PV.ok] at hzr
    obtain ⟨⟨hl, hzok, hzsh⟩, rfl⟩ := hzr
    split at h
    · rename_i hb
      simp only [Bool.and_eq_true] at hb
      obtain ⟨e, he, _⟩ := isArr_ok hX hb.1
      have hsz := elemOK_ok hX hb.2 (.inl ⟨n, he⟩) w
      split at h
      · rename_i m hm
        cases h
        obtain ⟨k1, k2, k3, k4⟩ := fillP_ok hr hzok hzsh hm
        refine ⟨.agg (PV.cellsL m).toArray, ?_, ?_⟩
        · simp only [Instr.build, Sem.run_bind, zero_run i1 zs3, Result.andThen_ok, run_underlying he, hsz, PV.val, cells_agg, k4, Sem.run_pure]
        · unfold Rel
          exact ⟨by simp only [PV.ok]; exact ⟨k3.trans hl, k1, k2⟩, rfl⟩
      · cases h
    · cases h
  · cases h

theorem buildSliceV_ok (hX : X.ok P) (hS : HSim W φ H w) {id t n : Nat} (hfr : L id = none → H id = none) {parts : List (Nat × AV)} {vals : Array (Nat × Value)} {v : AV} {d : Delta} (hr : RelP W φ H parts vals.toList)
    (h : buildSliceV X L id t n parts = some (v, d)) :
    ∃ v' w' φ', (Instr.buildSlice t n vals).run P w = .ok v' w' ∧ HSim W φ' (addF d H) w' ∧ HExt φ H φ' (addF d H) ∧ Rel W φ' (addF d H) v v' := by
  unfold buildSliceV at h
  split at h
  · cases h
  · rename_i hLid
    have hid := hfr hLid
    split at h
    · rename_i z td hz
      obtain ⟨e, he, hd, hzero⟩ := elemZero_ok hX hz
      obtain ⟨i, i1, i2, i3, i4⟩ := (hX e td hd).info
      obtain ⟨zs1, zs2, zv, zs3, zs4⟩ := i4 _ hzero
      have hzr := zs4 W φ H
      simp only [Rel] at hzr
      obtain ⟨hzok, rfl⟩ := hzr
      split at h
      · rename_i hb
        simp only [Bool.and_eq_true, Bool.not_eq_true'] at hb
        obtain ⟨⟨hb1, hb2⟩, hb3⟩ := hb
        have hb1 := Nat.le_of_ble_eq_true hb1
        have hsize := fits_size hb2
        have hsize' : td.size = z.sh.size := hsize.symm
        have hpos : td.size ≠ 0 := fun e => by rw [e] at hb3; simp at hb3
        split at h
        · rename_i l hl
          cases h
          obtain ⟨k1, k2, k3, k4⟩ := fillP_ok hr (okL_replicate hzok n) (allSh_replicate z n) hl
          have hszr := (hX e td hd).sizeOf w
          have hzc : (madeCells z.val.cells (n * td.size)) = (PV.cellsL (List.replicate n z)).toArray := by
            rw [← Array.toArray_toList (xs := madeCells _ _), hsize', PV.cells_val, ← PV.cells_length z hzok, madeCells_replicate, ← cellsL_replicate]
          have hlenl : l.length = n := by rw [k3, List.length_replicate]
          have hrun : (Instr.buildSlice t n vals).run P w = .ok (.slice (some ⟨w.heap.size, 0, none⟩) n n) (w.alloc (.cells (PV.cellsL l).toArray e)) := by
            have hbig : ¬ (n * td.size > 2 ^ 24) := by omega
            simp only [Instr.buildSlice, Sem.run_bind, run_underlying he, Result.andThen_ok, hszr, Sem.run_ite, if_neg hbig, Sem.run_pure]
            by_cases h0 : n * td.size = 0
            · have hn0 : n = 0 := by
                rcases Nat.mul_eq_zero.1 h0 with h0 | h0
                · exact h0
                · exact absurd h0 hpos
              subst hn0
              rw [if_pos h0]
              have hz0 : ((Array.range (0 * td.size)).map fun x => (#[] : Array Value)[x % (#[] : Array Value).size]!) = (PV.cellsL (List.replicate 0 z)).toArray := by
                simp [PV.cellsL]
              rw [hsize'] at hz0 ⊢
              rw [hz0, k4]
              simp [newRow]
            · rw [if_neg h0]
              simp only [zero_run i1 zs3, Result.andThen_ok]
              have hz1 : ((Array.range (n * td.size)).map fun x => z.val.cells[x % z.val.cells.size]!) = (PV.cellsL (List.replicate n z)).toArray := hzc
              rw [hz1, hsize', k4]
              simp [newRow]
          refine ⟨_, _, upd φ id (some (w.heap.size, n)), hrun, ?_⟩
          simp only [addF]
          obtain ⟨g1, g2⟩ := hS.add (w' := w.alloc (.cells (PV.cellsL l).toArray e)) (id := id) (blk := .els true z.sh l) (pc := some (w.heap.size, n)) ((Below.refl w.heap.size w).alloc (Nat.le_refl _) _) hid
            ⟨k1, k2, by
              rw [upd_same]
              refine ⟨_, e, (0, 0), heap_alloc_new w _, ?_, by omega, ?_, by simp, fun _ => rfl⟩
              · rw [List.size_toArray, PV.cellsL_arr _ z.sh k1 k2, hlenl]
                exact Nat.le_refl _
              · have : n ≤ n * td.size := Nat.le_mul_of_pos_right _ (Nat.pos_of_ne_zero hpos)
                unfold maxLen
                omega⟩ (fun b c h => by cases h; exact Nat.le_refl _)
          refine ⟨g1, g2, ?_⟩
          simp only [Rel, upd_same]
          exact ⟨n, by rw [hlenl], Nat.le_refl _, by omega⟩
        · cases h
      · cases h
    · rename_i td hz
      obtain ⟨e, he, hd, hzero⟩ := elemZero_ok hX hz
      obtain ⟨i, i1, i2, i3, i4⟩ := (hX e td hd).info
      obtain ⟨zs1, zs2, zv, zs3, zs4⟩ := i4 _ hzero
      have hzr := zs4 W φ H
      simp only [Rel] at hzr
      subst hzr
      split at h
      · rename_i hb
        simp only [Bool.and_eq_true] at hb
        have hb1 := Nat.le_of_ble_eq_true hb.1
        have hsize : 1 = td.size := fits_size hb.2
        split at h
        · rename_i l hl
          cases h
          have hrep : RelL W φ H (List.replicate n .nil) (List.replicate n (.slice none 0 0)) := by
            clear hl hb1 hb
            induction n with
            | zero => simp [RelL]
            | succ n ih => simp only [List.replicate_succ, RelL]; exact ⟨by unfold Rel; rfl, ih⟩
          obtain ⟨us', k1, k3, k2, k4⟩ := fillA_ok hr hrep (fun x hx => by rw [List.eq_of_mem_replicate hx]; exact ⟨rfl, rfl⟩) hl
          have hszr := (hX e td hd).sizeOf w
          have hlenl : l.length = n := by rw [k3, List.length_replicate]
          have hrun : (Instr.buildSlice t n vals).run P w = .ok (.slice (some ⟨w.heap.size, 0, none⟩) n n) (w.alloc (.cells us'.toArray e)) := by
            rw [← hsize] at hszr hb1
            have hbig : ¬ (n * 1 > 2 ^ 24) := by omega
            simp only [Instr.buildSlice, Sem.run_bind, run_underlying he, Result.andThen_ok, hszr, Sem.run_ite, if_neg hbig, Sem.run_pure]
            by_cases h0 : n * 1 = 0
            · have hn0 : n = 0 := by omega
              subst hn0
              rw [if_pos h0]
              have hz0 : ((Array.range (0 * 1)).map fun x => (#[] : Array Value)[x % (#[] : Array Value).size]!) = (List.replicate 0 (Value.slice none 0 0)).toArray := by simp
              rw [hz0, k4]
              simp [newRow]
            · rw [if_neg h0]
              simp only [zero_run i1 zs3, Result.andThen_ok]
              have hz1 : ((Array.range (n * 1)).map fun x => (Value.slice none 0 0).cells[x % (Value.slice none 0 0).cells.size]!) = (List.replicate n (Value.slice none 0 0)).toArray := by
                have := toList_madeCells_one (Value.slice none 0 0) (n * 1)
                rw [Nat.mul_one] at this
                rw [← this]
                simp only [Nat.mul_one]
                rfl
              rw [hz1, k4]
              simp [newRow]
          refine ⟨_, _, upd φ id (some (w.heap.size, n)), hrun, ?_⟩
          simp only [addF]
          have hid' := hid
          have heE : HExt φ H (upd φ id (some (w.heap.size, n))) (upd H id (some (.elsA l))) := fun j x hx => by
            have hne : j ≠ id := fun e => by rw [e, hid] at hx; cases hx
            exact ⟨upd_ne _ _ hne, x, (upd_ne _ _ hne).trans hx, BlkLe.refl x⟩
          obtain ⟨g1, g2⟩ := hS.add (w' := w.alloc (.cells us'.toArray e)) (id := id) (blk := .elsA l) (pc := some (w.heap.size, n)) ((Below.refl w.heap.size w).alloc (Nat.le_refl _) _) hid
            ⟨w.heap.size, n, _, e, (0, 0), us', upd_same _ _ _, heap_alloc_new w _, RelL.mono heE _ _ k1, k2, by simp⟩ (fun b c h => by cases h; exact Nat.le_refl _)
          refine ⟨g1, g2, ?_⟩
          simp only [Rel, upd_same]
          exact ⟨n, by rw [hlenl], by omega⟩
        · cases h
      · cases h
    · cases h

end Go.Proofs.Ytmngcmfcbfkimaa.AM
