/- The abstract machine's operations are the model's: append, copy, make. -/
import Derived.Test.YtmngcmfcbfkimaaAm15
namespace Go.Proofs.Ytmngcmfcbfkimaa.AM
open Go Go.RowKit

variable {P : Program} {X : Ctx} {W : World} {φ : Phi} {H L : HeapF} {w : World} {ρ : Nat → AV} {a : Act}

theorem kind_slice (hX : X.ok P) {u e b c : Nat} {g : Bool} {z : Option AV} (h : X.at u = some ⟨.slice e, b, c, g, z⟩) : P.underlying u = some (.slice e) := (hX u _ h).kind

theorem fits_size {d : TD} {x : AV} (h : fits d x = true) : x.sh.size = d.size := by
  simp only [fits, Bool.and_eq_true] at h
  exact Nat.eq_of_beq_eq_true h.2

theorem appendV_ok (hX : X.ok P) (hS : HSim W φ H w) (hL : SubH L H) {id t u : Nat} (hfr : L id = none → H id = none) {x y v : AV} {xv yv : Value} {d : Delta} (hx : Rel W φ H x xv) (hy : Rel W φ H y yv)
    (h : appendV X L id t u x y = some (v, d)) (ty : TypeId) :
    ∃ v' w' φ', (Builtin.append_ #[t, u] ty #[xv, yv]).run P w = .ok v' w' ∧ HSim W φ' (addF d H) w' ∧ HExt φ H φ' (addF d H) ∧ Rel W φ' (addF d H) v v' := by
  unfold appendV at h
  split at h
  · cases h
  · rename_i hLid
    have hid := hfr hLid
    split at h
    · rename_i z td hz
      obtain ⟨e, he, hd, hzero⟩ := elemZero_ok hX hz
      obtain ⟨i, i1, i2, i3, i4⟩ := (hX e td hd).info
      obtain ⟨zs1, zs2, zv, zs3, zs4⟩ := i4 z hzero
      have hzsz : zv.cells.size = i.size := by rw [Rel.size z zv (zs4 W φ H) zs1, zs2, i2]
      split at h
      · rename_i s m hsrc
        unfold srcV at hsrc
        split at hsrc
        · rename_i eu b c g zz hu
          have hu' := kind_slice hX hu
          split at hsrc
          · rename_i s' m' hsh
            simp only [Option.some.injEq, Prod.mk.injEq] at hsrc
            obtain ⟨rfl, rfl⟩ := hsrc
            have hsrc := (shut1_ok hS hL hy hsh).2.2 φ H
            simp only [Rel] at hsrc
            obtain ⟨so, sc, rfl, _, hm1, hm2, hm3⟩ := hsrc
            split at h
            · rename_i hb
              simp only [Bool.and_eq_true] at hb
              have hb1 : td.size = s'.size := Nat.eq_of_beq_eq_true hb.1
              have hb2 : 1 ≤ td.bytes := Nat.le_of_ble_eq_true hb.2
              rw [← i2] at hb1
              rw [← i3] at hb2
              split at h
              · split at h
                · rename_i hbytes
                  have hbytes := of_decide_eq_true hbytes
                  rw [← i3] at hbytes
                  cases h
                  simp only [Rel] at hx
                  subst hx
                  rw [run_append_types he hu']
                  simp only [addF]
                  have hmul : m'.length ≤ m'.length * i.bytes := Nat.le_mul_of_pos_right _ hb2
                  have hml : (PV.cellsL m').length = m'.length * i.size := by rw [PV.cellsL_arr _ s' hm1 hm2, hb1]
                  by_cases hm0 : m' = []
                  · subst hm0
                    refine ⟨_, w, upd φ id none, run_append_zero he he i1 ty _ _ 0 0 sc (Nat.le_refl _), ?_⟩
                    obtain ⟨g1, g2⟩ := hS.add (w' := w) (id := id) (blk := .els true s' []) (pc := none) (Below.refl _ _) hid ⟨trivial, trivial, by rw [upd_same]⟩ (fun b c h => by cases h)
                    refine ⟨g1, g2, ?_⟩
                    simp only [Rel, upd_same]
                    trivial
                  · have hmpos : 0 < m'.length := List.length_pos_iff.2 hm0
                    obtain ⟨sa, rfl, hrow⟩ := hm3.resolve_left hm0
                    have hrow : RowAt w sa (PV.cellsL m') := by
                      have h0 := (shut1_ok hS hL hy hsh).2.2 φ H
                      simp only [Rel] at h0
                      obtain ⟨so', sc', heq, _, _, _, h3⟩ := h0
                      cases heq
                      obtain ⟨ad, had, hr⟩ := h3.resolve_left hm0
                      cases had
                      exact hr
                    have hrun := run_append_nil (P := P) w t ty e i zv he i1 zs3 sa m'.length sc (PV.cellsL m') hml hrow hmpos (by omega) (by omega)
                    have hge := grownCap_ge w m'.length 0 e
                    have hle := grownCap_le_maxLen w m'.length 0 e (by unfold maxLen; omega)
                    refine ⟨_, _, upd φ id (some (w.heap.size, grownCap w m'.length 0 e)), hrun, ?_⟩
                    have hbel : Below w.heap.size w (w.drew.alloc (.cells ((PV.cellsL m').toArray ++ Builtin.zeroCells zv.cells (grownCap w m'.length 0 e - m'.length)) e)) :=
                      ((Below.refl w.heap.size w).drew).alloc (Nat.le_refl _) _
                    obtain ⟨g1, g2⟩ := hS.add (id := id) (blk := .els true s' m') (pc := some (w.heap.size, grownCap w m'.length 0 e)) hbel hid
                      ⟨hm1, hm2, by
                        rw [upd_same]
                        refine ⟨_, e, (0, 0), heap_alloc_new w.drew _, ?_, by omega, hle, ?_, fun _ => rfl⟩
                        · simp only [Array.size_append, List.size_toArray, size_zeroCells, hzsz, hml, hb1, ← Nat.add_mul]
                          rw [show m'.length + (grownCap w m'.length 0 e - m'.length) = grownCap w m'.length 0 e from by omega]
                          exact Nat.le_refl _
                        · simp only [Array.toList_append]
                          exact List.take_left' rfl⟩ (fun b c h => by cases h; exact Nat.le_refl _)
                    refine ⟨g1, g2, ?_⟩
                    simp only [Rel, upd_same]
                    exact ⟨_, rfl, Nat.le_refl _, by omega⟩
                · cases h
              · rename_i o
                split at h
                · rename_i s2 l hLo
                  have hHo := hL _ _ hLo
                  split at h
                  · rename_i hss
                    have hss := Sh.eq_of_beq _ _ hss
                    subst hss
                    split at h
                    · rename_i hbytes
                      have hbytes := of_decide_eq_true hbytes
                      rw [← i3] at hbytes
                      cases h
                      simp only [Rel, hHo] at hx
                      simp only [addF]
                      have hrow : m' = [] ∨ ∃ ad, so = some ad ∧ RowAt w ad (PV.cellsL m') := by
                        have h0 := (shut1_ok hS hL hy hsh).2.2 φ H
                        simp only [Rel] at h0
                        obtain ⟨so', sc', heq, _, _, _, h3⟩ := h0
                        cases heq
                        exact h3
                      split at hx
                      · rename_i hφ
                        obtain ⟨rfl, rfl⟩ := hx
                        have := append_core hS (n := 0) (c := 0) (ao := none) he hu' i1 zs3 hzsz hHo (Nat.le_refl _) hid hb1 hb2 (by simpa using hbytes) (by rw [hφ]; exact ⟨rfl, rfl, rfl, rfl⟩) hm1 hm2 hrow (sc := sc) ty
                        simpa using this
                      · rename_i b cap hφ
                        obtain ⟨c, rfl, r1, r2⟩ := hx
                        have := append_core hS (n := l.length) (c := c) (ao := some ⟨b, 0, none⟩) he hu' i1 zs3 hzsz hHo (Nat.le_refl _) hid hb1 hb2 hbytes (by rw [hφ]; exact ⟨rfl, r2, r1⟩) hm1 hm2 hrow (sc := sc) ty
                        simpa using this
                    · cases h
                  · cases h
                · cases h
              · rename_i o n
                split at h
                · rename_i s2 l hLo
                  have hHo := hL _ _ hLo
                  split at h
                  · rename_i hss
                    have hss := Sh.eq_of_beq _ _ hss
                    subst hss
                    split at h
                    · rename_i hbytes
                      have hbytes := of_decide_eq_true hbytes
                      rw [← i3] at hbytes
                      cases h
                      simp only [Rel, hHo] at hx
                      simp only [addF]
                      have hrow : m' = [] ∨ ∃ ad, so = some ad ∧ RowAt w ad (PV.cellsL m') := by
                        have h0 := (shut1_ok hS hL hy hsh).2.2 φ H
                        simp only [Rel] at h0
                        obtain ⟨so', sc', heq, _, _, _, h3⟩ := h0
                        cases heq
                        exact h3
                      obtain ⟨hon, hx⟩ := hx
                      split at hx
                      · rename_i hφ
                        obtain ⟨rfl, rfl⟩ := hx
                        have hl : l = [] := by
                          have := (hS.blk _ _ hHo).2.2
                          rw [hφ] at this
                          exact this
                        exact append_core hS (n := 0) (c := 0) (ao := none) he hu' i1 zs3 hzsz hHo (by omega) hid hb1 hb2 (by simpa using hbytes) (by rw [hφ]; exact ⟨rfl, rfl, rfl, hl⟩) hm1 hm2 hrow (sc := sc) ty
                      · rename_i b cap hφ
                        obtain ⟨ad, c, rfl, r1, r2, r3⟩ := hx
                        have r3 : ad = ⟨b, 0, none⟩ := by
                          rcases r3 with r3 | ⟨_, r3⟩
                          · simpa using r3
                          · exact absurd rfl r3
                        subst r3
                        exact append_core hS (n := n) (c := c) (ao := some ⟨b, 0, none⟩) he hu' i1 zs3 hzsz hHo (by omega) hid hb1 hb2 hbytes (by rw [hφ]; exact ⟨rfl, r2, by omega⟩) hm1 hm2 hrow (sc := sc) ty
                    · cases h
                  · cases h
                · cases h
              · cases h
            · cases h
          · cases hsrc
        · cases hsrc
      · cases h
    · cases h

/-- Zero cells, as data. -/
theorem madeCells_replicate (z : List Value) (n : Nat) : (madeCells z.toArray (n * z.length)).toList = (List.replicate n z).flatten := by
  induction n with
  | zero => simp [madeCells]
  | succ n ih =>
    have h1 : (madeCells z.toArray ((n + 1) * z.length)).toList = (madeCells z.toArray (n * z.length)).toList ++ z := by
      simp only [madeCells, Array.toList_map, Array.toList_range, List.size_toArray, Nat.add_mul, Nat.one_mul, List.range_add, List.map_append, List.map_map]
      congr 1
      apply List.ext_getElem?
      intro j
      by_cases hj : j < z.length
      · simp only [List.getElem?_map, List.getElem?_range hj, Option.map_some, Function.comp_apply]
        rw [Nat.add_comm (n * z.length) j, Nat.add_mul_mod_self_right, Nat.mod_eq_of_lt hj]
        simp [hj]
      · simp [hj]
    rw [h1, ih, List.replicate_succ', List.flatten_append]
    simp

theorem cellsL_replicate (z : PV) (n : Nat) : PV.cellsL (List.replicate n z) = (List.replicate n z.cells).flatten := by
  induction n with
  | zero => simp [PV.cellsL]
  | succ n ih => simp [List.replicate_succ, PV.cellsL, ih]

theorem madeCells_take (z : PV) {n c : Nat} (h : n ≤ c) (hz : z.ok) : (madeCells z.val.cells (c * z.sh.size)).toList.take (PV.cellsL (List.replicate n z)).length = PV.cellsL (List.replicate n z) := by
  rw [PV.cells_val, ← PV.cells_length z hz, madeCells_replicate, ← cellsL_replicate]
  have : PV.cellsL (List.replicate c z) = PV.cellsL (List.replicate n z) ++ PV.cellsL (List.replicate (c - n) z) := by
    rw [← PV.cellsL_append, List.replicate_append_replicate, show n + (c - n) = c from by omega]
  rw [this]
  exact List.take_left' rfl

theorem makeSliceV_ok (hX : X.ok P) (hS : HSim W φ H w) {id t : Nat} (hfr : L id = none → H id = none) {v : AV} {n c : Int} {d : Delta}
    (h : makeSliceV X L id t n c = some (v, d)) :
    ∃ v' w' φ', (Instr.makeSlice t (.int .i64 n) (.int .i64 c)).run P w = .ok v' w' ∧ HSim W φ' (addF d H) w' ∧ HExt φ H φ' (addF d H) ∧ Rel W φ' (addF d H) v v' := by
  unfold makeSliceV at h
  split at h
  · cases h
  · rename_i hLid
    have hid := hfr hLid
    split at h
    · rename_i z td hz
      obtain ⟨e, he, hd, hzero⟩ := elemZero_ok hX hz
      obtain ⟨i, i1, i2, i3, i4⟩ := (hX e td hd).info
      obtain ⟨zs1, zs2, zv, zs3, zs4⟩ := i4 _ hzero
      have hzr := zs4 W φ H
      simp only [Rel] at hzr
      obtain ⟨hzok, rfl⟩ := hzr
      split at h
      · rename_i c1
        have c1 := of_decide_eq_true c1
        split at h
        · rename_i c2
          have c2 := of_decide_eq_true c2
          split at h
          · rename_i c3
            simp only [Bool.and_eq_true] at c3
            obtain ⟨⟨c3, c5⟩, c4⟩ := c3
            have c3 := of_decide_eq_true c3
            have c5 := of_decide_eq_true c5
            cases h
            have hrun := run_make (P := P) w t e i z.val he i1 zs3 .i64 .i64 n c c1 c2 (by rw [i3]; omega) c5
            refine ⟨_, _, upd φ id (some (w.heap.size, c.toNat)), hrun, ?_⟩
            simp only [addF]
            have hsz : i.size = z.sh.size := by rw [i2]; exact (fits_size c4).symm
            obtain ⟨g1, g2⟩ := hS.add (w' := w.alloc (.cells (madeCells z.val.cells (c.toNat * i.size)) e)) (id := id) (blk := .els true z.sh (List.replicate n.toNat z)) (pc := some (w.heap.size, c.toNat))
              ((Below.refl w.heap.size w).alloc (Nat.le_refl _) _) hid
              ⟨okL_replicate hzok _, allSh_replicate z _, by
                rw [upd_same]
                refine ⟨_, e, (0, 0), heap_alloc_new w _, by rw [size_madeCells, hsz]; exact Nat.le_refl _, by simp; omega, by unfold maxLen; omega, ?_, fun _ => rfl⟩
                rw [hsz]
                exact madeCells_take z (by omega) hzok⟩ (fun b c h => by cases h; exact Nat.le_refl _)
            refine ⟨g1, g2, ?_⟩
            simp only [Rel, upd_same]
            exact ⟨c.toNat, by simp, Nat.le_refl _, by simp; omega⟩
          · cases h
        · cases h
      · cases h
    · cases h

theorem setP_sh {x z v : PV} {path : List Nat} (_h : setP x path v = some z) : True := trivial

/-- Cells that are copied into an array. -/
theorem copy_cells {l m : List PV} {s : Sh} (h1 : PV.okL l) (h2 : PV.allSh s l) (h3 : PV.okL m) (h4 : PV.allSh s m) {off len : Nat} (h5 : off + len ≤ l.length) :
    PV.okL (copyL l off len m) ∧ PV.allSh s (copyL l off len m) ∧ (copyL l off len m).length = l.length ∧
      PV.cellsL (copyL l off len m) = PV.cellsL (l.take off) ++ (PV.cellsL (m.take len) ++ PV.cellsL (l.drop (off + (m.take len).length))) := by
  unfold copyL
  refine ⟨?_, ?_, ?_, ?_⟩
  · exact (PV.okL_append _ _).2 ⟨okL_take h1 _, (PV.okL_append _ _).2 ⟨okL_take h3 _, okL_drop h1 _⟩⟩
  · exact (PV.allSh_append _ _ _).2 ⟨allSh_take h2 _, (PV.allSh_append _ _ _).2 ⟨allSh_take h4 _, allSh_drop h2 _⟩⟩
  · simp only [List.length_append, List.length_take, List.length_drop]
    omega
  · rw [PV.cellsL_append, PV.cellsL_append]

theorem copyV_ok (hX : X.ok P) (hS : HSim W φ H w) (hL : SubH L H) {t u : Nat} {x y v : AV} {xv yv : Value} {d : Delta} (hx : Rel W φ H x xv) (hy : Rel W φ H y yv)
    (h : copyV X L t x y = some (v, d)) (ty : TypeId) :
    ∃ v' w' φ', (Builtin.copy_ #[t, u] ty #[xv, yv]).run P w = .ok v' w' ∧ HSim W φ' (addF d H) w' ∧ HExt φ H φ' (addF d H) ∧ Rel W φ' (addF d H) v v' := by
  unfold copyV at h
  split at h
  · rename_i s m hsh
    have hsrc := (shut1_ok hS hL hy hsh).2.2 φ H
    simp only [Rel] at hsrc
    obtain ⟨so, sc, rfl, hmc, hm1, hm2, hm3⟩ := hsrc
    split at h
    · rename_i id path off len
      split at h
      · rename_i x0 hx0
        have hH := hL _ _ hx0
        split at h
        · rename_i n s' l hnav
          split at h
          · rename_i hb
            simp only [Bool.and_eq_true] at hb
            obtain ⟨⟨hb1, hb2⟩, hb3⟩ := hb
            have hss := Sh.eq_of_beq _ _ hb1
            subst hss
            obtain ⟨e, he, _⟩ := isSlice_ok hX hb2
            have hsz := elemOK_ok hX hb3 (.inr he) w
            split at h
            · rename_i z hset
              cases h
              obtain ⟨hst, b, c, cs, T, vx, h1, h2, h3, h4⟩ := hS.blk _ _ hH
              obtain ⟨g1, g2, uu, o, pre, post, g3, g4, g5, g6, g7⟩ := navA_spec path x0 _ vx h3 hst hnav
              have g3' := g3
              simp only [Rel, PV.ok] at g3'
              obtain ⟨⟨q1, q2, q3⟩, rfl⟩ := g3'
              simp only [Rel, hH] at hx
              obtain ⟨b', cap, o', k', s', ad, c', r1, r2, r3, r4, rfl, r5, r6⟩ := hx
              have g2' : shS x0.sh path = some (.arr n s) := g2
              rw [g2'] at r3
              cases r3
              rw [h1] at r1
              cases r1
              rw [g4] at r2
              cases r2
              subst h4
              obtain ⟨p1, p2, p3, p4⟩ := copy_cells q2 q3 hm1 hm2 (off := off) (len := len) (by omega)
              have hnew : (PV.arr n s (copyL l off len m)).ok := by
                simp only [PV.ok]
                exact ⟨by rw [p3]; exact q1, p1, p2⟩
              obtain ⟨k1, k2, v', k3, k4⟩ := g7 (.p (.arr n s (copyL l off len m))) (PV.arr n s (copyL l off len m)).val z (Rel.plain hnew) rfl rfl hset
              have hrow : m = [] ∨ ∃ ad, so = some ad ∧ RowAt w ad (PV.cellsL m) := by
                have h0 := (shut1_ok hS hL hy hsh).2.2 φ H
                simp only [Rel] at h0
                obtain ⟨so', sc', heq, _, _, _, h3⟩ := h0
                cases heq
                exact h3
              -- what is read
              have hread : (Builtin.firstCells s.size (Nat.min m.length len) (.slice so m.length sc)).run P w = .ok (PV.cellsL (m.take len)).toArray w := by
                rcases hrow with rfl | ⟨sa, rfl, hrow⟩
                · cases so <;> simp [Builtin.firstCells, PV.cellsL, loadCells, loadCellsFrom]
                · refine run_firstCells_some w s.size _ sa _ _ (PV.cellsL (m.take len)) ?_ ?_
                  · rw [PV.cellsL_arr _ s (okL_take hm1 len) (allSh_take hm2 len), List.length_take, Nat.min_comm]
                  · have h5 : PV.cellsL m = PV.cellsL (m.take len) ++ PV.cellsL (m.drop len) := by rw [← PV.cellsL_append, List.take_append_drop]
                    intro j c hj
                    refine hrow j c ?_
                    rw [h5, List.getElem?_append_left (List.getElem?_eq_some_iff.1 hj).1]
                    exact hj
              have hmt : (m.take len).length = min len m.length := List.length_take
              -- where it is written
              have hcs : vx.cells.toList = (pre ++ PV.cellsL (l.take off)) ++ (PV.cellsL ((l.drop off).take (m.take len).length) ++ (PV.cellsL (l.drop (off + (m.take len).length)) ++ post)) := by
                rw [g6, PV.cells_val_list]
                simp only [PV.cells]
                have h5 : PV.cellsL l = PV.cellsL (l.take off) ++ (PV.cellsL ((l.drop off).take (m.take len).length) ++ PV.cellsL (l.drop (off + (m.take len).length))) := by
                  rw [← List.drop_drop, ← PV.cellsL_append, ← PV.cellsL_append, List.take_append_drop, List.take_append_drop]
                rw [h5]
                simp only [List.append_assoc]
              have hprelen : (pre ++ PV.cellsL (l.take off)).length = o + off * s.size := by
                rw [List.length_append, g5, PV.cellsL_arr _ s (okL_take q2 off) (allSh_take q3 off), List.length_take, Nat.min_eq_left (by omega)]
              have hmidlen : (PV.cellsL ((l.drop off).take (m.take len).length)).length = (PV.cellsL (m.take len)).length := by
                rw [PV.cellsL_arr _ s (okL_take (okL_drop q2 off) _) (allSh_take (allSh_drop q3 off) _), PV.cellsL_arr _ s (okL_take hm1 len) (allSh_take hm2 len)]
                congr 1
                rw [List.length_take, List.length_drop]
                omega
              have hfin : v'.cells.toList = (pre ++ PV.cellsL (l.take off)) ++ (PV.cellsL (m.take len) ++ (PV.cellsL (l.drop (off + (m.take len).length)) ++ post)) := by
                rw [k4, PV.cells_val_list]
                simp only [PV.cells]
                rw [p4]
                simp only [List.append_assoc]
              have hwrite : ∃ w1, (storeCells ad (PV.cellsL (m.take len))).run P w = .ok () w1 ∧ w1 = w.setRow b v'.cells := by
                refine ⟨_, ?_, rfl⟩
                rcases r6 with rfl | rfl
                · have hst := run_storeCells_at P b (o + off * s.size) T (PV.cellsL (m.take len)) 0 vx.cells w h2 (by
                    have : vx.cells.size = vx.cells.toList.length := rfl
                    rw [this, hcs, List.length_append, hprelen, List.length_append, hmidlen]
                    omega) (fun c hc => PV.cellsL_oneCell _ c hc)
                  simp only [Nat.add_zero] at hst
                  rw [hst]
                  congr 2
                  rw [← Array.toArray_toList (xs := v'.cells), hfin, hcs]
                  congr 1
                  rw [List.take_left' hprelen, ← hmidlen, ← hprelen]
                  rw [← List.length_append, ← List.append_assoc (pre ++ PV.cellsL (l.take off)) (PV.cellsL ((l.drop off).take _)), List.drop_left' rfl, List.append_assoc]
                · have hnil : PV.cellsL (m.take 0) = [] := by simp [PV.cellsL]
                  have hsame : v'.cells = vx.cells := by
                    rw [← Array.toArray_toList (xs := v'.cells), hfin, ← Array.toArray_toList (xs := vx.cells), hcs]
                    simp [PV.cellsL]
                  rw [hnil, hsame, setRow_self w b _ T _ h2]
                  simp [storeCells]
              obtain ⟨w1, hw1, hw2⟩ := hwrite
              subst hw2
              refine ⟨.int .i64 (min m.length len), w.setRow b v'.cells, φ, ?_, ?_⟩
              · simp only [Builtin.copy_, List.getElem?_toArray, List.getElem?_cons_zero, List.getElem?_cons_succ, Sem.run_bind, run_underlying he, Result.andThen_ok, Builtin.lenOf, Sem.run_pure, hsz, hread, hw1, goInt]
                have hmin : ((Nat.min m.length len : Nat) : Int) = min (m.length : Int) (len : Int) := by
                  show ((min m.length len : Nat) : Int) = _
                  omega
                rw [hmin]
              · simp only [addF]
                have heE := HExt.upd (φ := φ) hH (show BlkLe (.var x0) (.var z) from k2)
                obtain ⟨f1, f2⟩ := HSim.mod hS hH (blk' := .var z) (by simp) h1 (w' := w.setRow b v'.cells) rfl rfl rfl (by simp) (fun k hk => setRow_other w b k _ hk) k2
                  ⟨k1, b, c, _, T, v', h1, setRow_heap w b _ _ T _ h2, Rel.mono heE _ _ k3, rfl⟩
                refine ⟨f1, f2, ?_⟩
                unfold Rel
                exact ⟨trivial, rfl⟩
            · cases h
          · cases h
        · cases h
      · cases h
    · cases h
  · cases h

end Go.Proofs.Ytmngcmfcbfkimaa.AM
