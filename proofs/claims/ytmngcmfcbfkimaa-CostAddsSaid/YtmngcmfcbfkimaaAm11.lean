/- The abstract machine's operations are the model's: stores, addresses, slices. -/
import Derived.Test.YtmngcmfcbfkimaaAm10
namespace Go.Proofs.Ytmngcmfcbfkimaa.AM
open Go Go.RowKit

variable {P : Program} {X : Ctx} {W : World} {φ : Phi} {H L : HeapF} {w : World} {ρ : Nat → AV} {a : Act}

/-- What an operation comes to: the value, and the blocks that it has made or turned. -/
def Outcome (P : Program) (W : World) (φ : Phi) (H : HeapF) (s : Sem Next) (w : World) (v : AV) (d : Delta) : Prop :=
  ∃ w' φ' v', (s.run P w = .ok (.value v') w' ∨ (s.run P w = .ok .skip w' ∧ v' = undef)) ∧ HSim W φ' (addF d H) w' ∧ HExt φ H φ' (addF d H) ∧ Rel W φ' (addF d H) v v'

theorem Outcome.pure {s : Sem Next} {v : AV} {v' : Value} (hS : HSim W φ H w) (h : s.run P w = .ok (.value v') w) (hr : Rel W φ H v v') : Outcome P W φ H s w v [] :=
  ⟨w, φ, v', .inl h, hS, HExt.refl _ _, hr⟩

theorem HExt.upd {id : Nat} {blk blk' : Blk} (hi : H id = some blk) (hle : BlkLe blk blk') : HExt φ H φ (upd H id (some blk')) := fun i x hx => by
  refine ⟨rfl, ?_⟩
  by_cases hi' : i = id
  · subst hi'
    rw [hi] at hx
    cases hx
    exact ⟨blk', upd_same _ _ _, hle⟩
  · exact ⟨x, (upd_ne _ _ hi').trans hx, BlkLe.refl x⟩

theorem storeV_ok (hX : X.ok P) (hS : HSim W φ H w) (hL : SubH L H) {t : Nat} {x y : AV} {xv yv : Value} {d : Delta} (hx : Rel W φ H x xv) (hy : Rel W φ H y yv)
    (h : storeV X L t x y = some d) : ∃ w', (Instr.storeAt t xv yv).run P w = .ok () w' ∧ HSim W φ (addF d H) w' ∧ HExt φ H φ (addF d H) := by
  unfold storeV at h
  split at h
  · rename_i td htd
    split at h
    · rename_i hf
      simp only [Bool.and_eq_true] at hf
      obtain ⟨hf1, hf2⟩ := hf
      have hsz : yv.cells.size = td.size := (Rel.size y yv hy hf2).trans (Nat.eq_of_beq_eq_true hf1)
      have h1c := Rel.oneCells y yv hy hf2
      split at h
      · rename_i id path
        split at h
        · rename_i x0 hL0
          have hH := hL _ _ hL0
          split at h
          · rename_i y0 hnav
            split at h
            · rename_i hsh
              simp only [Bool.and_eq_true] at hsh
              have hsh1 := Sh.eq_of_beq _ _ hsh.1
              split at h
              · rename_i z hset
                cases h
                obtain ⟨hst, b, c, cs, T, vx, h1, h2, h3, h4⟩ := hS.blk _ _ hH
                obtain ⟨g1, g2, u, o, pre, post, g3, g4, g5, g6, g7⟩ := navA_spec path x0 y0 vx h3 hst hnav
                obtain ⟨k1, k2, v', k3, k4⟩ := g7 y yv z hy hf2 hsh1.symm hset
                simp only [Rel, hH] at hx
                obtain ⟨b', cap, o', r1, r2, rfl⟩ := hx
                rw [h1] at r1
                cases r1
                rw [g4] at r2
                cases r2
                subst g5
                subst h4
                have hold : yv.cells.size = u.cells.toList.length := by
                  rw [Array.length_toList, Rel.size y yv hy hf2, Rel.size y0 u g3 g1, hsh1]
                have hst' := store_row (w := w) (hX t td htd) hsz h2 g6 hold h1c
                refine ⟨_, by simp only [Instr.storeAt, Instr.sureAddr, Sem.run_bind, Sem.run_pure, Result.andThen_ok]; exact hst', ?_⟩
                simp only [addF]
                have he := HExt.upd (φ := φ) hH (show BlkLe (.var x0) (.var z) from k2)
                refine HSim.mod hS hH (by simp) h1 rfl rfl rfl (by simp) (fun k hk => setRow_other w b k _ hk) k2 ⟨k1, b, c, _, T, v', h1, setRow_heap w b _ _ T _ h2, Rel.mono he _ _ k3, ?_⟩
                rw [← k4, Array.toArray_toList]
              · cases h
            · cases h
          · cases h
        · cases h
      · rename_i id i path
        split at h
        · rename_i s l hL0
          have hH := hL _ _ hL0
          split at h
          · rename_i w0
            split at h
            · rename_i x0 hi
              split at h
              · rename_i y0 hnav
                split at h
                · rename_i hsh
                  have hsh1 := Sh.eq_of_beq _ _ hsh
                  split at h
                  · rename_i z hset
                    cases h
                    simp only [Rel, hH] at hx
                    obtain ⟨b, cap, o', r1, r2, r3, rfl⟩ := hx
                    obtain ⟨h1, h2, h3⟩ := hS.blk _ _ hH
                    rw [r1] at h3
                    obtain ⟨cs, T, fr, h4, h5, h6, h7, h8, h9⟩ := h3
                    have hfr := h9 rfl
                    subst hfr
                    have hx1 := okL_get h1 hi
                    have hx2 := allSh_get h2 hi
                    simp only [Rel] at hy
                    obtain ⟨hw0, rfl⟩ := hy
                    obtain ⟨g1, g2, o, pre, post, g3, g4, g5, g6⟩ := nav_spec path x0 y0 hx1 hnav
                    rw [hx2, r3] at g3
                    cases g3
                    obtain ⟨k1, k2, k3⟩ := g6 w0 z hw0 hsh1.symm hset
                    obtain ⟨c1, c2⟩ := cut_at hi
                    have hl1 : PV.cellsL l = PV.cellsL (l.take i) ++ ((pre ++ (y0.cells ++ post)) ++ PV.cellsL (l.drop (i + 1))) := by
                      conv => lhs; rw [c1]
                      rw [PV.cellsL_append]
                      simp only [PV.cellsL, g5]
                    have hl2 : PV.cellsL (l.set i z) = PV.cellsL (l.take i) ++ ((pre ++ (w0.cells ++ post)) ++ PV.cellsL (l.drop (i + 1))) := by
                      rw [c2 z, PV.cellsL_append]
                      simp only [PV.cellsL, k3]
                    have hpre : (PV.cellsL (l.take i) ++ pre).length = i * s.size + o' := by
                      rw [List.length_append, g4, PV.cellsL_arr _ s (okL_take h1 i) (allSh_take h2 i), List.length_take, Nat.min_eq_left (by omega)]
                    have hcs : cs.toList = (PV.cellsL (l.take i) ++ pre) ++ (y0.cells ++ (post ++ (PV.cellsL (l.drop (i + 1)) ++ cs.toList.drop (PV.cellsL l).length))) := by
                      have h3 := (List.take_append_drop (PV.cellsL l).length cs.toList).symm
                      rw [h8] at h3
                      conv => lhs; rw [h3]
                      conv => lhs; lhs; rw [hl1]
                      simp only [List.append_assoc]
                    have hold : w0.val.cells.size = y0.cells.length := by
                      rw [PV.cells_val]
                      simp only [List.size_toArray]
                      rw [PV.cells_length w0 hw0, PV.cells_length y0 g1, hsh1]
                    have hst' := store_row (w := w) (hX t td htd) hsz h4 hcs hold h1c
                    rw [hpre] at hst'
                    refine ⟨_, by simp only [Instr.storeAt, Instr.sureAddr, Sem.run_bind, Sem.run_pure, Result.andThen_ok]; exact hst', ?_⟩
                    simp only [addF]
                    have hlen : (PV.cellsL (l.set i z)).length = (PV.cellsL l).length := by
                      rw [hl1, hl2]
                      simp only [List.length_append]
                      rw [PV.cells_length w0 hw0, PV.cells_length y0 g1, hsh1]
                    refine HSim.mod hS hH (by simp) r1 rfl rfl rfl (by simp) (fun k hk => setRow_other w b k _ hk) ⟨rfl, by simp⟩ ?_
                    refine ⟨okL_set h1 k1, allSh_set h2 (k2.trans hx2), ?_⟩
                    rw [r1]
                    refine ⟨_, T, _, setRow_heap w b _ _ T _ h4, ?_, by simpa using h6, h7, ?_, fun _ => rfl⟩
                    · have hsize : cs.size = cs.toList.length := rfl
                      rw [hcs] at hsize
                      simp only [List.size_toArray, PV.cells_val_list, List.length_append] at hsize ⊢
                      rw [PV.cells_length w0 hw0, ← hsh1, ← PV.cells_length y0 g1]
                      omega
                    · simp only [PV.cells_val_list]
                      rw [hlen]
                      have : (PV.cellsL l).length = (PV.cellsL (l.set i z)).length := hlen.symm
                      rw [this]
                      have h9 : (PV.cellsL (l.take i) ++ pre ++ (w0.cells ++ (post ++ (PV.cellsL (l.drop (i + 1)) ++ cs.toList.drop (PV.cellsL (l.set i z)).length)))) =
                          PV.cellsL (l.set i z) ++ cs.toList.drop (PV.cellsL (l.set i z)).length := by
                        conv => rhs; lhs; rw [hl2]
                        simp only [List.append_assoc]
                      rw [h9, List.take_left' rfl]
                  · cases h
                · cases h
              · cases h
            · cases h
          · cases h
        · cases h
      · cases h
    · cases h
  · cases h

end Go.Proofs.Ytmngcmfcbfkimaa.AM
