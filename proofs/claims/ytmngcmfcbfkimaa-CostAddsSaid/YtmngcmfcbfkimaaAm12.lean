/- The abstract machine's operations are the model's: addresses and slices. -/
import Derived.Test.YtmngcmfcbfkimaaAm11
namespace Go.Proofs.Ytmngcmfcbfkimaa.AM
open Go Go.RowKit

variable {P : Program} {X : Ctx} {W : World} {φ : Phi} {H L : HeapF} {w : World} {ρ : Nat → AV} {a : Act}

theorem offS_snoc_st {s : Sh} {path : List Nat} {o f : Nat} {ls : List Sh} {s' : Sh} (h : offS s path = some o) (h2 : shS s path = some (.st ls)) (h3 : ls[f]? = some s') :
    offS s (snoc path f) = some (o + Sh.sizeL (ls.take f)) := by
  induction path generalizing s o with
  | nil =>
    cases s <;> simp only [shS, Option.some.injEq] at h2 <;> cases h2
    simp only [offS, Option.some.injEq] at h
    subst h
    simp [snoc, offS, h3]
  | cons g r ih =>
    cases s with
    | one => simp [shS] at h2
    | int k => simp [shS] at h2
    | bool => simp [shS] at h2
    | st l =>
      simp only [shS] at h2
      simp only [offS] at h
      cases hl : l[g]? with
      | none => simp [hl] at h2
      | some s1 =>
        simp only [hl] at h h2
        cases ho : offS s1 r with
        | none => simp [ho] at h
        | some o1 =>
          simp only [ho, Option.some.injEq] at h
          subst h
          simp [snoc, offS, hl, ih ho h2, Nat.add_assoc]
    | arr n e =>
      simp only [shS] at h2
      simp only [offS] at h
      by_cases hg : g < n
      · rw [if_pos hg] at h h2
        cases ho : offS e r with
        | none => simp [ho] at h
        | some o1 =>
          simp only [ho, Option.some.injEq] at h
          subst h
          simp [snoc, offS, hg, ih ho h2, Nat.add_assoc]
      · simp [hg] at h

theorem offS_snoc_arr {s : Sh} {path : List Nat} {o i n : Nat} {e : Sh} (h : offS s path = some o) (h2 : shS s path = some (.arr n e)) (h3 : i < n) :
    offS s (snoc path i) = some (o + i * e.size) := by
  induction path generalizing s o with
  | nil =>
    cases s <;> simp only [shS, Option.some.injEq] at h2 <;> cases h2
    simp only [offS, Option.some.injEq] at h
    subst h
    simp [snoc, offS, h3]
  | cons g r ih =>
    cases s with
    | one => simp [shS] at h2
    | int k => simp [shS] at h2
    | bool => simp [shS] at h2
    | st l =>
      simp only [shS] at h2
      simp only [offS] at h
      cases hl : l[g]? with
      | none => simp [hl] at h2
      | some s1 =>
        simp only [hl] at h h2
        cases ho : offS s1 r with
        | none => simp [ho] at h
        | some o1 =>
          simp only [ho, Option.some.injEq] at h
          subst h
          simp [snoc, offS, hl, ih ho h2, Nat.add_assoc]
    | arr n e =>
      simp only [shS] at h2
      simp only [offS] at h
      by_cases hg : g < n
      · rw [if_pos hg] at h h2
        cases ho : offS e r with
        | none => simp [ho] at h
        | some o1 =>
          simp only [ho, Option.some.injEq] at h
          subst h
          simp [snoc, offS, hg, ih ho h2, Nat.add_assoc]
      · simp [hg] at h

theorem field_ok (hX : X.ok P) {t f off u : Nat} (h : X.field t f = some (off, u)) :
    ∃ fields fld, P.underlying t = some (.struct fields) ∧ fields[f]? = some fld ∧ fld.offset = off ∧ fld.type = u := by
  unfold Ctx.field at h
  split at h
  · rename_i fs b c d e hd
    obtain ⟨fields, h1, h2, _⟩ := (hX t _ hd).kind
    rw [← h2, List.getElem?_map] at h
    cases hf : fields.toList[f]? with
    | none => simp [hf] at h
    | some fld =>
      simp only [hf, Option.map_some, Option.some.injEq, Prod.mk.injEq] at h
      exact ⟨fields, fld, h1, by simpa using hf, h.1, h.2⟩
  · cases h

theorem partOf_ok (hX : X.ok P) {t f : Nat} {y z : AV} {u : Value} (hy : Rel W φ H y u) (hs : y.stays = true) (h : partOf X t f y = some z) :
    z.stays = true ∧ ∃ fields fld d, P.underlying t = some (.struct fields) ∧ fields[f]? = some fld ∧ X.at fld.type = some d ∧ fits d z = true ∧ d.size ≠ 0 ∧
      (∃ ls, y.sh = .st ls ∧ ls[f]? = some z.sh ∧ Sh.sizeL (ls.take f) = fld.offset) ∧
      ∃ cs pre post uz, u = .agg cs ∧ Rel W φ H z uz ∧ cs.toList = pre ++ (uz.cells.toList ++ post) ∧ pre.length = fld.offset := by
  unfold partOf at h
  split at h
  · rename_i l
    split at h
    · rename_i off ty hf
      obtain ⟨fields, fld, f1, f2, f3, f4⟩ := field_ok hX hf
      split at h
      · rename_i x hl
        split at h
        · rename_i d hd
          split at h
          · rename_i hb
            cases h
            simp only [Bool.and_eq_true, Bool.not_eq_true'] at hb
            obtain ⟨⟨hb1, hb2⟩, hb3⟩ := hb
            have hoff := Nat.eq_of_beq_eq_true hb1
            simp only [Rel] at hy
            obtain ⟨hok, rfl⟩ := hy
            simp only [PV.ok] at hok
            obtain ⟨c1, _⟩ := cut_at hl
            subst f3 f4
            refine ⟨rfl, fields, fld, d, f1, f2, hd, hb2, fun e => by rw [e] at hb3; simp at hb3, ⟨PV.shL l, rfl, shL_get hl, by rw [shL_take]; exact hoff⟩, _, PV.cellsL (l.take f), PV.cellsL (l.drop (f + 1)), x.val, rfl, Rel.plain (okL_get hok hl), ?_, ?_⟩
            · rw [PV.cells_val_list]
              conv => lhs; rw [c1]
              simp [PV.cellsL_append, PV.cellsL]
            · rw [PV.cellsL_st _ (okL_take hok f), hoff]
          · cases h
        · cases h
      · cases h
    · cases h
  · rename_i l
    split at h
    · rename_i off ty hf
      obtain ⟨fields, fld, f1, f2, f3, f4⟩ := field_ok hX hf
      split at h
      · rename_i x hl
        split at h
        · rename_i d hd
          split at h
          · rename_i hb
            cases h
            simp only [Bool.and_eq_true, Bool.not_eq_true'] at hb
            obtain ⟨⟨hb1, hb2⟩, hb3⟩ := hb
            have hoff := Nat.eq_of_beq_eq_true hb1
            simp only [Rel] at hy
            obtain ⟨vs, hvs, hst, rfl⟩ := hy
            obtain ⟨vx, hvx, hrx⟩ := hvs.get hl
            obtain ⟨c1, _⟩ := cut_at hvx
            subst f3 f4
            refine ⟨hst _ (List.mem_of_getElem? hl), fields, fld, d, f1, f2, hd, hb2, fun e => by rw [e] at hb3; simp at hb3, ⟨AV.shL l, rfl, AV.shL_get hl, by rw [AV.shL_take]; exact hoff⟩, _, (vs.take f).flatMap (fun u => u.cells.toList), (vs.drop (f + 1)).flatMap (fun u => u.cells.toList), vx, rfl, hrx, ?_, ?_⟩
            · conv => lhs; rw [c1]
              simp
            · rw [Rel.sizeL _ _ (hvs.take f) (fun y hy => hst y (List.mem_of_mem_take hy)), hoff]
          · cases h
        · cases h
      · cases h
    · cases h
  · cases h

theorem run_fieldAt (hX : X.ok P) {t f : Nat} {fields : Array Field} {fld : Field} {d : TD} (h1 : P.underlying t = some (.struct fields)) (h2 : fields[f]? = some fld) (h3 : X.at fld.type = some d) (h4 : d.size ≠ 0)
    (ad : Addr) : (Instr.fieldAt t (.pointer (some ad)) f).run P w = .ok (.pointer (some (ad.add fld.offset))) w := by
  have hz := (hX _ _ h3).sizeOf w
  simp [Instr.fieldAt, run_underlying h1, h2, Instr.sureAddr, fieldPlace, hz, h4]

theorem fieldAddrV_ok (hX : X.ok P) (hS : HSim W φ H w) (hL : SubH L H) {t f : Nat} {x y : AV} {v : Value} (hr : Rel W φ H x v) (h : fieldAddrV X L t f x = some y) :
    ∃ u, (Instr.fieldAt t v f).run P w = .ok u w ∧ Rel W φ H y u := by
  unfold fieldAddrV at h
  split at h
  · rename_i id path
    split at h
    · rename_i x0 hx0
      have hH := hL _ _ hx0
      split at h
      · rename_i y0 hnav
        split at h
        · rename_i z hz
          cases h
          obtain ⟨hst, b, c, cs, T, vx, h1, h2, h3, h4⟩ := hS.blk _ _ hH
          obtain ⟨g1, g2, u, o, pre, post, g3, g4, g5, g6, _⟩ := navA_spec path x0 y0 vx h3 hst hnav
          obtain ⟨_, fields, fld, d, k1, k2, k3, k4, k5, ⟨ls, k6, k7, k8⟩, _⟩ := partOf_ok hX g3 g1 hz
          simp only [Rel, hH] at hr
          obtain ⟨b', cap, o', r1, r2, rfl⟩ := hr
          refine ⟨_, run_fieldAt hX k1 k2 k3 k5 _, ?_⟩
          simp only [Rel, hH]
          rw [k6] at g2
          exact ⟨b', cap, _, r1, offS_snoc_st r2 g2 k7, by rw [AddrAdd, k8]⟩
        · cases h
      · cases h
    · cases h
  · rename_i id i path
    split at h
    · rename_i rw_ s l hx0
      have hH := hL _ _ hx0
      split at h
      · rename_i x0 hi
        split at h
        · rename_i y0 hnav
          split at h
          · rename_i z hz
            cases h
            obtain ⟨h1, h2, h3⟩ := hS.blk _ _ hH
            obtain ⟨g1, g2, o, pre, post, g3, g4, g5, _⟩ := nav_spec path x0 y0 (okL_get h1 hi) hnav
            obtain ⟨_, fields, fld, d, k1, k2, k3, k4, k5, ⟨ls, k6, k7, k8⟩, _⟩ := partOf_ok hX (W := W) (φ := φ) (H := H) (Rel.plain g1) rfl hz
            simp only [Rel, hH] at hr
            obtain ⟨b', cap, o', r1, r2, r3, rfl⟩ := hr
            refine ⟨_, run_fieldAt hX k1 k2 k3 k5 _, ?_⟩
            simp only [Rel, hH]
            have k6' : y0.sh = .st ls := k6
            rw [k6', allSh_get h2 hi] at g2
            exact ⟨b', cap, _, r1, r2, offS_snoc_st r3 g2 k7, by rw [AddrAdd, k8, Nat.add_assoc]⟩
          · cases h
        · cases h
      · cases h
    · cases h
  · rename_i x0
    split at h
    · rename_i z hz
      cases h
      simp only [Rel] at hr
      obtain ⟨ad, u, rfl, r1, r2, r3⟩ := hr
      obtain ⟨k0, fields, fld, d, k1, k2, k3, k4, k5, _, cs, pre, post, uz, rfl, k6, k7, k8⟩ := partOf_ok hX r1 r2 hz
      refine ⟨_, run_fieldAt hX k1 k2 k3 k5 _, ?_⟩
      unfold Rel
      rw [cells_agg, k7] at r3
      exact ⟨_, uz, rfl, k6, k0, by rw [← k8]; exact r3.part⟩
    · cases h
  · cases h

end Go.Proofs.Ytmngcmfcbfkimaa.AM
