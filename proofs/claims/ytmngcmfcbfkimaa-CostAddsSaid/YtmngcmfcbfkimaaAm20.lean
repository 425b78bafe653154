/- The abstract machine's operations are the model's: one operation. -/
import Derived.Test.YtmngcmfcbfkimaaAm19
namespace Go.Proofs.Ytmngcmfcbfkimaa.AM
open Go Go.RowKit

variable {P : Program} {X : Ctx} {W : World} {φ : Phi} {H L : HeapF} {w : World} {ρ : Nat → AV} {a : Act}

theorem mapOp_ok {G : Globs} (hG : GlobOK W G) (he : EnvOK W φ H ρ a) (l : List Operand) : RelL W φ H (mapOp (ev G ρ) l) (l.map a.eval) := by
  induction l with
  | nil => simp [mapOp, RelL]
  | cons x l ih => simp only [mapOp, List.map_cons, RelL]; exact ⟨ev_ok hG he x, ih⟩

theorem mapPair_ok {G : Globs} (hG : GlobOK W G) (he : EnvOK W φ H ρ a) (l : List (Nat × Operand)) : RelP W φ H (mapPair (ev G ρ) l) (l.map fun (i, x) => (i, a.eval x)) := by
  induction l with
  | nil => simp [mapPair, RelP]
  | cons x l ih => obtain ⟨i, x⟩ := x; simp only [mapPair, List.map_cons, RelP]; exact ⟨trivial, ev_ok hG he x, ih⟩

theorem optOp_ok {G : Globs} (hG : GlobOK W G) (he : EnvOK W φ H ρ a) (o : Option Operand) : RelO W φ H (optOp (ev G ρ) o) (o.map a.eval) := by
  cases o with
  | none => simp [optOp, RelO]
  | some x => simp only [optOp, Option.map_some, RelO]; exact ev_ok hG he x

theorem run_partA {u off : Nat} {d : TD} {x : AV} {v : Value} {cs : Array Value} {pre post : List Value} (hd : TDok P u d) (hx : Rel W φ H x v) (hs : x.stays = true) (hf : fits d x = true)
    (hcs : cs.toList = pre ++ (v.cells.toList ++ post)) (hpre : pre.length = off) : (part u cs off).run P w = .ok v w := by
  have hsz := fits_size hf
  simp only [fits, Bool.and_eq_true, beq_iff_eq] at hf
  have hlen := Rel.size x v hx hs
  unfold part
  simp only [Sem.run_bind, hd.agg, Result.andThen_ok, Sem.run_ite, hd.sizeOf]
  rcases Rel.cases hx hs with ⟨ha, hv⟩ | ⟨ha, hv⟩
  · rw [← hf.1, ha, if_pos rfl]
    simp only [Sem.run_pure]
    have : cs.extract off (off + d.size) = v.cells := by
      rw [← Array.toArray_toList (xs := cs.extract _ _), Array.toList_extract, hcs, ← hsz, ← hlen, ← hpre]
      rw [← Array.toArray_toList (xs := v.cells)]
      congr 1
      simp [List.extract_eq_take_drop]
    rw [this]
    exact congrArg (fun x => Result.ok x w) hv.symm
  · rw [← hf.1, ha, if_neg (by simp)]
    have hget : cs[off]? = some v := by
      have : cs[off]? = cs.toList[off]? := by simp
      rw [this, hcs, ← hpre, hv]
      simp
    rw [hget]
    rfl

theorem arith_ok {op : BinOp} {t : TypeId} {k : IntKind} {p q : Int} {v : PV} (h : arith op k p q = some v) : v.ok ∧ (binOp op t (.int k p) (.int k q)).run P w = .ok v.val w := by
  cases op <;> simp only [arith] at h <;> first
    | (cases h; done)
    | (split at h
       · cases h
       · rename_i hq
         have hq := of_decide_eq_false hq
         cases h
         refine ⟨trivial, ?_⟩
         simp [binOp, Op.intDiv, hq, PV.val])
    | (cases h
       refine ⟨trivial, ?_⟩
       simp [binOp, Op.intArith, Op.intBits, Op.intCmp, PV.val])

theorem shift_ok {op : BinOp} {t : TypeId} {k k' : IntKind} {p q : Int} {v : PV} (hop : op = .shl ∨ op = .shr) (h : shiftV op k p q = some v) : v.ok ∧ (binOp op t (.int k p) (.int k' q)).run P w = .ok v.val w := by
  unfold shiftV at h
  split at h
  · cases h
  · rename_i hq
    have hq := of_decide_eq_false hq
    rcases hop with rfl | rfl
    · cases h
      exact ⟨trivial, by simp [binOp, Op.shift, hq, PV.val]⟩
    · cases h
      exact ⟨trivial, by simp [binOp, Op.shift, hq, PV.val]⟩

theorem run_eqGuard_plain {op : BinOp} {t : TypeId} {x y : Operand} {u v : Value} (h1 : u.oneCell' = true) (h2 : u ≠ .nilIface) : (eqGuard op t x y u v).run P w = .ok () w := by
  cases op <;> cases u <;> simp_all [eqGuard, Value.oneCell'] <;> cases v <;> simp

theorem flat_guard (hX : X.ok P) {n t : Nat} {s : Sh} (h : flat X (n + 1) t s = true) (hs : s ≠ .one ∧ s ≠ .bool ∧ ∀ k, s ≠ .int k) : P.eqGuardType P.depth t = false := by
  obtain ⟨d, d1, d2, d3⟩ := flat_spec h
  have hk := (hX t d d1).kind
  cases s with
  | one => exact absurd rfl hs.1
  | int k => exact absurd rfl (hs.2.2 k)
  | bool => exact absurd rfl hs.2.1
  | arr m s =>
    cases hkd : d.kind <;> rw [hkd] at d3 <;> simp only at d3
    rw [hkd] at hk
    exact hk.2
  | st l =>
    cases hkd : d.kind <;> rw [hkd] at d3 <;> simp only at d3
    rw [hkd] at hk
    obtain ⟨_, _, _, _, hk, _⟩ := hk
    exact hk

theorem binV_ok (hX : X.ok P) {op : BinOp} {t : Nat} {x y : AV} {u v : Value} {r : PV} {ox oy : Operand} (hx : Rel W φ H x u) (hy : Rel W φ H y v) (h : binV X op t x y = some r) :
    r.ok ∧ ((do eqGuard op t ox oy u v; binOp op t u v : Sem Value)).run P w = .ok r.val w := by
  unfold binV at h
  split at h
  · rename_i k p k' q
    simp only [Rel] at hx hy
    obtain ⟨_, rfl⟩ := hx
    obtain ⟨_, rfl⟩ := hy
    simp only [PV.val]
    rw [Sem.run_bind, run_eqGuard_plain rfl (by simp)]
    simp only [Result.andThen_ok]
    split at h
    · exact shift_ok (.inl rfl) h
    · exact shift_ok (.inr rfl) h
    · split at h
      · rename_i hk
        have hk := kind_of_beq hk
        subst hk
        exact arith_ok h
      · cases h
  · rename_i p q
    simp only [Rel] at hx hy
    obtain ⟨_, rfl⟩ := hx
    obtain ⟨_, rfl⟩ := hy
    simp only [PV.val]
    rw [Sem.run_bind, run_eqGuard_plain rfl (by simp)]
    simp only [Result.andThen_ok]
    split at h
    · rename_i b c d e hd
      have hk := (hX t _ hd).kind
      split at h
      · cases h
        refine ⟨trivial, ?_⟩
        simp [binOp, run_equal_bool w t p q hk]
      · cases h
        refine ⟨trivial, ?_⟩
        simp [binOp, run_equal_bool w t p q hk, bne]
      · cases h
    · cases h
  · rename_i p q
    simp only [Rel] at hx hy
    obtain ⟨_, rfl⟩ := hx
    obtain ⟨_, rfl⟩ := hy
    simp only [PV.val]
    rw [Sem.run_bind, run_eqGuard_plain rfl (by simp)]
    simp only [Result.andThen_ok]
    split at h
    · cases h
      exact ⟨trivial, by simp [binOp, Op.stringOp, beq_toListBytes]⟩
    · cases h
      exact ⟨trivial, by simp [binOp, Op.stringOp, beq_toListBytes, bne]⟩
    · cases h
  · rename_i p q _ _ _
    split at h
    · rename_i hb
      simp only [Bool.and_eq_true] at hb
      obtain ⟨⟨⟨hb1, hb2⟩, hb3⟩, hb4⟩ := hb
      have hb2 := Sh.eq_of_beq _ _ hb2
      simp only [Rel] at hx hy
      obtain ⟨hp, rfl⟩ := hx
      obtain ⟨hq, rfl⟩ := hy
      have heq := equal_flat (w := w) hX 32 t p.sh p q hb1 hp hq rfl hb2.symm 10000 (by omega)
      have hm : P.eqGuardType P.depth t = false := flat_guard hX hb1 (by clear heq hb2 hb1 hp; cases p <;> simp [PV.isAgg, PV.sh] at hb3 ⊢)
      rw [PV.val_agg p hb3, PV.val_agg q hb4] at heq ⊢
      rw [Sem.run_bind, run_eqGuard_agg w op t ox oy _ _ hm]
      simp only [Result.andThen_ok]
      split at h
      · cases h
        refine ⟨trivial, ?_⟩
        rw [run_eql_struct, heq]
        rfl
      · cases h
        refine ⟨trivial, ?_⟩
        rw [run_neq_struct, heq]
        rfl
      · cases h
    · cases h
  · cases h

theorem unV_ok {op : UnOp} {x : AV} {u : Value} {r : PV} (hx : Rel W φ H x u) (h : unV op x = some r) : r.ok ∧ (Op.unary op u).run P w = .ok r.val w := by
  unfold unV at h
  split at h
  · simp only [Rel] at hx
    obtain ⟨_, rfl⟩ := hx
    cases h
    exact ⟨trivial, by simp [Op.unary, PV.val]⟩
  · simp only [Rel] at hx
    obtain ⟨_, rfl⟩ := hx
    cases h
    exact ⟨trivial, by simp [Op.unary, Op.intArith, PV.val]⟩
  · simp only [Rel] at hx
    obtain ⟨_, rfl⟩ := hx
    cases h
    exact ⟨trivial, by simp [Op.unary, Op.intBits, PV.val]⟩
  · cases h

theorem lenV_ok (hL : SubH L H) {x : AV} {v : Value} {n : Nat} (hx : Rel W φ H x v) (h : lenV L x = some n) : ∃ ao c, v = .slice ao n c := by
  unfold lenV at h
  split at h
  · cases h; simp only [Rel] at hx; exact ⟨_, _, hx⟩
  · cases h; simp only [Rel] at hx; obtain ⟨ao, c, rfl, _⟩ := hx; exact ⟨_, _, rfl⟩
  · cases h; simp only [Rel] at hx; obtain ⟨ao, c, _, rfl, _⟩ := hx; exact ⟨_, _, rfl⟩
  · rename_i id off m
    split at h
    case h_2 => cases h
    rename_i rw_ s l hl
    cases h
    simp only [Rel, hL _ _ hl] at hx
    obtain ⟨_, hx⟩ := hx
    split at hx
    · obtain ⟨rfl, rfl⟩ := hx; exact ⟨_, _, rfl⟩
    · obtain ⟨_, c, rfl, _⟩ := hx; exact ⟨_, _, rfl⟩
  · cases h
    simp only [Rel] at hx
    split at hx
    · obtain ⟨_, _, _, _, _, _, c, _, _, _, _, rfl, _⟩ := hx; exact ⟨_, _, rfl⟩
    · exact hx.elim
  · rename_i id
    split at h
    · rename_i rw_ s l hl
      cases h
      simp only [Rel, hL _ _ hl] at hx
      split at hx
      · obtain ⟨rfl, rfl⟩ := hx; exact ⟨_, _, rfl⟩
      · obtain ⟨c, rfl, _⟩ := hx; exact ⟨_, _, rfl⟩
    · rename_i l hl
      cases h
      simp only [Rel, hL _ _ hl] at hx
      split at hx
      · exact hx.elim
      · obtain ⟨c, rfl, _⟩ := hx; exact ⟨_, _, rfl⟩
    · cases h
  · cases h

end Go.Proofs.Ytmngcmfcbfkimaa.AM
