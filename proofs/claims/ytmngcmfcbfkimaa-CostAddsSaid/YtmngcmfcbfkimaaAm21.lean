/- The abstract machine's operations are the model's: one operation, whatever it is. -/
import Derived.Test.YtmngcmfcbfkimaaAm20
namespace Go.Proofs.Ytmngcmfcbfkimaa.AM
open Go Go.RowKit

variable {P : Program} {X : Ctx} {W : World} {φ : Phi} {H L : HeapF} {w : World} {ρ : Nat → AV} {a : Act}

theorem lenT_ok (hX : X.ok P) (hL : SubH L H) {t : Nat} {x : AV} {v : Value} {n : Nat} (hx : Rel W φ H x v) (h : lenT X L t x = some n) (ty : TypeId) :
    (Builtin.len_ #[t] ty #[v]).run P w = .ok (.int .i64 n) w := by
  unfold lenT at h
  split at h
  · rename_i e b c d z hd
    have hk := (hX t _ hd).kind
    obtain ⟨ao, c, rfl⟩ := lenV_ok hL hx h
    simp only [KindOK] at hk
    simp [Builtin.len_, run_underlying hk, goInt]
  · rename_i m e b c d z hd
    have hk := (hX t _ hd).kind
    cases h
    simp [Builtin.len_, run_underlying hk.1, goInt]
  · rename_i b c d z hd
    have hk := (hX t _ hd).kind
    split at h
    · cases h
      simp only [Rel] at hx
      obtain ⟨_, rfl⟩ := hx
      simp only [KindOK] at hk
      simp [Builtin.len_, run_underlying hk, goInt, PV.val]
    · cases h
  · cases h

theorem fold_max_ok {x y : AV} {l : List AV} {v : Value} {vs : List Value} (hx : Rel W φ H x v) (hl : RelL W φ H l vs) (h : foldV max2V x l = some y) :
    ∃ u, (vs.foldlM Builtin.max2 v : Sem Value).run P w = .ok u w ∧ Rel W φ H y u := by
  induction l generalizing x v vs with
  | nil =>
    cases vs with
    | nil => simp only [foldV, Option.some.injEq] at h; subst h; exact ⟨v, by simp, hx⟩
    | cons v vs => simp [RelL] at hl
  | cons z l ih =>
    cases vs with
    | nil => simp [RelL] at hl
    | cons u vs =>
      simp only [RelL] at hl
      simp only [foldV] at h
      split at h
      · rename_i m hm
        unfold max2V at hm
        split at hm
        · rename_i k p k' q
          cases hm
          have hz := hl.1
          simp only [Rel] at hx hz
          obtain ⟨_, rfl⟩ := hx
          obtain ⟨_, rfl⟩ := hz
          have hnew : Rel W φ H (.p (.i k (if q > p then q else p))) (.int k (if q > p then q else p)) := Rel.plain (x := .i k (if q > p then q else p)) trivial
          obtain ⟨r, h1, h2⟩ := ih hnew hl.2 h
          refine ⟨r, ?_, h2⟩
          rw [List.foldlM_cons]
          simp only [PV.val, Builtin.max2, Sem.run_bind, Sem.run_pure, Result.andThen_ok]
          exact h1
        · cases hm
      · cases h

theorem fold_min_ok {x y : AV} {l : List AV} {v : Value} {vs : List Value} (hx : Rel W φ H x v) (hl : RelL W φ H l vs) (h : foldV min2V x l = some y) :
    ∃ u, (vs.foldlM Builtin.min2 v : Sem Value).run P w = .ok u w ∧ Rel W φ H y u := by
  induction l generalizing x v vs with
  | nil =>
    cases vs with
    | nil => simp only [foldV, Option.some.injEq] at h; subst h; exact ⟨v, by simp, hx⟩
    | cons v vs => simp [RelL] at hl
  | cons z l ih =>
    cases vs with
    | nil => simp [RelL] at hl
    | cons u vs =>
      simp only [RelL] at hl
      simp only [foldV] at h
      split at h
      · rename_i m hm
        unfold min2V at hm
        split at hm
        · rename_i k p k' q
          cases hm
          have hz := hl.1
          simp only [Rel] at hx hz
          obtain ⟨_, rfl⟩ := hx
          obtain ⟨_, rfl⟩ := hz
          have hnew : Rel W φ H (.p (.i k (if q < p then q else p))) (.int k (if q < p then q else p)) := Rel.plain (x := .i k (if q < p then q else p)) trivial
          obtain ⟨r, h1, h2⟩ := ih hnew hl.2 h
          refine ⟨r, ?_, h2⟩
          rw [List.foldlM_cons]
          simp only [PV.val, Builtin.min2, Sem.run_bind, Sem.run_pure, Result.andThen_ok]
          exact h1
        · cases hm
      · cases h

theorem appendZ_ok (hX : X.ok P) (hS : HSim W φ H w) {id t u : Nat} (hfr : L id = none → H id = none) {x y v : AV} {xv yv : Value} {d : Delta} (hx : Rel W φ H x xv) (hy : Rel W φ H y yv)
    (h : appendZ X L id t u x y = some (v, d)) (ty : TypeId) :
    ∃ v' w' φ', (Builtin.append_ #[t, u] ty #[xv, yv]).run P w = .ok v' w' ∧ HSim W φ' (addF d H) w' ∧ HExt φ H φ' (addF d H) ∧ Rel W φ' (addF d H) v v' := by
  unfold appendZ at h
  split at h
  · cases h
  · rename_i hLid
    have hid := hfr hLid
    split at h
    · rename_i z td k b0 c0 g0 z0 n hz hu
      obtain ⟨e, he, hd, hzero⟩ := elemZero_ok hX hz
      have hu' := (hX u _ hu).kind
      simp only [KindOK] at hu'
      obtain ⟨i, i1, i2, i3, i4⟩ := (hX e td hd).info
      obtain ⟨zs1, zs2, zv, zs3, zs4⟩ := i4 _ hzero
      have hzr := zs4 W φ H
      simp only [Rel] at hzr
      obtain ⟨hzok, rfl⟩ := hzr
      split at h
      · rename_i c1
        have c1 := of_decide_eq_true c1
        split at h
        · rename_i hb
          simp only [Bool.and_eq_true] at hb
          obtain ⟨⟨hb1, hb2⟩, hb3⟩ := hb
          have hb2 : 1 ≤ i.bytes := by rw [i3]; exact Nat.le_of_ble_eq_true hb2
          have hb3 : 1 ≤ td.size := Nat.le_of_ble_eq_true hb3
          split at h
          · rename_i c2
            have c2 := of_decide_eq_true c2
            rw [← i3] at c2
            cases h
            simp only [Rel] at hx hy
            subst hx
            obtain ⟨_, rfl⟩ := hy
            simp only [PV.val, addF]
            have hsz : i.size = z.sh.size := by rw [i2]; exact (fits_size hb1).symm
            have hmul : n ≤ n * i.bytes := by
              have : n * 1 ≤ n * (i.bytes : Int) := Int.mul_le_mul_of_nonneg_left (by omega) c1
              omega
            have hwrap : IntKind.i64.wrap n = n := by rw [IntKind.wrap_i64]; omega
            have hn0 : ¬ (n < 0) := by omega
            have hbig : ¬ (281474976710656 < n * (i.bytes : Int)) := by omega
            have hszpos : i.size ≠ 0 := by omega
            have hzcells : Builtin.zeroCells z.val.cells n.toNat = (PV.cellsL (List.replicate n.toNat z)).toArray := by
              rw [← Array.toArray_toList (xs := Builtin.zeroCells _ _), cellsL_replicate]
              congr 1
              have := madeCells_replicate z.cells n.toNat
              rw [PV.cells_val]
              exact this
            by_cases h0 : n.toNat = 0
            · have : n = 0 := by omega
              subst this
              refine ⟨.slice none 0 0, w, upd φ id none, ?_, ?_⟩
              · simp [Builtin.append_, run_underlying he, run_underlying hu', sizeOf, typeInfo, i1, asInt, asIntOf, hwrap]
              · obtain ⟨g1, g2⟩ := hS.add (w' := w) (id := id) (blk := .els true z.sh (List.replicate (0 : Int).toNat z)) (pc := none) (Below.refl _ _) hid ⟨by simp [PV.okL], by simp [PV.allSh], by rw [upd_same]; simp⟩ (fun b c h => by cases h)
                refine ⟨g1, g2, ?_⟩
                simp only [Rel, upd_same]
                exact ⟨trivial, by simp⟩
            · have hneed : ¬ (n.toNat ≤ 0) := by omega
              have h63 : ¬ (9223372036854775807 < (n.toNat : Int)) := by omega
              have hnb : n.toNat * i.bytes ≤ 140737488351232 := by
                have : ((n.toNat * i.bytes : Nat) : Int) = n * i.bytes := by
                  rw [Int.natCast_mul, Int.toNat_of_nonneg c1]
                omega
              have hcap : ¬ (281474976710656 < Builtin.nextslicecap n.toNat 0 * i.bytes) := by
                rw [nextslicecap_zero (by omega)]
                omega
              have hge := grownCap_ge w n.toNat 0 e
              have hle := grownCap_le_maxLen w n.toNat 0 e (by unfold maxLen; omega)
              have hrun : (Builtin.append_ #[t, u] ty #[.slice none 0 0, .int .i64 n]).run P w =
                  .ok (.slice (some ⟨w.heap.size, 0, none⟩) n.toNat (grownCap w n.toNat 0 e)) (w.drew.alloc (.cells ((PV.cellsL (List.replicate n.toNat z)).toArray ++ Builtin.zeroCells z.val.cells (grownCap w n.toNat 0 e - n.toNat)) e)) := by
                have hmulz : ¬ (n.toNat * i.size = 0) := by
                  intro hh
                  rcases Nat.mul_eq_zero.1 hh with hh | hh <;> omega
                simp only [Builtin.append_, List.getElem?_toArray, List.getElem?_cons_zero, List.getElem?_cons_succ, Sem.run_bind, run_underlying he, run_underlying hu', Result.andThen_ok, info_size i1, Sem.run_pure, asInt, asIntOf, hwrap,
                  if_true, typeInfo, run_program, i1, Sem.run_ite, if_neg hn0]
                simp [hneed, hcap, Question.forced, Builtin.firstCells, hmulz, zeroValue, typeInfo, i1, zs3, hzcells, newRow, grownCap, hbig]
                intro hh
                exact absurd hh (by omega)
              refine ⟨_, _, upd φ id (some (w.heap.size, grownCap w n.toNat 0 e)), hrun, ?_⟩
              have hbel : Below w.heap.size w (w.drew.alloc (.cells ((PV.cellsL (List.replicate n.toNat z)).toArray ++ Builtin.zeroCells z.val.cells (grownCap w n.toNat 0 e - n.toNat)) e)) :=
                ((Below.refl w.heap.size w).drew).alloc (Nat.le_refl _) _
              have hml : (PV.cellsL (List.replicate n.toNat z)).length = n.toNat * z.sh.size := by
                rw [PV.cellsL_arr _ z.sh (okL_replicate hzok _) (allSh_replicate z _), List.length_replicate]
              obtain ⟨g1, g2⟩ := hS.add (id := id) (blk := .els true z.sh (List.replicate n.toNat z)) (pc := some (w.heap.size, grownCap w n.toNat 0 e)) hbel hid
                ⟨okL_replicate hzok _, allSh_replicate z _, by
                  rw [upd_same]
                  refine ⟨_, e, (0, 0), heap_alloc_new w.drew _, ?_, by simp; omega, hle, ?_, fun _ => rfl⟩
                  · have hzc : z.val.cells.size = z.sh.size := by rw [PV.cells_val, List.size_toArray, PV.cells_length z hzok]
                    simp only [Array.size_append, List.size_toArray, size_zeroCells, hzc, hml, ← Nat.add_mul]
                    rw [show n.toNat + (grownCap w n.toNat 0 e - n.toNat) = grownCap w n.toNat 0 e from by omega]
                    exact Nat.le_refl _
                  · simp only [Array.toList_append]
                    exact List.take_left' rfl⟩ (fun b c h => by cases h; exact Nat.le_refl _)
              refine ⟨g1, g2, ?_⟩
              simp only [Rel, upd_same]
              exact ⟨_, by simp, Nat.le_refl _, by simp; omega⟩
          · cases h
        · cases h
      · cases h
    · cases h

theorem val_arr (n : Nat) (s : Sh) (l : List PV) : (PV.arr n s l).val = .agg (PV.cellsL l).toArray := rfl
theorem val_i (k : IntKind) (n : Int) : (PV.i k n).val = .int k n := rfl

theorem outcome_of {s : Sem Value} {v : AV} {d : Delta} (h : ∃ v' w' φ', s.run P w = .ok v' w' ∧ HSim W φ' (addF d H) w' ∧ HExt φ H φ' (addF d H) ∧ Rel W φ' (addF d H) v v') :
    Outcome P W φ H (do pure (.value (← s)) : Sem Next) w v d := by
  obtain ⟨v', w', φ', h1, h2, h3, h4⟩ := h
  exact ⟨w', φ', v', .inl (by simp [h1]), h2, h3, h4⟩

theorem outcome_same {s : Sem Value} {v : AV} (hS : HSim W φ H w) (h : ∃ v', s.run P w = .ok v' w ∧ Rel W φ H v v') : Outcome P W φ H (do pure (.value (← s)) : Sem Next) w v [] := by
  obtain ⟨v', h1, h2⟩ := h
  exact outcome_of ⟨v', w, φ, h1, hS, HExt.refl _ _, h2⟩

/-- A new variable. -/
theorem newVar_ok (hS : HSim W φ H w) {id : Nat} (hid : H id = none) {x : AV} {v : Value} (hx : Rel W φ H x v) (hs : x.stays = true) (t : TypeId) :
    ∃ v' w' φ', (do pure (.pointer (some (← newVar t v))) : Sem Value).run P w = .ok v' w' ∧ HSim W φ' (addF [(id, .var x)] H) w' ∧ HExt φ H φ' (addF [(id, .var x)] H) ∧ Rel W φ' (addF [(id, .var x)] H) (.ptr id []) v' := by
  refine ⟨.pointer (some ⟨w.heap.size, 0, none⟩), w.alloc (.cells v.cells t), upd φ id (some (w.heap.size, 0)), by simp [newVar, newRow], ?_⟩
  simp only [addF]
  have heE : HExt φ H (upd φ id (some (w.heap.size, 0))) (upd H id (some (.var x))) := fun j y hy => by
    have hne : j ≠ id := fun e => by rw [e, hid] at hy; cases hy
    exact ⟨upd_ne _ _ hne, y, (upd_ne _ _ hne).trans hy, BlkLe.refl y⟩
  obtain ⟨g1, g2⟩ := hS.add (w' := w.alloc (.cells v.cells t)) (id := id) (blk := .var x) (pc := some (w.heap.size, 0)) ((Below.refl w.heap.size w).alloc (Nat.le_refl _) _) hid
    ⟨hs, w.heap.size, 0, _, t, v, upd_same _ _ _, heap_alloc_new w _, Rel.mono heE _ _ hx, rfl⟩ (fun b c h => by cases h; exact Nat.le_refl _)
  refine ⟨g1, g2, ?_⟩
  simp only [Rel, upd_same]
  exact ⟨_, _, 0, rfl, by cases x.sh <;> rfl, rfl⟩

theorem builtinV_ok (hX : X.ok P) (hS : HSim W φ H w) (hL : SubH L H) {id : Nat} (hfr : L id = none → H id = none) {b : Builtin} {ts : Array Nat} {args : List AV} {vals : List Value} (hr : RelL W φ H args vals)
    {v : AV} {d : Delta} (h : builtinV X L id b ts.toList args = some (v, d)) (ty : TypeId) (cs : Array Bool) : Outcome P W φ H (Go.builtin b ts ty cs vals.toArray) w v d := by
  obtain ⟨ts⟩ := ts
  unfold builtinV at h
  split at h
  · split at h
    · rename_i t x hts
      subst hts
      obtain ⟨xv, rfl⟩ : ∃ xv, vals = [xv] := by
        cases vals with
        | nil => simp [RelL] at hr
        | cons a vs => cases vs with
          | nil => exact ⟨a, rfl⟩
          | cons b vs => simp [RelL] at hr
      simp only [RelL] at hr
      split at h
      · rename_i n hn
        cases h
        exact outcome_same hS ⟨_, lenT_ok hX hL hr.1 hn ty, Rel.plain (x := .i .i64 n) trivial⟩
      · cases h
    · cases h
  · split at h
    · rename_i t x hts
      subst hts
      obtain ⟨xv, rfl⟩ : ∃ xv, vals = [xv] := by
        cases vals with
        | nil => simp [RelL] at hr
        | cons a vs => cases vs with
          | nil => exact ⟨a, rfl⟩
          | cons b vs => simp [RelL] at hr
      simp only [RelL] at hr
      split at h
      · rename_i hsl
        obtain ⟨e, he, _⟩ := isSlice_ok hX hsl
        split at h
        · rename_i n hn
          cases h
          unfold capV at hn
          split at hn
          · cases hn
            have hx := hr.1
            simp only [Rel] at hx
            subst hx
            refine outcome_same hS ⟨.int .i64 0, ?_, Rel.plain (x := .i .i64 0) trivial⟩
            simp [Builtin.cap_, run_underlying he, goInt]
          · cases hn
        · cases h
      · cases h
    · cases h
  · split at h
    · rename_i x r
      obtain ⟨xv, vs, rfl⟩ : ∃ xv vs, vals = xv :: vs := by
        cases vals with
        | nil => simp [RelL] at hr
        | cons a vs => exact ⟨a, vs, rfl⟩
      simp only [RelL] at hr
      split at h
      · rename_i y hy
        cases h
        exact outcome_same hS (fold_max_ok hr.1 hr.2 hy)
      · cases h
    · cases h
  · split at h
    · rename_i x r
      obtain ⟨xv, vs, rfl⟩ : ∃ xv vs, vals = xv :: vs := by
        cases vals with
        | nil => simp [RelL] at hr
        | cons a vs => exact ⟨a, vs, rfl⟩
      simp only [RelL] at hr
      split at h
      · rename_i y hy
        cases h
        exact outcome_same hS (fold_min_ok hr.1 hr.2 hy)
      · cases h
    · cases h
  · split at h
    · rename_i t u x y hts
      subst hts
      obtain ⟨xv, yv, rfl⟩ : ∃ xv yv, vals = [xv, yv] := by
        cases vals with
        | nil => simp [RelL] at hr
        | cons a vs => cases vs with
          | nil => simp [RelL] at hr
          | cons b vs => cases vs with
            | nil => exact ⟨a, b, rfl⟩
            | cons c vs => simp [RelL] at hr
      simp only [RelL] at hr
      split at h
      · exact outcome_of (appendV_ok hX hS hL hfr hr.1 hr.2.1 h ty)
      · exact outcome_of (appendZ_ok hX hS hfr hr.1 hr.2.1 h ty)
    · cases h
  · split at h
    · rename_i t u x y hts
      subst hts
      obtain ⟨xv, yv, rfl⟩ : ∃ xv yv, vals = [xv, yv] := by
        cases vals with
        | nil => simp [RelL] at hr
        | cons a vs => cases vs with
          | nil => simp [RelL] at hr
          | cons b vs => cases vs with
            | nil => exact ⟨a, b, rfl⟩
            | cons c vs => simp [RelL] at hr
      simp only [RelL] at hr
      exact outcome_of (copyV_ok hX hS hL hr.1 hr.2.1 h ty)
    · cases h
  · cases h

set_option maxHeartbeats 4000000 in
theorem opV_ok (hX : X.ok P) (hG : GlobOK W X.G) (hS : HSim W φ H w) (hL : SubH L H) (he : EnvOK W φ H ρ a) {fid : Nat → Nat} {o : Oper} (hfr : L (fid ((o.dst.getD 0) * 8)) = none → H (fid ((o.dst.getD 0) * 8)) = none)
    {v : AV} {d : Delta} (h : opV X ρ L fid o = some (v, d)) : Outcome P W φ H (execOp a.eval o) w v d := by
  obtain ⟨dst, op, ty, pos, after, guard⟩ := o
  unfold opV at h
  simp only at h hfr
  cases op <;> (try simp only at h) <;> try (cases h; done)
  all_goals simp only [execOp]
  case move x => cases h; exact Outcome.pure hS rfl (ev_ok hG he x)
  case assign x => cases h; exact Outcome.pure hS rfl (ev_ok hG he x)
  case pick c p q =>
    split at h
    · rename_i y hc
      have hcv := ev_ok hG he c
      rw [hc] at hcv
      simp only [Rel] at hcv
      obtain ⟨_, hcv⟩ := hcv
      rw [hcv]
      simp only [PV.val]
      split at h
      · cases h; exact Outcome.pure hS (by simp [asBool]) (ev_ok hG he p)
      · cases h; exact Outcome.pure hS (by simp [asBool]) (ev_ok hG he q)
    · cases h
  case alloc t =>
    split at h
    · rename_i z hz
      split at h
      · rename_i hl
        cases h
        unfold zeroOf at hz
        split at hz
        · rename_i k b c g zz hd
          subst hz
          obtain ⟨i, i1, i2, i3, i4⟩ := (hX t _ hd).info
          obtain ⟨zs1, zs2, zv, zs3, zs4⟩ := i4 _ rfl
          have := newVar_ok (P := P) hS (hfr hl) (zs4 W φ H) zs1 t
          obtain ⟨v', w', φ', g1, g2, g3, g4⟩ := this
          refine ⟨w', φ', v', .inl ?_, g2, g3, g4⟩
          simp only [Sem.run_bind, Sem.run_pure] at g1
          simp only [Instr.alloc, Sem.run_bind, zero_run i1 zs3, Result.andThen_ok, Sem.run_pure]
          rw [g1]
          rfl
        · cases hz
      · cases h
    · cases h
  case box t x =>
    split at h
    · rename_i hs
      split at h
      · rename_i hl
        cases h
        exact outcome_of (newVar_ok (P := P) hS (hfr hl) (ev_ok hG he x) hs t)
      · cases h
    · cases h
  case build t parts =>
    split at h
    · rename_i r hr
      cases h
      refine outcome_same hS (buildV_ok hX (vals := parts.map fun (i, x) => (i, a.eval x)) ?_ hr)
      rw [Array.toList_map]
      exact mapPair_ok hG he _
    · cases h
  case buildSlice t n parts =>
    refine outcome_of (buildSliceV_ok hX hS hfr (vals := parts.map fun (i, x) => (i, a.eval x)) ?_ h)
    rw [Array.toList_map]
    exact mapPair_ok hG he _
  case load t x =>
    split at h
    · rename_i r hr
      cases h
      obtain ⟨_, u, h1, h2⟩ := loadV_ok hX hS hL (ev_ok hG he x) hr
      exact outcome_same hS ⟨u, h1, h2⟩
    · cases h
  case store t x y =>
    split at h
    · rename_i r hr
      cases h
      obtain ⟨w', h1, h2, h3⟩ := storeV_ok hX hS hL (ev_ok hG he x) (ev_ok hG he y) hr
      exact ⟨w', φ, undef, .inr ⟨by simp [h1], rfl⟩, h2, h3, by unfold Rel; trivial⟩
    · cases h
  case binOp op t x y yt =>
    split at h
    · rename_i r hr
      cases h
      obtain ⟨h1, h2⟩ := binV_ok (P := P) (w := w) (ox := x) (oy := y) hX (ev_ok hG he x) (ev_ok hG he y) hr
      exact outcome_same hS ⟨_, h2, Rel.plain h1⟩
    · cases h
  case unOp op t x =>
    split at h
    · rename_i r hr
      cases h
      obtain ⟨h1, h2⟩ := unV_ok (P := P) (w := w) (ev_ok hG he x) hr
      exact outcome_same hS ⟨_, h2, Rel.plain h1⟩
    · cases h
  case convert src dst' x =>
    split at h
    · rename_i hs hd hx
      cases h
      have hsv := (hX _ _ hs).kind
      have hdv := (hX _ _ hd).kind
      simp only [KindOK] at hsv hdv
      have hxv := ev_ok hG he x
      rw [hx] at hxv
      simp only [Rel] at hxv
      obtain ⟨_, hxv⟩ := hxv
      rw [hxv]
      refine outcome_same hS ⟨_, ?_, Rel.plain (x := .i _ _) trivial⟩
      simp [convert, run_underlying hsv, run_underlying hdv, PV.val, Conv.intToInt]
    · cases h
  case makeFunc fn first caps =>
    split at h
    · rename_i f hf
      cases h
      have hf0 : first = #[] := by
        obtain ⟨l⟩ := first
        simpa using hf
      subst hf0
      refine outcome_same hS ⟨.func (.func f) #[] (caps.map a.eval), by simp [Instr.makeFunc], ?_⟩
      unfold Rel
      refine ⟨caps.toList.map a.eval, ?_, mapOp_ok hG he _⟩
      rw [← Array.toList_map, Array.toArray_toList]
    · cases h
  case makeSlice t n c =>
    split at h
    · rename_i p q hn hc
      have hnv := ev_ok hG he n
      have hcv := ev_ok hG he c
      rw [hn] at hnv
      rw [hc] at hcv
      simp only [Rel] at hnv hcv
      obtain ⟨_, hnv⟩ := hnv
      obtain ⟨_, hcv⟩ := hcv
      rw [hnv, hcv]
      exact outcome_of (makeSliceV_ok hX hS hfr h)
    · cases h
  case slice t x lo hi mx =>
    split at h
    · rename_i r hr
      cases h
      exact outcome_same hS (sliceV_ok hX hS hL (ev_ok hG he x) (optOp_ok hG he lo) (optOp_ok hG he hi) (optOp_ok hG he mx) hr)
    · cases h
  case fieldAddr t x f =>
    split at h
    · rename_i r hr
      cases h
      exact outcome_same hS (fieldAddrV_ok hX hS hL (ev_ok hG he x) hr)
    · cases h
  case field t x f =>
    split at h
    · rename_i r hr
      cases h
      have hx := ev_ok hG he x
      have hst : (ev X.G ρ x).stays = true := by
        unfold partOf at hr
        split at hr
        · rename_i hq; rw [hq]; rfl
        · rename_i hq; rw [hq]; rfl
        · cases hr
      obtain ⟨k0, fields, fld, d, k1, k2, k3, k4, k5, _, cs, pre, post, uz, k6, k7, k8, k9⟩ := partOf_ok hX hx hst hr
      refine outcome_same hS ⟨uz, ?_, k7⟩
      rw [k6]
      simp only [Instr.field, Sem.run_bind, run_underlying k1, Result.andThen_ok, k2, asAgg, Sem.run_pure]
      exact run_partA (hX _ d k3) k7 k0 k4 k8 k9
    · cases h
  case indexAddr t x i =>
    split at h
    · rename_i k n hi
      have hiv := ev_ok hG he i
      rw [hi] at hiv
      simp only [Rel] at hiv
      obtain ⟨_, hiv⟩ := hiv
      split at h
      · rename_i r hr
        cases h
        rw [hiv]
        exact outcome_same hS (indexAddrV_ok hX hS hL (ev_ok hG he x) hr)
      · cases h
    · cases h
  case index t x i =>
    split at h
    · rename_i k n m s l hi hx
      have hiv := ev_ok hG he i
      rw [hi] at hiv
      simp only [Rel] at hiv
      obtain ⟨_, hiv⟩ := hiv
      have hxv := ev_ok hG he x
      rw [hx] at hxv
      simp only [Rel, PV.ok] at hxv
      obtain ⟨⟨q1, q2, q3⟩, hxv⟩ := hxv
      split at h
      · rename_i hb
        simp only [Bool.and_eq_true] at hb
        obtain ⟨e, he', dd, hdd, hkk⟩ := isArr_ok hX hb.1
        have hsz := elemOK_ok hX hb.2 (.inl ⟨m, he'⟩) w
        split at h
        · rename_i y hy
          split at h
          · rename_i hf
            cases h
            obtain ⟨i0, i1, i2⟩ := getI_some hy
            unfold elemFits at hf
            rw [hdd] at hf
            obtain ⟨kk, z1, z2, z3, z4⟩ := dd
            simp only at hkk
            subst hkk
            simp only at hf
            split at hf
            · rename_i d hd
              obtain ⟨post, p1, p2⟩ := cellsL_at q2 q3 i1
              refine outcome_same hS ⟨y.val, ?_, Rel.plain (okL_get q2 i1)⟩
              rw [hiv, hxv]
              have hlt : n < (m : Int) := by omega
              simp only [val_arr, val_i, Instr.index, Sem.run_bind, asIntOf, Sem.run_pure, Result.andThen_ok, run_underlying he', Sem.run_ite]
              rw [if_pos ⟨i0, hlt⟩, hsz]
              simp only [Result.andThen_ok]
              exact run_partA (W := W) (φ := φ) (H := H) (hX e d hd) (Rel.plain (okL_get q2 i1)) rfl hf (pre := PV.cellsL (l.take n.toNat)) (post := post) (by rw [PV.cells_val_list]; exact p1) p2
            · cases hf
          · cases h
        · cases h
      · cases h
    · cases h
  case extract x i =>
    split at h
    · rename_i l hx
      have hxv := ev_ok hG he x
      rw [hx] at hxv
      simp only [Rel] at hxv
      obtain ⟨vs, h1, hxv⟩ := hxv
      split at h
      · rename_i y hy
        cases h
        obtain ⟨u, h2, h3⟩ := h1.get hy
        refine outcome_same hS ⟨u, ?_, h3⟩
        rw [hxv]
        simp [Instr.extract, h2]
      · cases h
    · cases h
  case sliceToArrayPointer t x =>
    split at h
    · rename_i id off len hx
      have hxv := ev_ok hG he x
      rw [hx] at hxv
      split at h
      · rename_i rw_ s l hLl
        have hl := hL _ _ hLl
        split at h
        · rename_i n e b c g z hd
          have hk := (hX t _ hd).kind
          split at h
          · rename_i hn
            simp only [Bool.and_eq_true] at hn
            have hn2 := Nat.le_of_ble_eq_true hn.2
            have hn := of_decide_eq_true hn.1
            cases h
            simp only [Rel, hl] at hxv
            obtain ⟨hon, hxv⟩ := hxv
            split at hxv
            · omega
            · rename_i b' cap hφ
              obtain ⟨ad, c', hxv, r1, r2, r3⟩ := hxv
              have hlt : ¬ (len < n) := by omega
              refine outcome_same hS ⟨.pointer (some ad), ?_, ?_⟩
              · rw [hxv]
                simp [Instr.arrayAt, run_underlying hk.1, hlt]
              · simp only [Rel, hl]
                refine ⟨by omega, b', cap, ad, hφ, rfl, ?_⟩
                rcases r3 with r3 | ⟨r3, _⟩
                · exact .inl r3
                · omega
          · cases h
        · cases h
      · cases h
    · cases h
  case nilCheck x =>
    split at h
    · rename_i id path hx
      cases h
      have hxv := ev_ok hG he x
      rw [hx] at hxv
      have hxv' := hxv
      simp only [Rel] at hxv
      split at hxv
      · obtain ⟨b, cap, o, _, _, hxv⟩ := hxv
        rw [hxv] at hxv' ⊢
        exact Outcome.pure hS rfl hxv'
      · exact hxv.elim
    · rename_i y hx
      cases h
      have hxv := ev_ok hG he x
      rw [hx] at hxv
      have hxv' := hxv
      simp only [Rel] at hxv
      obtain ⟨ad, u, hxv, _⟩ := hxv
      rw [hxv] at hxv' ⊢
      exact Outcome.pure hS rfl hxv'
    · cases h
  case call c =>
    obtain ⟨cal, args, ts⟩ := c
    cases cal <;> simp only at h <;> try (cases h; done)
    rename_i b
    have := builtinV_ok hX hS hL hfr (mapOp_ok hG he args.toList) h ty (args.map fun | .const _ => true | _ => false)
    simp only [resolve, invoke, pure_bind]
    rw [← Array.toList_map, Array.toArray_toList] at this
    exact this
  all_goals cases h

end Go.Proofs.Ytmngcmfcbfkimaa.AM
