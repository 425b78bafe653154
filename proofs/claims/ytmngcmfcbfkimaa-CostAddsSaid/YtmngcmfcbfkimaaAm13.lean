/- The abstract machine's operations are the model's: indexes and slice expressions. -/
import Derived.Test.YtmngcmfcbfkimaaAm12
namespace Go.Proofs.Ytmngcmfcbfkimaa.AM
open Go Go.RowKit

variable {P : Program} {X : Ctx} {W : World} {φ : Phi} {H L : HeapF} {w : World} {ρ : Nat → AV} {a : Act}

theorem getI_some {α : Type} {l : List α} {i : Int} {x : α} (h : getI l i = some x) : 0 ≤ i ∧ l[i.toNat]? = some x ∧ i < l.length := by
  unfold getI at h
  split at h
  · rename_i h0
    have h0 := of_decide_eq_true h0
    have := (List.getElem?_eq_some_iff.1 h).1
    exact ⟨h0, h, by omega⟩
  · cases h

theorem run_indexAt_arr {t n e sz : Nat} (h1 : P.underlying t = some (.array n e)) (h2 : (sizeOf e).run P w = .ok sz w) {i : Int} (h3 : 0 ≤ i) (h4 : i < n) (k : IntKind) (ad : Addr) :
    (Instr.indexAt t (.pointer (some ad)) (.int k i)).run P w = .ok (.pointer (some (ad.add (i.toNat * sz)))) w := by
  simp [Instr.indexAt, asIntOf, run_underlying h1, Instr.sureAddr, h2, h3, h4]

theorem run_indexAt_sl {t n e sz c : Nat} (h1 : P.underlying t = some (.slice e)) (h2 : (sizeOf e).run P w = .ok sz w) {i : Int} (h3 : 0 ≤ i) (h4 : i < n) (k : IntKind) (ad : Addr) :
    (Instr.indexAt t (.slice (some ad) n c) (.int k i)).run P w = .ok (.pointer (some (ad.add (i.toNat * sz)))) w := by
  simp [Instr.indexAt, asIntOf, run_underlying h1, h2, h3, h4]

/-- An element's cells, in the row of all. -/
theorem cellsL_at {l : List PV} {s : Sh} (hok : PV.okL l) (hsh : PV.allSh s l) {i : Nat} {x : PV} (h : l[i]? = some x) :
    ∃ post, PV.cellsL l = PV.cellsL (l.take i) ++ (x.cells ++ post) ∧ (PV.cellsL (l.take i)).length = i * s.size := by
  obtain ⟨c1, _⟩ := cut_at h
  refine ⟨PV.cellsL (l.drop (i + 1)), ?_, ?_⟩
  · conv => lhs; rw [c1]
    rw [PV.cellsL_append]
    simp [PV.cellsL]
  · have := (List.getElem?_eq_some_iff.1 h).1
    rw [PV.cellsL_arr _ s (okL_take hok i) (allSh_take hsh i), List.length_take, Nat.min_eq_left (by omega)]

theorem cut_get {α : Type} {l : List α} {off n i : Nat} {x : α} (h : ((l.drop off).take n)[i]? = some x) : l[off + i]? = some x ∧ i < n ∧ off + i < l.length := by
  rw [List.getElem?_take] at h
  split at h
  · rename_i hi
    rw [List.getElem?_drop] at h
    exact ⟨h, hi, (List.getElem?_eq_some_iff.1 h).1⟩
  · cases h

theorem indexAddrV_ok (hX : X.ok P) (hS : HSim W φ H w) (hL : SubH L H) {t : Nat} {x y : AV} {v : Value} {k : IntKind} {i : Int} (hr : Rel W φ H x v) (h : indexAddrV X L t x i = some y) :
    ∃ u, (Instr.indexAt t v (.int k i)).run P w = .ok u w ∧ Rel W φ H y u := by
  unfold indexAddrV at h
  split at h
  · rename_i id path
    split at h
    · rename_i x0 hx0
      have hH := hL _ _ hx0
      split at h
      · rename_i n s l hnav
        split at h
        · rename_i hb
          simp only [Bool.and_eq_true] at hb
          obtain ⟨e, he, _⟩ := isArr_ok hX hb.1
          have hsz := elemOK_ok hX hb.2 (.inl ⟨n, he⟩) w
          split at h
          · rename_i z hz
            cases h
            obtain ⟨i0, i1, i2⟩ := getI_some hz
            obtain ⟨hst, b, c, cs, T, vx, h1, h2, h3, h4⟩ := hS.blk _ _ hH
            obtain ⟨g1, g2, u, o, pre, post, g3, g4, g5, g6, _⟩ := navA_spec path x0 _ vx h3 hst hnav
            simp only [Rel, PV.ok] at g3
            have hl : l.length = n := g3.1.1
            simp only [Rel, hH] at hr
            obtain ⟨b', cap, o', r1, r2, rfl⟩ := hr
            refine ⟨_, run_indexAt_arr he hsz i0 (by omega) k _, ?_⟩
            simp only [Rel, hH]
            have g2' : shS x0.sh path = some (.arr n s) := g2
            exact ⟨b', cap, _, r1, offS_snoc_arr r2 g2' (by omega), by rw [AddrAdd]⟩
          · cases h
        · cases h
      · cases h
    · cases h
  · rename_i n s l
    split at h
    · rename_i hb
      simp only [Bool.and_eq_true] at hb
      obtain ⟨e, he, _⟩ := isArr_ok hX hb.1
      have hsz := elemOK_ok hX hb.2 (.inl ⟨n, he⟩) w
      split at h
      · rename_i z hz
        cases h
        obtain ⟨i0, i1, i2⟩ := getI_some hz
        simp only [Rel] at hr
        obtain ⟨ad, u, rfl, ⟨r1, rfl⟩, r2, r3⟩ := hr
        simp only [PV.ok] at r1
        obtain ⟨q1, q2, q3⟩ := r1
        refine ⟨_, run_indexAt_arr he hsz i0 (by omega) k _, ?_⟩
        unfold Rel
        obtain ⟨post, p1, p2⟩ := cellsL_at q2 q3 i1
        rw [PV.cells_val_list] at r3
        simp only [PV.cells] at r3
        rw [p1] at r3
        exact ⟨_, z.val, rfl, Rel.plain (okL_get q2 i1), rfl, by rw [← p2, PV.cells_val_list]; exact r3.part⟩
      · cases h
    · cases h
  · rename_i s l
    split at h
    · rename_i hb
      simp only [Bool.and_eq_true] at hb
      obtain ⟨e, he, _⟩ := isSlice_ok hX hb.1
      have hsz := elemOK_ok hX hb.2 (.inr he) w
      split at h
      · rename_i z hz
        cases h
        obtain ⟨i0, i1, i2⟩ := getI_some hz
        simp only [Rel] at hr
        obtain ⟨ao, c, rfl, _, q2, q3, r⟩ := hr
        rcases r with rfl | ⟨ad, rfl, r⟩
        · simp at i1
        · refine ⟨_, run_indexAt_sl he hsz i0 i2 k _, ?_⟩
          unfold Rel
          obtain ⟨post, p1, p2⟩ := cellsL_at q2 q3 i1
          rw [p1] at r
          exact ⟨_, z.val, rfl, Rel.plain (okL_get q2 i1), rfl, by rw [← p2, PV.cells_val_list]; exact r.part⟩
      · cases h
    · cases h
  · rename_i l
    split at h
    · rename_i hb
      simp only [Bool.and_eq_true] at hb
      obtain ⟨e, he, _⟩ := isSlice_ok hX hb.1
      have hsz := elemOK_ok hX hb.2 (.inr he) w
      split at h
      · rename_i z hz
        cases h
        obtain ⟨i0, i1, i2⟩ := getI_some hz
        simp only [Rel] at hr
        obtain ⟨ao, c, vs, rfl, q1, q2, r⟩ := hr
        obtain ⟨vz, q3, q4⟩ := q1.get i1
        obtain ⟨q5, q6⟩ := q2 z (List.mem_of_getElem? i1)
        rcases r with rfl | ⟨ad, rfl, r⟩
        · simp at i1
        · refine ⟨_, run_indexAt_sl he hsz i0 i2 k _, ?_⟩
          unfold Rel
          refine ⟨_, vz, rfl, q4, q6, ?_⟩
          rw [(Rel.one q4 q6 q5).1]
          intro j c hj
          cases j with
          | zero =>
            simp only [List.getElem?_cons_zero, Option.some.injEq] at hj
            subst hj
            rw [addAdd]
            simpa [Sh.size] using r i.toNat vz q3
          | succ j => simp at hj
      · cases h
    · cases h
  · rename_i id
    split at h
    · rename_i rw_ s l hx0
      have hH := hL _ _ hx0
      split at h
      · rename_i hb
        simp only [Bool.and_eq_true] at hb
        obtain ⟨e, he, _⟩ := isSlice_ok hX hb.1
        have hsz := elemOK_ok hX hb.2 (.inr he) w
        split at h
        · rename_i z hz
          cases h
          obtain ⟨i0, i1, i2⟩ := getI_some hz
          simp only [Rel, hH] at hr
          split at hr
          · obtain ⟨_, rfl⟩ := hr
            simp at i1
          · rename_i b cap hφ
            obtain ⟨c, rfl, _⟩ := hr
            refine ⟨_, run_indexAt_sl he hsz i0 i2 k _, ?_⟩
            simp only [Rel, hH]
            exact ⟨b, cap, 0, hφ, by omega, by cases s <;> rfl, by rw [AddrAdd, Nat.zero_add, Nat.add_zero]⟩
        · cases h
      · cases h
    · cases h
  · rename_i id off n
    split at h
    · rename_i rw_ s l hx0
      have hH := hL _ _ hx0
      split at h
      · rename_i hb
        simp only [Bool.and_eq_true] at hb
        obtain ⟨e, he, _⟩ := isSlice_ok hX hb.1
        have hsz := elemOK_ok hX hb.2 (.inr he) w
        split at h
        · rename_i z hz
          cases h
          obtain ⟨i0, i1, i2⟩ := getI_some hz
          obtain ⟨j1, j2, j3⟩ := cut_get i1
          simp only [Rel, hH] at hr
          obtain ⟨hon, hr⟩ := hr
          split at hr
          · obtain ⟨_, rfl⟩ := hr
            omega
          · rename_i b cap hφ
            obtain ⟨ad, c, rfl, _, _, ra⟩ := hr
            have ra : ad = ⟨b, off * s.size, none⟩ := by
              rcases ra with ra | ⟨ra, _⟩
              · exact ra
              · omega
            subst ra
            refine ⟨_, run_indexAt_sl he hsz i0 (by omega) k _, ?_⟩
            simp only [Rel, hH]
            exact ⟨b, cap, 0, hφ, by omega, by cases s <;> rfl, by rw [AddrAdd, Nat.add_mul, Nat.add_zero]⟩
        · cases h
      · cases h
    · cases h
  · rename_i id path off n
    split at h
    · rename_i x0 hx0
      have hH := hL _ _ hx0
      split at h
      · rename_i n' s l hnav
        split at h
        · rename_i hb
          simp only [Bool.and_eq_true] at hb
          obtain ⟨e, he, _⟩ := isSlice_ok hX hb.1
          have hsz := elemOK_ok hX hb.2 (.inr he) w
          split at h
          · rename_i z hz
            cases h
            obtain ⟨i0, i1, i2⟩ := getI_some hz
            obtain ⟨j1, j2, j3⟩ := cut_get i1
            obtain ⟨hst, b, c, cs, T, vx, h1, h2, h3, h4⟩ := hS.blk _ _ hH
            obtain ⟨g1, g2, u, o, pre, post, g3, g4, g5, g6, _⟩ := navA_spec path x0 _ vx h3 hst hnav
            simp only [Rel, hH] at hr
            obtain ⟨b', cap, o', k', s', ad, c', r1, r2, r3, r4, rfl, r5, r6⟩ := hr
            have g2' : shS x0.sh path = some (.arr n' s) := g2
            rw [g2'] at r3
            cases r3
            have r6 : ad = ⟨b', o' + off * s.size, none⟩ := by
              rcases r6 with r6 | r6
              · exact r6
              · omega
            subst r6
            refine ⟨_, run_indexAt_sl he hsz i0 (by omega) k _, ?_⟩
            simp only [Rel, hH]
            exact ⟨b', cap, _, r1, offS_snoc_arr r2 g2' (by omega), by rw [AddrAdd, Nat.add_mul, Nat.add_assoc]⟩
          · cases h
        · cases h
      · cases h
    · cases h
  · cases h

/-- The operands of a slice expression that may be missing. -/
def RelO (W : World) (φ : Phi) (H : HeapF) : Option AV → Option Value → Prop
  | none, none => True
  | some x, some v => Rel W φ H x v
  | _, _ => False

theorem bounds_ok {lo hi : Option AV} {n p q : Nat} {lov hiv : Option Value} (h1 : RelO W φ H lo lov) (h2 : RelO W φ H hi hiv) (h : bounds lo hi n = some (p, q)) (isS : Bool) (cap : Nat)
    (hn : n ≤ cap) : p + q ≤ n ∧ (Instr.sliceBounds isS n cap lov hiv none).run P w = .ok (p, p + q, cap) w := by
  unfold bounds at h
  split at h
  · cases h
    cases lov <;> simp only [RelO] at h1
    cases hiv <;> simp only [RelO] at h2
    simp [Instr.sliceBounds]
  · rename_i ka av
    cases hiv <;> simp only [RelO] at h2
    cases lov <;> simp only [RelO] at h1
    simp only [Rel, PV.val] at h1
    obtain ⟨_, rfl⟩ := h1
    split at h
    · rename_i c1
      have c1 := of_decide_eq_true c1
      split at h
      · rename_i c2
        have c2 := of_decide_eq_true c2
        cases h
        refine ⟨by omega, ?_⟩
        simp [Instr.sliceBounds, run_sliceBound, c1, c2]
      · cases h
    · cases h
  · rename_i kb bv
    cases lov <;> simp only [RelO] at h1
    cases hiv <;> simp only [RelO] at h2
    simp only [Rel, PV.val] at h2
    obtain ⟨_, rfl⟩ := h2
    split at h
    · rename_i c1
      have c1 := of_decide_eq_true c1
      split at h
      · rename_i c2
        have c2 := of_decide_eq_true c2
        cases h
        have c3 : bv ≤ (cap : Int) := by omega
        refine ⟨by omega, ?_⟩
        simp [Instr.sliceBounds, run_sliceBound, c1, c3]
      · cases h
    · cases h
  · rename_i ka av kb bv
    cases lov <;> simp only [RelO] at h1
    cases hiv <;> simp only [RelO] at h2
    simp only [Rel, PV.val] at h1 h2
    obtain ⟨_, rfl⟩ := h1
    obtain ⟨_, rfl⟩ := h2
    split at h
    · rename_i c1
      have c1 := of_decide_eq_true c1
      split at h
      · rename_i c2
        have c2 := of_decide_eq_true c2
        split at h
        · rename_i c3
          have c3 := of_decide_eq_true c3
          cases h
          have c4 : 0 ≤ bv := by omega
          have c5 : bv ≤ (cap : Int) := by omega
          have c6 : av ≤ (bv.toNat : Int) := by omega
          refine ⟨by omega, ?_⟩
          simp only [Instr.sliceBounds, Sem.run_bind, Sem.run_pure, Result.andThen_ok, run_sliceBound w kb bv cap _ c4 c5, run_sliceBound w ka av bv.toNat _ c1 c6]
          congr 2
          simp
          omega
        · cases h
      · cases h
    · cases h
  · cases h

theorem bounds3_ok {lo hi mx : Option AV} {n p q : Nat} {lov hiv mxv : Option Value} (h1 : RelO W φ H lo lov) (h2 : RelO W φ H hi hiv) (h3 : RelO W φ H mx mxv) (h : bounds3 lo hi mx n = some (p, q))
    (isS : Bool) (cap : Nat) (hn : n ≤ cap) : p + q ≤ n ∧ ∃ m, p + q ≤ m ∧ m ≤ cap ∧ (Instr.sliceBounds isS n cap lov hiv mxv).run P w = .ok (p, p + q, m) w := by
  unfold bounds3 at h
  split at h
  · cases mxv <;> simp only [RelO] at h3
    obtain ⟨g1, g2⟩ := bounds_ok (P := P) (w := w) h1 h2 h isS cap hn
    exact ⟨g1, cap, by omega, Nat.le_refl _, g2⟩
  · rename_i km mv
    cases mxv <;> simp only [RelO] at h3
    simp only [Rel, PV.val] at h3
    obtain ⟨_, rfl⟩ := h3
    split at h
    · rename_i kb bv
      cases hiv <;> simp only [RelO] at h2
      simp only [Rel, PV.val] at h2
      obtain ⟨_, rfl⟩ := h2
      split at h
      · rename_i c1
        have c1 := of_decide_eq_true c1
        split at h
        · rename_i c2
          have c2 := of_decide_eq_true c2
          unfold bounds at h
          split at h
          · rename_i h'; simp at h'
          · rename_i h'; simp at h'
          · rename_i kb' bv' _ hb'
            simp only [Option.some.injEq, AV.p.injEq, PV.i.injEq] at hb'
            obtain ⟨rfl, rfl⟩ := hb'
            cases lov <;> simp only [RelO] at h1
            split at h
            · rename_i c3
              have c3 := of_decide_eq_true c3
              split at h
              · rename_i c4
                have c4 := of_decide_eq_true c4
                cases h
                have d1 : 0 ≤ mv := by omega
                have d2 : mv ≤ (cap : Int) := by omega
                have d3 : bv ≤ (mv.toNat : Int) := by omega
                refine ⟨by omega, mv.toNat, by omega, by omega, ?_⟩
                simp only [Instr.sliceBounds, Sem.run_bind, Sem.run_pure, Result.andThen_ok, run_sliceBound w km mv cap _ d1 d2, run_sliceBound w kb bv mv.toNat _ c3 d3]
                simp
              · cases h
            · cases h
          · rename_i ka av kb' bv' hb'
            simp only [Option.some.injEq, AV.p.injEq, PV.i.injEq] at hb'
            obtain ⟨rfl, rfl⟩ := hb'
            cases lov <;> simp only [RelO] at h1
            simp only [Rel, PV.val] at h1
            obtain ⟨_, rfl⟩ := h1
            split at h
            · rename_i c3
              have c3 := of_decide_eq_true c3
              split at h
              · rename_i c4
                have c4 := of_decide_eq_true c4
                split at h
                · rename_i c5
                  have c5 := of_decide_eq_true c5
                  cases h
                  have d1 : 0 ≤ mv := by omega
                  have d2 : mv ≤ (cap : Int) := by omega
                  have d3 : bv ≤ (mv.toNat : Int) := by omega
                  have d4 : 0 ≤ bv := by omega
                  have d5 : av ≤ (bv.toNat : Int) := by omega
                  refine ⟨by omega, mv.toNat, by omega, by omega, ?_⟩
                  simp only [Instr.sliceBounds, Sem.run_bind, Sem.run_pure, Result.andThen_ok, run_sliceBound w km mv cap _ d1 d2, run_sliceBound w kb bv mv.toNat _ d4 d3, run_sliceBound w ka av bv.toNat _ c3 d5]
                  congr 2
                  simp
                  omega
                · cases h
              · cases h
            · cases h
          · cases h
        · cases h
      · cases h
    · cases h
  · cases h

theorem run_sliceAt_sl {t e n c p q m sz : Nat} {ao : Option Addr} {lov hiv mxv : Option Value} (h1 : P.underlying t = some (.slice e)) (h2 : (sizeOf e).run P w = .ok sz w)
    (h3 : (Instr.sliceBounds true n c lov hiv mxv).run P w = .ok (p, p + q, m) w) :
    (Instr.sliceAt t (.slice ao n c) lov hiv mxv).run P w = .ok (.slice (if m = p then ao else ao.map (·.add (p * sz))) q (m - p)) w := by
  simp only [Instr.sliceAt, Instr.slice, Sem.run_bind, run_underlying h1, Result.andThen_ok, h2, h3, Sem.run_pure]
  congr 2
  omega

theorem run_sliceAt_arr {t e n p q m sz : Nat} {ad : Addr} {lov hiv mxv : Option Value} (h1 : P.underlying t = some (.array n e)) (h2 : (sizeOf e).run P w = .ok sz w)
    (h3 : (Instr.sliceBounds false n n lov hiv mxv).run P w = .ok (p, p + q, m) w) :
    (Instr.sliceAt t (.pointer (some ad)) lov hiv mxv).run P w = .ok (.slice (some (if m = p then ad else ad.add (p * sz))) q (m - p)) w := by
  simp only [Instr.sliceAt, Instr.sureAddr, Sem.run_bind, run_underlying h1, Result.andThen_ok, h2, h3, Sem.run_pure]
  congr 2
  omega

theorem elemZero_ok (hX : X.ok P) {t : Nat} {z : AV} {d : TD} (h : elemZero X t = some (z, d)) : ∃ e, P.underlying t = some (.slice e) ∧ X.at e = some d ∧ d.zero = some z := by
  unfold elemZero at h
  split at h
  · rename_i e a b c z' hd
    split at h
    · rename_i k a' b' c' z0 hd'
      simp only [Option.some.injEq, Prod.mk.injEq] at h
      obtain ⟨rfl, rfl⟩ := h
      exact ⟨e, (hX t _ hd).kind, hd', rfl⟩
    · cases h
  · cases h

theorem sliceV_ok (hX : X.ok P) (hS : HSim W φ H w) (hL : SubH L H) {t : Nat} {x y : AV} {v : Value} {lo hi mx : Option AV} {lov hiv mxv : Option Value} (hr : Rel W φ H x v)
    (hlo : RelO W φ H lo lov) (hhi : RelO W φ H hi hiv) (hmx : RelO W φ H mx mxv) (h : sliceV X L t x lo hi mx = some y) :
    ∃ u, (Instr.sliceAt t v lov hiv mxv).run P w = .ok u w ∧ Rel W φ H y u := by
  unfold sliceV at h
  split at h
  · split at h
    · rename_i zd hz
      obtain ⟨e, he, hd, _⟩ := elemZero_ok hX (z := zd.1) (d := zd.2) hz
      have hsz := (hX e _ hd).sizeOf w
      split at h
      · rename_i pq hpq
        obtain ⟨p, q⟩ := pq
        cases h
        simp only [Rel] at hr
        subst hr
        obtain ⟨g1, m, g2, g3, g4⟩ := bounds3_ok (P := P) (w := w) hlo hhi hmx hpq true 0 (Nat.le_refl _)
        have hp : p = 0 := by omega
        have hq : q = 0 := by omega
        have hm : m = 0 := by omega
        subst hp hq hm
        refine ⟨_, run_sliceAt_sl he hsz g4, ?_⟩
        unfold Rel
        rfl
      · cases h
    · cases h
  · rename_i s l
    split at h
    · rename_i hb
      simp only [Bool.and_eq_true] at hb
      obtain ⟨e, he, _⟩ := isSlice_ok hX hb.1
      have hsz := elemOK_ok hX hb.2 (.inr he) w
      split at h
      · rename_i p q hpq
        cases h
        simp only [Rel] at hr
        obtain ⟨ao, c, rfl, hc, h1, h2, h3⟩ := hr
        obtain ⟨g1, m, g2, g3, g4⟩ := bounds3_ok (P := P) (w := w) hlo hhi hmx hpq true c hc
        refine ⟨_, run_sliceAt_sl he hsz g4, ?_⟩
        unfold Rel
        have hlen : ((l.drop p).take q).length = q := by simp; omega
        rw [hlen]
        refine ⟨_, _, rfl, by omega, okL_take (okL_drop h1 p) q, allSh_take (allSh_drop h2 p) q, ?_⟩
        rcases h3 with rfl | ⟨ad, rfl, h3⟩
        · exact .inl (by simp)
        · by_cases hm : m = p
          · left
            have : q = 0 := by omega
            subst this
            simp
          · right
            refine ⟨ad.add (p * s.size), by simp [hm], ?_⟩
            have h5 : PV.cellsL l = PV.cellsL (l.take p) ++ (PV.cellsL ((l.drop p).take q) ++ PV.cellsL ((l.drop p).drop q)) := by
              rw [← PV.cellsL_append, ← PV.cellsL_append, List.take_append_drop, List.take_append_drop]
            rw [h5] at h3
            have := h3.part
            rwa [PV.cellsL_arr _ s (okL_take h1 p) (allSh_take h2 p), List.length_take, Nat.min_eq_left (by omega)] at this
      · cases h
    · cases h
  · rename_i id off n
    split at h
    · rename_i rw_ s l hx0
      have hH := hL _ _ hx0
      split at h
      · rename_i hb
        simp only [Bool.and_eq_true] at hb
        obtain ⟨e, he, _⟩ := isSlice_ok hX hb.1
        have hsz := elemOK_ok hX hb.2 (.inr he) w
        split at h
        · rename_i p q hpq
          simp only [Rel, hH] at hr
          obtain ⟨hon, hr⟩ := hr
          split at hr
          · rename_i hφ
            obtain ⟨rfl, rfl⟩ := hr
            obtain ⟨g1, m, g2, g3, g4⟩ := bounds3_ok (P := P) (w := w) hlo hhi hmx hpq true 0 (Nat.le_refl _)
            have hp : p = 0 := by omega
            have hq : q = 0 := by omega
            have hm : m = 0 := by omega
            subst hp hq hm
            simp only [Option.some.injEq] at h
            subst h
            refine ⟨_, run_sliceAt_sl he hsz g4, ?_⟩
            simp only [Rel, hH, hφ]
            exact ⟨by omega, rfl, trivial⟩
          · rename_i b cap hφ
            obtain ⟨ad, c, rfl, r1, r2, r3⟩ := hr
            obtain ⟨g1, m, g2, g3, g4⟩ := bounds3_ok (P := P) (w := w) hlo hhi hmx hpq true c r2
            refine ⟨_, run_sliceAt_sl he hsz g4, ?_⟩
            cases p with
            | zero =>
              simp only [Option.some.injEq] at h
              subst h
              simp only [Rel, hH, hφ]
              refine ⟨by omega, ad, m, ?_, by omega, by omega, ?_⟩
              · by_cases hm : m = 0 <;> simp [hm, Addr.add]
              · rcases r3 with r3 | r3
                · exact .inl r3
                · exact .inr ⟨by omega, r3.2⟩
            | succ p =>
              simp only [Option.some.injEq] at h
              subst h
              simp only [Rel, hH, hφ]
              refine ⟨by omega, if m = p + 1 then ad else ad.add ((p + 1) * s.size), m - (p + 1), by (by_cases hm : m = p + 1 <;> simp [hm]), by omega, by omega, ?_⟩
              by_cases hm : m = p + 1
              · exact .inr ⟨by omega, by omega⟩
              · rw [if_neg hm]
                rcases r3 with rfl | ⟨rfl, _⟩
                · left
                  rw [AddrAdd, ← Nat.add_mul]
                · omega
        · cases h
      · cases h
    · cases h
  · rename_i id
    split at h
    · rename_i rw_ s l hx0
      have hH := hL _ _ hx0
      split at h
      · rename_i hb
        simp only [Bool.and_eq_true] at hb
        obtain ⟨e, he, _⟩ := isSlice_ok hX hb.1
        have hsz := elemOK_ok hX hb.2 (.inr he) w
        split at h
        · rename_i p q hpq
          cases h
          simp only [Rel, hH] at hr
          split at hr
          · rename_i hφ
            obtain ⟨rfl, rfl⟩ := hr
            obtain ⟨g1, m, g2, g3, g4⟩ := bounds3_ok (P := P) (w := w) hlo hhi hmx hpq true 0 (Nat.le_refl _)
            simp only [List.length_nil] at g1 hpq
            have hp : p = 0 := by omega
            have hq : q = 0 := by omega
            have hm : m = 0 := by omega
            subst hp hq hm
            refine ⟨_, run_sliceAt_sl he hsz g4, ?_⟩
            simp only [Rel, hH, hφ]
            exact ⟨by simp, rfl, trivial⟩
          · rename_i b cap hφ
            obtain ⟨c, rfl, r1, r2⟩ := hr
            obtain ⟨g1, m, g2, g3, g4⟩ := bounds3_ok (P := P) (w := w) hlo hhi hmx hpq true c r2
            refine ⟨_, run_sliceAt_sl he hsz g4, ?_⟩
            simp only [Rel, hH, hφ]
            refine ⟨by omega, if m = p then ⟨b, 0, none⟩ else (⟨b, 0, none⟩ : Addr).add (p * s.size), m - p, ?_, by omega, by omega, ?_⟩
            · by_cases hm : m = p <;> simp [hm]
            · by_cases hm : m = p
              · by_cases hp : p = 0
                · subst hp; left; simp [hm]
                · exact .inr ⟨by omega, hp⟩
              · left
                rw [if_neg hm, AddrAdd, Nat.zero_add]
        · cases h
      · cases h
    · cases h
  · rename_i id path
    split at h
    · rename_i x0 hx0
      have hH := hL _ _ hx0
      split at h
      · rename_i k s l hnav
        split at h
        · rename_i hb
          simp only [Bool.and_eq_true] at hb
          obtain ⟨e, he, _⟩ := isArr_ok hX hb.1
          have hsz := elemOK_ok hX hb.2 (.inl ⟨k, he⟩) w
          split at h
          · rename_i p q hpq
            cases h
            obtain ⟨hst, b, c, cs, T, vx, h1, h2, h3, h4⟩ := hS.blk _ _ hH
            obtain ⟨g1, g2, u, o, pre, post, g3, g4, g5, g6, _⟩ := navA_spec path x0 _ vx h3 hst hnav
            simp only [Rel, hH] at hr
            obtain ⟨b', cap, o', r1, r2, rfl⟩ := hr
            obtain ⟨k1, m, k2, k3, k4⟩ := bounds3_ok (P := P) (w := w) hlo hhi hmx hpq false k (Nat.le_refl _)
            refine ⟨_, run_sliceAt_arr he hsz k4, ?_⟩
            simp only [Rel, hH]
            have g2' : shS x0.sh path = some (.arr k s) := g2
            refine ⟨b', cap, o', k, s, _, _, r1, r2, g2', by omega, rfl, by omega, ?_⟩
            by_cases hm : m = p
            · exact .inr (by omega)
            · left
              rw [if_neg hm, AddrAdd]
          · cases h
        · cases h
      · cases h
    · cases h
  · rename_i k s l
    split at h
    · rename_i hb
      simp only [Bool.and_eq_true] at hb
      obtain ⟨e, he, _⟩ := isArr_ok hX hb.1
      have hsz := elemOK_ok hX hb.2 (.inl ⟨k, he⟩) w
      split at h
      · rename_i p q hpq
        cases h
        simp only [Rel] at hr
        obtain ⟨ad, u, rfl, ⟨r1, rfl⟩, r2, r3⟩ := hr
        simp only [PV.ok] at r1
        obtain ⟨q1, q2, q3⟩ := r1
        obtain ⟨k1, m, k2, k3, k4⟩ := bounds3_ok (P := P) (w := w) hlo hhi hmx hpq false k (Nat.le_refl _)
        refine ⟨_, run_sliceAt_arr he hsz k4, ?_⟩
        unfold Rel
        have hlen : ((l.drop p).take q).length = q := by simp; omega
        rw [hlen]
        refine ⟨_, _, rfl, by omega, okL_take (okL_drop q2 p) q, allSh_take (allSh_drop q3 p) q, ?_⟩
        by_cases hm : m = p
        · left
          have : q = 0 := by omega
          subst this
          simp
        · right
          refine ⟨_, rfl, ?_⟩
          rw [if_neg hm]
          rw [PV.cells_val_list] at r3
          simp only [PV.cells] at r3
          have h5 : PV.cellsL l = PV.cellsL (l.take p) ++ (PV.cellsL ((l.drop p).take q) ++ PV.cellsL ((l.drop p).drop q)) := by
            rw [← PV.cellsL_append, ← PV.cellsL_append, List.take_append_drop, List.take_append_drop]
          rw [h5] at r3
          have r4 := r3.part.later hS.below
          have r5 : RowAt W (ad.add (p * s.size)) (PV.cellsL ((l.drop p).take q)) := by
            have := r3.part
            rwa [PV.cellsL_arr _ s (okL_take q2 p) (allSh_take q3 p), List.length_take, Nat.min_eq_left (by omega)] at this
          exact r5
      · cases h
    · cases h
  · cases h

end Go.Proofs.Ytmngcmfcbfkimaa.AM
