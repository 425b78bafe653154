/- An abstract machine for walks, and its soundness (two of three texts). -/
import Derived.Test.YtipmkjfbdflneaaDoorAmA
import Derived.Laws.BytesString
import Derived.RangeFuncRecord
import Derived.MapKept
namespace Go.Proofs.YtipmkjfbdflneaaDoor.AM
open Go Go.RowKit

variable {P : Program} {X : Ctx} {W : World} {φ : Phi} {H L : HeapF} {w : World} {ρ : Nat → AV} {a : Act}

theorem getI_some {α : Type} {l : List α} {i : Int} {x : α} (h : getI l i = some x) : 0 ≤ i ∧ l[i.toNat]? = some x ∧ i < l.length := by
  unfold getI at h
  split at h
  · rename_i h0
    have h0 := of_decide_eq_true h0
    have := (List.getElem?_eq_some_iff.1 h).1
    exact ⟨h0, h, by omega⟩
  · cases h

theorem run_indexAt_arr {t n e sz : Nat} (h1 : P.underlying t = some (.array n e)) (h2 : (sizeOf e).run P w = .ok sz w) {i : Int} (h3 : 0 ≤ i) (h4 : i < n) (k : IntKind) (ad : Addr) :
    (Instr.indexAt t (.pointer (some ad)) (.int k i)).run P w = .ok (.pointer (some (ad.add (i.toNat * sz)))) w := by
  simp [Instr.indexAt, asIntOf, run_underlying h1, Instr.sureAddr, h2, h3, h4]

theorem run_indexAt_sl {t n e sz c : Nat} (h1 : P.underlying t = some (.slice e)) (h2 : (sizeOf e).run P w = .ok sz w) {i : Int} (h3 : 0 ≤ i) (h4 : i < n) (k : IntKind) (ad : Addr) :
    (Instr.indexAt t (.slice (some ad) n c) (.int k i)).run P w = .ok (.pointer (some (ad.add (i.toNat * sz)))) w := by
  simp [Instr.indexAt, asIntOf, run_underlying h1, h2, h3, h4]

/-- An element's cells, in the row of all. -/
theorem cellsL_at {l : List PV} {s : Sh} (hok : PV.okL l) (hsh : PV.allSh s l) {i : Nat} {x : PV} (h : l[i]? = some x) :
    ∃ post, PV.cellsL l = PV.cellsL (l.take i) ++ (x.cells ++ post) ∧ (PV.cellsL (l.take i)).length = i * s.size := by
  obtain ⟨c1, _⟩ := cut_at h
  refine ⟨PV.cellsL (l.drop (i + 1)), ?_, ?_⟩
  · conv => lhs; rw [c1]
    rw [PV.cellsL_append]
    simp [PV.cellsL]
  · have := (List.getElem?_eq_some_iff.1 h).1
    rw [PV.cellsL_arr _ s (okL_take hok i) (allSh_take hsh i), List.length_take, Nat.min_eq_left (by omega)]

theorem cut_get {α : Type} {l : List α} {off n i : Nat} {x : α} (h : ((l.drop off).take n)[i]? = some x) : l[off + i]? = some x ∧ i < n ∧ off + i < l.length := by
  rw [List.getElem?_take] at h
  split at h
  · rename_i hi
    rw [List.getElem?_drop] at h
    exact ⟨h, hi, (List.getElem?_eq_some_iff.1 h).1⟩
  · cases h

theorem indexAddrV_ok (hX : X.ok P) (hS : HSim W φ H w) (hL : SubH L H) {t : Nat} {x y : AV} {v : Value} {k : IntKind} {i : Int} (hr : Rel W φ H x v) (h : indexAddrV X L t x i = some y) :
    ∃ u, (Instr.indexAt t v (.int k i)).run P w = .ok u w ∧ Rel W φ H y u := by
  unfold indexAddrV at h
  split at h
  · rename_i id path
    split at h
    · rename_i x0 hx0
      have hH := hL _ _ hx0
      split at h
      · rename_i n s l hnav
        split at h
        · rename_i hb
          simp only [Bool.and_eq_true] at hb
          obtain ⟨e, he, _⟩ := isArr_ok hX hb.1
          have hsz := elemOK_ok hX hb.2 (.inl ⟨n, he⟩) w
          split at h
          · rename_i z hz
            cases h
            obtain ⟨i0, i1, i2⟩ := getI_some hz
            obtain ⟨hst, b, c, cs, T, vx, h1, h2, h3, h4⟩ := hS.blk _ _ hH
            obtain ⟨g1, g2, u, o, pre, post, g3, g4, g5, g6, _⟩ := navA_spec path x0 _ vx h3 hst hnav
            simp only [Rel, PV.ok] at g3
            have hl : l.length = n := g3.1.1
            simp only [Rel, hH] at hr
            obtain ⟨b', cap, o', r1, r2, rfl⟩ := hr
            refine ⟨_, run_indexAt_arr he hsz i0 (by omega) k _, ?_⟩
            simp only [Rel, hH]
            have g2' : shS x0.sh path = some (.arr n s) := g2
            exact ⟨b', cap, _, r1, offS_snoc_arr r2 g2' (by omega), by rw [AddrAdd]⟩
          · cases h
        · cases h
      · cases h
    · cases h
  · rename_i n s l
    split at h
    · rename_i hb
      simp only [Bool.and_eq_true] at hb
      obtain ⟨e, he, _⟩ := isArr_ok hX hb.1
      have hsz := elemOK_ok hX hb.2 (.inl ⟨n, he⟩) w
      split at h
      · rename_i z hz
        cases h
        obtain ⟨i0, i1, i2⟩ := getI_some hz
        simp only [Rel] at hr
        obtain ⟨ad, u, rfl, ⟨r1, rfl⟩, r2, r3⟩ := hr
        simp only [PV.ok] at r1
        obtain ⟨q1, q2, q3⟩ := r1
        refine ⟨_, run_indexAt_arr he hsz i0 (by omega) k _, ?_⟩
        unfold Rel
        obtain ⟨post, p1, p2⟩ := cellsL_at q2 q3 i1
        rw [PV.cells_val_list] at r3
        simp only [PV.cells] at r3
        rw [p1] at r3
        exact ⟨_, z.val, rfl, Rel.plain (okL_get q2 i1), rfl, by rw [← p2, PV.cells_val_list]; exact r3.part⟩
      · cases h
    · cases h
  · rename_i s l
    split at h
    · rename_i hb
      simp only [Bool.and_eq_true] at hb
      obtain ⟨e, he, _⟩ := isSlice_ok hX hb.1
      have hsz := elemOK_ok hX hb.2 (.inr he) w
      split at h
      · rename_i z hz
        cases h
        obtain ⟨i0, i1, i2⟩ := getI_some hz
        simp only [Rel] at hr
        obtain ⟨ao, c, rfl, _, q2, q3, r⟩ := hr
        rcases r with rfl | ⟨ad, rfl, r⟩
        · simp at i1
        · refine ⟨_, run_indexAt_sl he hsz i0 i2 k _, ?_⟩
          unfold Rel
          obtain ⟨post, p1, p2⟩ := cellsL_at q2 q3 i1
          rw [p1] at r
          exact ⟨_, z.val, rfl, Rel.plain (okL_get q2 i1), rfl, by rw [← p2, PV.cells_val_list]; exact r.part⟩
      · cases h
    · cases h
  · rename_i l
    split at h
    · rename_i hb
      simp only [Bool.and_eq_true] at hb
      obtain ⟨e, he, _⟩ := isSlice_ok hX hb.1
      have hsz := elemOK_ok hX hb.2 (.inr he) w
      split at h
      · rename_i z hz
        cases h
        obtain ⟨i0, i1, i2⟩ := getI_some hz
        simp only [Rel] at hr
        obtain ⟨ao, c, vs, rfl, q1, q2, r⟩ := hr
        obtain ⟨vz, q3, q4⟩ := q1.get i1
        obtain ⟨q5, q6⟩ := q2 z (List.mem_of_getElem? i1)
        rcases r with rfl | ⟨ad, rfl, r⟩
        · simp at i1
        · refine ⟨_, run_indexAt_sl he hsz i0 i2 k _, ?_⟩
          unfold Rel
          refine ⟨_, vz, rfl, q4, q6, ?_⟩
          rw [(Rel.one q4 q6 q5).1]
          intro j c hj
          cases j with
          | zero =>
            simp only [List.getElem?_cons_zero, Option.some.injEq] at hj
            subst hj
            rw [addAdd]
            simpa [Sh.size] using r i.toNat vz q3
          | succ j => simp at hj
      · cases h
    · cases h
  · rename_i id
    split at h
    · rename_i rw_ s l hx0
      have hH := hL _ _ hx0
      split at h
      · rename_i hb
        simp only [Bool.and_eq_true] at hb
        obtain ⟨e, he, _⟩ := isSlice_ok hX hb.1
        have hsz := elemOK_ok hX hb.2 (.inr he) w
        split at h
        · rename_i z hz
          cases h
          obtain ⟨i0, i1, i2⟩ := getI_some hz
          simp only [Rel, hH] at hr
          split at hr
          · obtain ⟨_, rfl⟩ := hr
            simp at i1
          · rename_i b cap hφ
            obtain ⟨c, rfl, _⟩ := hr
            refine ⟨_, run_indexAt_sl he hsz i0 i2 k _, ?_⟩
            simp only [Rel, hH]
            exact ⟨b, cap, 0, hφ, by omega, by cases s <;> rfl, by rw [AddrAdd, Nat.zero_add, Nat.add_zero]⟩
        · cases h
      · cases h
    · cases h
  · rename_i id off n
    split at h
    · rename_i rw_ s l hx0
      have hH := hL _ _ hx0
      split at h
      · rename_i hb
        simp only [Bool.and_eq_true] at hb
        obtain ⟨e, he, _⟩ := isSlice_ok hX hb.1
        have hsz := elemOK_ok hX hb.2 (.inr he) w
        split at h
        · rename_i z hz
          cases h
          obtain ⟨i0, i1, i2⟩ := getI_some hz
          obtain ⟨j1, j2, j3⟩ := cut_get i1
          simp only [Rel, hH] at hr
          obtain ⟨hon, hr⟩ := hr
          split at hr
          · obtain ⟨_, rfl⟩ := hr
            omega
          · rename_i b cap hφ
            obtain ⟨ad, c, rfl, _, _, ra⟩ := hr
            have ra : ad = ⟨b, off * s.size, none⟩ := by
              rcases ra with ra | ⟨ra, _⟩
              · exact ra
              · omega
            subst ra
            refine ⟨_, run_indexAt_sl he hsz i0 (by omega) k _, ?_⟩
            simp only [Rel, hH]
            exact ⟨b, cap, 0, hφ, by omega, by cases s <;> rfl, by rw [AddrAdd, Nat.add_mul, Nat.add_zero]⟩
        · cases h
      · cases h
    · cases h
  · rename_i id path off n
    split at h
    · rename_i x0 hx0
      have hH := hL _ _ hx0
      split at h
      · rename_i n' s l hnav
        split at h
        · rename_i hb
          simp only [Bool.and_eq_true] at hb
          obtain ⟨e, he, _⟩ := isSlice_ok hX hb.1
          have hsz := elemOK_ok hX hb.2 (.inr he) w
          split at h
          · rename_i z hz
            cases h
            obtain ⟨i0, i1, i2⟩ := getI_some hz
            obtain ⟨j1, j2, j3⟩ := cut_get i1
            obtain ⟨hst, b, c, cs, T, vx, h1, h2, h3, h4⟩ := hS.blk _ _ hH
            obtain ⟨g1, g2, u, o, pre, post, g3, g4, g5, g6, _⟩ := navA_spec path x0 _ vx h3 hst hnav
            simp only [Rel, hH] at hr
            obtain ⟨b', cap, o', k', s', ad, c', r1, r2, r3, r4, rfl, r5, r6⟩ := hr
            have g2' : shS x0.sh path = some (.arr n' s) := g2
            rw [g2'] at r3
            cases r3
            have r6 : ad = ⟨b', o' + off * s.size, none⟩ := by
              rcases r6 with r6 | r6
              · exact r6
              · omega
            subst r6
            refine ⟨_, run_indexAt_sl he hsz i0 (by omega) k _, ?_⟩
            simp only [Rel, hH]
            exact ⟨b', cap, _, r1, offS_snoc_arr r2 g2' (by omega), by rw [AddrAdd, Nat.add_mul, Nat.add_assoc]⟩
          · cases h
        · cases h
      · cases h
    · cases h
  · cases h

/-- The operands of a slice expression that may be missing. -/
def RelO (W : World) (φ : Phi) (H : HeapF) : Option AV → Option Value → Prop
  | none, none => True
  | some x, some v => Rel W φ H x v
  | _, _ => False

theorem bounds_ok {lo hi : Option AV} {n p q : Nat} {lov hiv : Option Value} (h1 : RelO W φ H lo lov) (h2 : RelO W φ H hi hiv) (h : bounds lo hi n = some (p, q)) (isS : Bool) (cap : Nat)
    (hn : n ≤ cap) : p + q ≤ n ∧ (Instr.sliceBounds isS n cap lov hiv none).run P w = .ok (p, p + q, cap) w := by
  unfold bounds at h
  split at h
  · cases h
    cases lov <;> simp only [RelO] at h1
    cases hiv <;> simp only [RelO] at h2
    simp [Instr.sliceBounds]
  · rename_i ka av
    cases hiv <;> simp only [RelO] at h2
    cases lov <;> simp only [RelO] at h1
    simp only [Rel, PV.val] at h1
    obtain ⟨_, rfl⟩ := h1
    split at h
    · rename_i c1
      have c1 := of_decide_eq_true c1
      split at h
      · rename_i c2
        have c2 := of_decide_eq_true c2
        cases h
        refine ⟨by omega, ?_⟩
        simp [Instr.sliceBounds, run_sliceBound, c1, c2]
      · cases h
    · cases h
  · rename_i kb bv
    cases lov <;> simp only [RelO] at h1
    cases hiv <;> simp only [RelO] at h2
    simp only [Rel, PV.val] at h2
    obtain ⟨_, rfl⟩ := h2
    split at h
    · rename_i c1
      have c1 := of_decide_eq_true c1
      split at h
      · rename_i c2
        have c2 := of_decide_eq_true c2
        cases h
        have c3 : bv ≤ (cap : Int) := by omega
        refine ⟨by omega, ?_⟩
        simp [Instr.sliceBounds, run_sliceBound, c1, c3]
      · cases h
    · cases h
  · rename_i ka av kb bv
    cases lov <;> simp only [RelO] at h1
    cases hiv <;> simp only [RelO] at h2
    simp only [Rel, PV.val] at h1 h2
    obtain ⟨_, rfl⟩ := h1
    obtain ⟨_, rfl⟩ := h2
    split at h
    · rename_i c1
      have c1 := of_decide_eq_true c1
      split at h
      · rename_i c2
        have c2 := of_decide_eq_true c2
        split at h
        · rename_i c3
          have c3 := of_decide_eq_true c3
          cases h
          have c4 : 0 ≤ bv := by omega
          have c5 : bv ≤ (cap : Int) := by omega
          have c6 : av ≤ (bv.toNat : Int) := by omega
          refine ⟨by omega, ?_⟩
          simp only [Instr.sliceBounds, Sem.run_bind, Sem.run_pure, Result.andThen_ok, run_sliceBound w kb bv cap _ c4 c5, run_sliceBound w ka av bv.toNat _ c1 c6]
          congr 2
          simp
          omega
        · cases h
      · cases h
    · cases h
  · cases h

theorem bounds3_ok {lo hi mx : Option AV} {n p q : Nat} {lov hiv mxv : Option Value} (h1 : RelO W φ H lo lov) (h2 : RelO W φ H hi hiv) (h3 : RelO W φ H mx mxv) (h : bounds3 lo hi mx n = some (p, q))
    (isS : Bool) (cap : Nat) (hn : n ≤ cap) : p + q ≤ n ∧ ∃ m, p + q ≤ m ∧ m ≤ cap ∧ (Instr.sliceBounds isS n cap lov hiv mxv).run P w = .ok (p, p + q, m) w := by
  unfold bounds3 at h
  split at h
  · cases mxv <;> simp only [RelO] at h3
    obtain ⟨g1, g2⟩ := bounds_ok (P := P) (w := w) h1 h2 h isS cap hn
    exact ⟨g1, cap, by omega, Nat.le_refl _, g2⟩
  · rename_i km mv
    cases mxv <;> simp only [RelO] at h3
    simp only [Rel, PV.val] at h3
    obtain ⟨_, rfl⟩ := h3
    split at h
    · rename_i kb bv
      cases hiv <;> simp only [RelO] at h2
      simp only [Rel, PV.val] at h2
      obtain ⟨_, rfl⟩ := h2
      split at h
      · rename_i c1
        have c1 := of_decide_eq_true c1
        split at h
        · rename_i c2
          have c2 := of_decide_eq_true c2
          unfold bounds at h
          split at h
          · rename_i h'; simp at h'
          · rename_i h'; simp at h'
          · rename_i kb' bv' _ hb'
            simp only [Option.some.injEq, AV.p.injEq, PV.i.injEq] at hb'
            obtain ⟨rfl, rfl⟩ := hb'
            cases lov <;> simp only [RelO] at h1
            split at h
            · rename_i c3
              have c3 := of_decide_eq_true c3
              split at h
              · rename_i c4
                have c4 := of_decide_eq_true c4
                cases h
                have d1 : 0 ≤ mv := by omega
                have d2 : mv ≤ (cap : Int) := by omega
                have d3 : bv ≤ (mv.toNat : Int) := by omega
                refine ⟨by omega, mv.toNat, by omega, by omega, ?_⟩
                simp only [Instr.sliceBounds, Sem.run_bind, Sem.run_pure, Result.andThen_ok, run_sliceBound w km mv cap _ d1 d2, run_sliceBound w kb bv mv.toNat _ c3 d3]
                simp
              · cases h
            · cases h
          · rename_i ka av kb' bv' hb'
            simp only [Option.some.injEq, AV.p.injEq, PV.i.injEq] at hb'
            obtain ⟨rfl, rfl⟩ := hb'
            cases lov <;> simp only [RelO] at h1
            simp only [Rel, PV.val] at h1
            obtain ⟨_, rfl⟩ := h1
            split at h
            · rename_i c3
              have c3 := of_decide_eq_true c3
              split at h
              · rename_i c4
                have c4 := of_decide_eq_true c4
                split at h
                · rename_i c5
                  have c5 := of_decide_eq_true c5
                  cases h
                  have d1 : 0 ≤ mv := by omega
                  have d2 : mv ≤ (cap : Int) := by omega
                  have d3 : bv ≤ (mv.toNat : Int) := by omega
                  have d4 : 0 ≤ bv := by omega
                  have d5 : av ≤ (bv.toNat : Int) := by omega
                  refine ⟨by omega, mv.toNat, by omega, by omega, ?_⟩
                  simp only [Instr.sliceBounds, Sem.run_bind, Sem.run_pure, Result.andThen_ok, run_sliceBound w km mv cap _ d1 d2, run_sliceBound w kb bv mv.toNat _ d4 d3, run_sliceBound w ka av bv.toNat _ c3 d5]
                  congr 2
                  simp
                  omega
                · cases h
              · cases h
            · cases h
          · cases h
        · cases h
      · cases h
    · cases h
  · cases h

theorem run_sliceAt_sl {t e n c p q m sz : Nat} {ao : Option Addr} {lov hiv mxv : Option Value} (h1 : P.underlying t = some (.slice e)) (h2 : (sizeOf e).run P w = .ok sz w)
    (h3 : (Instr.sliceBounds true n c lov hiv mxv).run P w = .ok (p, p + q, m) w) :
    (Instr.sliceAt t (.slice ao n c) lov hiv mxv).run P w = .ok (.slice (if m = p then ao else ao.map (·.add (p * sz))) q (m - p)) w := by
  simp only [Instr.sliceAt, Instr.slice, Sem.run_bind, run_underlying h1, Result.andThen_ok, h2, h3, Sem.run_pure]
  congr 2
  omega

theorem run_sliceAt_arr {t e n p q m sz : Nat} {ad : Addr} {lov hiv mxv : Option Value} (h1 : P.underlying t = some (.array n e)) (h2 : (sizeOf e).run P w = .ok sz w)
    (h3 : (Instr.sliceBounds false n n lov hiv mxv).run P w = .ok (p, p + q, m) w) :
    (Instr.sliceAt t (.pointer (some ad)) lov hiv mxv).run P w = .ok (.slice (some (if m = p then ad else ad.add (p * sz))) q (m - p)) w := by
  simp only [Instr.sliceAt, Instr.sureAddr, Sem.run_bind, run_underlying h1, Result.andThen_ok, h2, h3, Sem.run_pure]
  congr 2
  omega

theorem elemZero_ok (hX : X.ok P) {t : Nat} {z : AV} {d : TD} (h : elemZero X t = some (z, d)) : ∃ e, P.underlying t = some (.slice e) ∧ X.at e = some d ∧ d.zero = some z := by
  unfold elemZero at h
  split at h
  · rename_i e a b c z' hd
    split at h
    · rename_i k a' b' c' z0 hd'
      simp only [Option.some.injEq, Prod.mk.injEq] at h
      obtain ⟨rfl, rfl⟩ := h
      exact ⟨e, (hX t _ hd).kind, hd', rfl⟩
    · cases h
  · cases h

theorem sliceV_ok (hX : X.ok P) (hS : HSim W φ H w) (hL : SubH L H) {t : Nat} {x y : AV} {v : Value} {lo hi mx : Option AV} {lov hiv mxv : Option Value} (hr : Rel W φ H x v)
    (hlo : RelO W φ H lo lov) (hhi : RelO W φ H hi hiv) (hmx : RelO W φ H mx mxv) (h : sliceV X L t x lo hi mx = some y) :
    ∃ u, (Instr.sliceAt t v lov hiv mxv).run P w = .ok u w ∧ Rel W φ H y u := by
  unfold sliceV at h
  split at h
  · split at h
    · rename_i zd hz
      obtain ⟨e, he, hd, _⟩ := elemZero_ok hX (z := zd.1) (d := zd.2) hz
      have hsz := (hX e _ hd).sizeOf w
      split at h
      · rename_i pq hpq
        obtain ⟨p, q⟩ := pq
        cases h
        simp only [Rel] at hr
        subst hr
        obtain ⟨g1, m, g2, g3, g4⟩ := bounds3_ok (P := P) (w := w) hlo hhi hmx hpq true 0 (Nat.le_refl _)
        have hp : p = 0 := by omega
        have hq : q = 0 := by omega
        have hm : m = 0 := by omega
        subst hp hq hm
        refine ⟨_, run_sliceAt_sl he hsz g4, ?_⟩
        unfold Rel
        rfl
      · cases h
    · cases h
  · rename_i s l
    split at h
    · rename_i hb
      simp only [Bool.and_eq_true] at hb
      obtain ⟨e, he, _⟩ := isSlice_ok hX hb.1
      have hsz := elemOK_ok hX hb.2 (.inr he) w
      split at h
      · rename_i p q hpq
        cases h
        simp only [Rel] at hr
        obtain ⟨ao, c, rfl, hc, h1, h2, h3⟩ := hr
        obtain ⟨g1, m, g2, g3, g4⟩ := bounds3_ok (P := P) (w := w) hlo hhi hmx hpq true c hc
        refine ⟨_, run_sliceAt_sl he hsz g4, ?_⟩
        unfold Rel
        have hlen : ((l.drop p).take q).length = q := by simp; omega
        rw [hlen]
        refine ⟨_, _, rfl, by omega, okL_take (okL_drop h1 p) q, allSh_take (allSh_drop h2 p) q, ?_⟩
        rcases h3 with rfl | ⟨ad, rfl, h3⟩
        · exact .inl (by simp)
        · by_cases hm : m = p
          · left
            have : q = 0 := by omega
            subst this
            simp
          · right
            refine ⟨ad.add (p * s.size), by simp [hm], ?_⟩
            have h5 : PV.cellsL l = PV.cellsL (l.take p) ++ (PV.cellsL ((l.drop p).take q) ++ PV.cellsL ((l.drop p).drop q)) := by
              rw [← PV.cellsL_append, ← PV.cellsL_append, List.take_append_drop, List.take_append_drop]
            rw [h5] at h3
            have := h3.part
            rwa [PV.cellsL_arr _ s (okL_take h1 p) (allSh_take h2 p), List.length_take, Nat.min_eq_left (by omega)] at this
      · cases h
    · cases h
  · rename_i id off n
    split at h
    · rename_i rw_ s l hx0
      have hH := hL _ _ hx0
      split at h
      · rename_i hb
        simp only [Bool.and_eq_true] at hb
        obtain ⟨e, he, _⟩ := isSlice_ok hX hb.1
        have hsz := elemOK_ok hX hb.2 (.inr he) w
        split at h
        · rename_i p q hpq
          simp only [Rel, hH] at hr
          obtain ⟨hon, hr⟩ := hr
          split at hr
          · rename_i hφ
            obtain ⟨rfl, rfl⟩ := hr
            obtain ⟨g1, m, g2, g3, g4⟩ := bounds3_ok (P := P) (w := w) hlo hhi hmx hpq true 0 (Nat.le_refl _)
            have hp : p = 0 := by omega
            have hq : q = 0 := by omega
            have hm : m = 0 := by omega
            subst hp hq hm
            simp only [Option.some.injEq] at h
            subst h
            refine ⟨_, run_sliceAt_sl he hsz g4, ?_⟩
            simp only [Rel, hH, hφ]
            exact ⟨by omega, rfl, trivial⟩
          · rename_i b cap hφ
            obtain ⟨ad, c, rfl, r1, r2, r3⟩ := hr
            obtain ⟨g1, m, g2, g3, g4⟩ := bounds3_ok (P := P) (w := w) hlo hhi hmx hpq true c r2
            refine ⟨_, run_sliceAt_sl he hsz g4, ?_⟩
            cases p with
            | zero =>
              simp only [Option.some.injEq] at h
              subst h
              simp only [Rel, hH, hφ]
              refine ⟨by omega, ad, m, ?_, by omega, by omega, ?_⟩
              · by_cases hm : m = 0 <;> simp [hm, Addr.add]
              · rcases r3 with r3 | r3
                · exact .inl r3
                · exact .inr ⟨by omega, r3.2⟩
            | succ p =>
              simp only [Option.some.injEq] at h
              subst h
              simp only [Rel, hH, hφ]
              refine ⟨by omega, if m = p + 1 then ad else ad.add ((p + 1) * s.size), m - (p + 1), by (by_cases hm : m = p + 1 <;> simp [hm]), by omega, by omega, ?_⟩
              by_cases hm : m = p + 1
              · exact .inr ⟨by omega, by omega⟩
              · rw [if_neg hm]
                rcases r3 with rfl | ⟨rfl, _⟩
                · left
                  rw [AddrAdd, ← Nat.add_mul]
                · omega
        · cases h
      · cases h
    · cases h
  · rename_i id
    split at h
    · rename_i rw_ s l hx0
      have hH := hL _ _ hx0
      split at h
      · rename_i hb
        simp only [Bool.and_eq_true] at hb
        obtain ⟨e, he, _⟩ := isSlice_ok hX hb.1
        have hsz := elemOK_ok hX hb.2 (.inr he) w
        split at h
        · rename_i p q hpq
          cases h
          simp only [Rel, hH] at hr
          split at hr
          · rename_i hφ
            obtain ⟨rfl, rfl⟩ := hr
            obtain ⟨g1, m, g2, g3, g4⟩ := bounds3_ok (P := P) (w := w) hlo hhi hmx hpq true 0 (Nat.le_refl _)
            simp only [List.length_nil] at g1 hpq
            have hp : p = 0 := by omega
            have hq : q = 0 := by omega
            have hm : m = 0 := by omega
            subst hp hq hm
            refine ⟨_, run_sliceAt_sl he hsz g4, ?_⟩
            simp only [Rel, hH, hφ]
            exact ⟨by simp, rfl, trivial⟩
          · rename_i b cap hφ
            obtain ⟨c, rfl, r1, r2⟩ := hr
            obtain ⟨g1, m, g2, g3, g4⟩ := bounds3_ok (P := P) (w := w) hlo hhi hmx hpq true c r2
            refine ⟨_, run_sliceAt_sl he hsz g4, ?_⟩
            simp only [Rel, hH, hφ]
            refine ⟨by omega, if m = p then ⟨b, 0, none⟩ else (⟨b, 0, none⟩ : Addr).add (p * s.size), m - p, ?_, by omega, by omega, ?_⟩
            · by_cases hm : m = p <;> simp [hm]
            · by_cases hm : m = p
              · by_cases hp : p = 0
                · subst hp; left; simp [hm]
                · exact .inr ⟨by omega, hp⟩
              · left
                rw [if_neg hm, AddrAdd, Nat.zero_add]
        · cases h
      · cases h
    · cases h
  · rename_i id path
    split at h
    · rename_i x0 hx0
      have hH := hL _ _ hx0
      split at h
      · rename_i k s l hnav
        split at h
        · rename_i hb
          simp only [Bool.and_eq_true] at hb
          obtain ⟨e, he, _⟩ := isArr_ok hX hb.1
          have hsz := elemOK_ok hX hb.2 (.inl ⟨k, he⟩) w
          split at h
          · rename_i p q hpq
            cases h
            obtain ⟨hst, b, c, cs, T, vx, h1, h2, h3, h4⟩ := hS.blk _ _ hH
            obtain ⟨g1, g2, u, o, pre, post, g3, g4, g5, g6, _⟩ := navA_spec path x0 _ vx h3 hst hnav
            simp only [Rel, hH] at hr
            obtain ⟨b', cap, o', r1, r2, rfl⟩ := hr
            obtain ⟨k1, m, k2, k3, k4⟩ := bounds3_ok (P := P) (w := w) hlo hhi hmx hpq false k (Nat.le_refl _)
            refine ⟨_, run_sliceAt_arr he hsz k4, ?_⟩
            simp only [Rel, hH]
            have g2' : shS x0.sh path = some (.arr k s) := g2
            refine ⟨b', cap, o', k, s, _, _, r1, r2, g2', by omega, rfl, by omega, ?_⟩
            by_cases hm : m = p
            · exact .inr (by omega)
            · left
              rw [if_neg hm, AddrAdd]
          · cases h
        · cases h
      · cases h
    · cases h
  · rename_i k s l
    split at h
    · rename_i hb
      simp only [Bool.and_eq_true] at hb
      obtain ⟨e, he, _⟩ := isArr_ok hX hb.1
      have hsz := elemOK_ok hX hb.2 (.inl ⟨k, he⟩) w
      split at h
      · rename_i p q hpq
        cases h
        simp only [Rel] at hr
        obtain ⟨ad, u, rfl, ⟨r1, rfl⟩, r2, r3⟩ := hr
        simp only [PV.ok] at r1
        obtain ⟨q1, q2, q3⟩ := r1
        obtain ⟨k1, m, k2, k3, k4⟩ := bounds3_ok (P := P) (w := w) hlo hhi hmx hpq false k (Nat.le_refl _)
        refine ⟨_, run_sliceAt_arr he hsz k4, ?_⟩
        unfold Rel
        have hlen : ((l.drop p).take q).length = q := by simp; omega
        rw [hlen]
        refine ⟨_, _, rfl, by omega, okL_take (okL_drop q2 p) q, allSh_take (allSh_drop q3 p) q, ?_⟩
        by_cases hm : m = p
        · left
          have : q = 0 := by omega
          subst this
          simp
        · right
          refine ⟨_, rfl, ?_⟩
          rw [if_neg hm]
          rw [PV.cells_val_list] at r3
          simp only [PV.cells] at r3
          have h5 : PV.cellsL l = PV.cellsL (l.take p) ++ (PV.cellsL ((l.drop p).take q) ++ PV.cellsL ((l.drop p).drop q)) := by
            rw [← PV.cellsL_append, ← PV.cellsL_append, List.take_append_drop, List.take_append_drop]
          rw [h5] at r3
          have r4 := r3.part.later hS.below
          have r5 : RowAt W (ad.add (p * s.size)) (PV.cellsL ((l.drop p).take q)) := by
            have := r3.part
            rwa [PV.cellsL_arr _ s (okL_take q2 p) (allSh_take q3 p), List.length_take, Nat.min_eq_left (by omega)] at this
          exact r5
      · cases h
    · cases h
  · cases h

end Go.Proofs.YtipmkjfbdflneaaDoor.AM

namespace Go.Proofs.YtipmkjfbdflneaaDoor.AM
open Go Go.RowKit

variable {P : Program} {X : Ctx} {W : World} {φ : Phi} {H L : HeapF} {w : World} {ρ : Nat → AV} {a : Act}

/-- What a slice holds, in the memory as it stands. -/
theorem shut0_ok (hS : HSim W φ H w) (hL : SubH L H) {x y : AV} {v : Value} (hr : Rel W φ H x v) (h : shut0 L x = some y) :
    y.stays = true ∧ y.isAgg = x.isAgg ∧ ∀ φ0 H0, Rel w φ0 H0 y v := by
  unfold shut0 at h
  split at h
  · cases h
    refine ⟨rfl, rfl, fun φ0 H0 => ?_⟩
    simp only [Rel] at hr
    obtain ⟨h1, rfl⟩ := hr
    exact Rel.plain h1
  · cases h
    refine ⟨rfl, rfl, fun φ0 H0 => ?_⟩
    simp only [Rel] at hr
    subst hr
    unfold Rel
    exact ⟨none, 0, rfl, by simp, trivial, trivial, .inl rfl⟩
  · cases h
    refine ⟨rfl, rfl, fun φ0 H0 => ?_⟩
    simp only [Rel] at hr
    obtain ⟨ao, c, rfl, h0, h1, h2, h3⟩ := hr
    unfold Rel
    refine ⟨ao, c, rfl, h0, h1, h2, ?_⟩
    rcases h3 with h3 | ⟨ad, h3, h4⟩
    · exact .inl h3
    · exact .inr ⟨ad, h3, h4.later hS.below⟩
  · rename_i id
    split at h
    · rename_i rw_ s l hx0
      have hH := hL _ _ hx0
      cases h
      refine ⟨rfl, rfl, fun φ0 H0 => ?_⟩
      simp only [Rel, hH] at hr
      obtain ⟨h1, h2, h3⟩ := hS.blk _ _ hH
      unfold Rel
      split at hr
      · obtain ⟨rfl, rfl⟩ := hr
        exact ⟨none, 0, rfl, by simp, trivial, trivial, .inl rfl⟩
      · rename_i b cap hφ
        obtain ⟨c, rfl, r1, r2⟩ := hr
        rw [hφ] at h3
        obtain ⟨cs, T, fr, h4, h5, h6, h7, h8, h9⟩ := h3
        refine ⟨_, c, rfl, r2, h1, h2, .inr ⟨_, rfl, ?_⟩⟩
        have := els_at h4 h8 h1 h2 (off := 0) (n := l.length) (by omega)
        simpa using this
    · cases h
  · rename_i id off n
    split at h
    · rename_i rw_ s l hx0
      have hH := hL _ _ hx0
      cases h
      refine ⟨rfl, rfl, fun φ0 H0 => ?_⟩
      simp only [Rel, hH] at hr
      obtain ⟨hon, hr⟩ := hr
      obtain ⟨h1, h2, h3⟩ := hS.blk _ _ hH
      have hlen : ((l.drop off).take n).length = n := by simp; omega
      unfold Rel
      rw [hlen]
      split at hr
      · obtain ⟨rfl, rfl⟩ := hr
        exact ⟨none, 0, rfl, by simp, by simp [PV.okL], by simp [PV.allSh], .inl (by simp)⟩
      · rename_i b cap hφ
        obtain ⟨ad, c, rfl, r1, r2, r3⟩ := hr
        rw [hφ] at h3
        obtain ⟨cs, T, fr, h4, h5, h6, h7, h8, h9⟩ := h3
        refine ⟨_, c, rfl, r2, okL_take (okL_drop h1 off) n, allSh_take (allSh_drop h2 off) n, ?_⟩
        rcases r3 with rfl | ⟨rfl, _⟩
        · exact .inr ⟨_, rfl, els_at h4 h8 h1 h2 hon⟩
        · exact .inl (by simp)
    · cases h
  · rename_i id path off n
    split at h
    · rename_i x0 hx0
      have hH := hL _ _ hx0
      split at h
      · rename_i k s l hnav
        cases h
        refine ⟨rfl, rfl, fun φ0 H0 => ?_⟩
        obtain ⟨hst, b, c, cs, T, vx, h1, h2, h3, h4⟩ := hS.blk _ _ hH
        obtain ⟨g1, g2, u, o, pre, post, g3, g4, g5, g6, _⟩ := navA_spec path x0 _ vx h3 hst hnav
        simp only [Rel, PV.ok] at g3
        obtain ⟨⟨q1, q2, q3⟩, rfl⟩ := g3
        simp only [Rel, hH] at hr
        obtain ⟨b', cap, o', k', s', ad, c', r1, r2, r3, r4, rfl, r5, r6⟩ := hr
        have g2' : shS x0.sh path = some (.arr k s) := g2
        rw [g2'] at r3
        cases r3
        rw [h1] at r1
        cases r1
        rw [g4] at r2
        cases r2
        have hlen : ((l.drop off).take n).length = n := by simp; omega
        unfold Rel
        rw [hlen]
        refine ⟨_, c', rfl, r5, okL_take (okL_drop q2 off) n, allSh_take (allSh_drop q3 off) n, ?_⟩
        rcases r6 with rfl | rfl
        · right
          refine ⟨_, rfl, ?_⟩
          subst h4
          have hrow := RowAt.of_block h2 g6
          rw [PV.cells_val_list] at hrow
          simp only [PV.cells] at hrow
          have h5 : PV.cellsL l = PV.cellsL (l.take off) ++ (PV.cellsL ((l.drop off).take n) ++ PV.cellsL ((l.drop off).drop n)) := by
            rw [← PV.cellsL_append, ← PV.cellsL_append, List.take_append_drop, List.take_append_drop]
          rw [h5] at hrow
          have := hrow.part
          rw [PV.cellsL_arr _ s (okL_take q2 off) (allSh_take q3 off), List.length_take, Nat.min_eq_left (by omega), AddrAdd, g5] at this
          exact this
        · exact .inl (by simp)
      · cases h
    · cases h
  · cases h

theorem shut0L_ok (hS : HSim W φ H w) (hL : SubH L H) : ∀ {l m : List AV} {vs : List Value}, RelL W φ H l vs → shut0L L l = some m →
    m.length = l.length ∧ (∀ y ∈ m, y.stays = true) ∧ ((∀ x ∈ l, x.isAgg = false) → ∀ y ∈ m, y.isAgg = false) ∧ ∀ φ0 H0, RelL w φ0 H0 m vs
  | [], m, vs, hr, h => by
    simp only [shut0L, Option.some.injEq] at h
    subst h
    cases vs with
    | nil => exact ⟨rfl, by simp, by simp, fun _ _ => by simp [RelL]⟩
    | cons v vs => simp [RelL] at hr
  | x :: l, m, vs, hr, h => by
    simp only [shut0L] at h
    split at h
    · rename_i y hy
      split at h
      · rename_i m' hm
        cases h
        cases vs with
        | nil => simp [RelL] at hr
        | cons v vs =>
          simp only [RelL] at hr
          obtain ⟨g1, g2, g3⟩ := shut0_ok hS hL hr.1 hy
          obtain ⟨k1, k2, k3, k4⟩ := shut0L_ok hS hL hr.2 hm
          refine ⟨by simp [k1], ?_, ?_, fun φ0 H0 => ?_⟩
          · intro z hz
            rcases List.mem_cons.1 hz with rfl | hz
            · exact g1
            · exact k2 z hz
          · intro hx z hz
            rcases List.mem_cons.1 hz with rfl | hz
            · rw [g2]; exact hx x (by simp)
            · exact k3 (fun a ha => hx a (by simp [ha])) z hz
          · simp only [RelL]
            exact ⟨g3 φ0 H0, k4 φ0 H0⟩
      · cases h
    · cases h

theorem shut1_ok (hS : HSim W φ H w) (hL : SubH L H) {x y : AV} {v : Value} (hr : Rel W φ H x v) (h : shut1 L x = some y) :
    y.stays = true ∧ y.isAgg = x.isAgg ∧ ∀ φ0 H0, Rel w φ0 H0 y v := by
  unfold shut1 at h
  split at h
  · rename_i l
    split at h
    · rename_i m hm
      cases h
      simp only [Rel] at hr
      obtain ⟨ao, c, vs, rfl, h1, h2, h3⟩ := hr
      obtain ⟨k1, k2, k3, k4⟩ := shut0L_ok hS hL h1 hm
      refine ⟨rfl, rfl, fun φ0 H0 => ?_⟩
      unfold Rel
      refine ⟨ao, c, vs, by rw [k1], k4 φ0 H0, fun z hz => ⟨k3 (fun a ha => (h2 a ha).1) z hz, k2 z hz⟩, ?_⟩
      rcases h3 with rfl | ⟨ad, rfl, h3⟩
      · left
        exact List.eq_nil_of_length_eq_zero (by rw [k1]; rfl)
      · exact .inr ⟨ad, rfl, h3.later hS.below⟩
    · cases h
  · rename_i id
    split at h
    · rename_i rw_ s l hx0
      exact shut0_ok hS hL hr (by simp only [shut0, hx0]; exact h)
    · rename_i l hx0
      have hH := hL _ _ hx0
      split at h
      · rename_i m hm
        cases h
        simp only [Rel, hH] at hr
        obtain ⟨b, cap, cs, T, fr, vs, h1, h2, h3, h4, h5⟩ := hS.blk _ _ hH
        rw [h1] at hr
        obtain ⟨c, rfl, _⟩ := hr
        obtain ⟨k1, k2, k3, k4⟩ := shut0L_ok hS hL h3 hm
        refine ⟨rfl, rfl, fun φ0 H0 => ?_⟩
        unfold Rel
        refine ⟨_, c, vs, by rw [k1], k4 φ0 H0, fun z hz => ⟨k3 (fun a ha => (h4 a ha).1) z hz, k2 z hz⟩, .inr ⟨_, rfl, ?_⟩⟩
        have hrow := rowOfBlock h2
        intro j c hj
        refine hrow j c ?_
        rw [← h5, List.getElem?_take] at hj
        split at hj
        · exact hj
        · cases hj
      · cases h
    · cases h
  · rename_i x0
    split at h
    · rename_i z hz
      cases h
      simp only [Rel] at hr
      obtain ⟨ad, u, rfl, r1, r2, r3⟩ := hr
      obtain ⟨g1, g2, g3⟩ := shut0_ok hS hL r1 hz
      refine ⟨rfl, rfl, fun φ0 H0 => ?_⟩
      unfold Rel
      exact ⟨ad, u, rfl, g3 φ0 H0, g1, r3.later hS.below⟩
    · cases h
  · rename_i id path
    split at h
    · rename_i x0 hx0
      have hH := hL _ _ hx0
      split at h
      · rename_i y0 hnav
        split at h
        · rename_i z hz
          cases h
          obtain ⟨hst, b, c, cs, T, vx, h1, h2, h3, h4⟩ := hS.blk _ _ hH
          obtain ⟨g1, g2, u, o, pre, post, g3, g4, g5, g6, _⟩ := navA_spec path x0 _ vx h3 hst hnav
          obtain ⟨k1, k2, k3⟩ := shut0_ok hS hL g3 hz
          simp only [Rel, hH] at hr
          obtain ⟨b', cap, o', r1, r2, rfl⟩ := hr
          rw [h1] at r1
          cases r1
          rw [g4] at r2
          cases r2
          refine ⟨rfl, rfl, fun φ0 H0 => ?_⟩
          unfold Rel
          subst h4 g5
          exact ⟨_, u, rfl, k3 φ0 H0, k1, RowAt.of_block h2 g6⟩
        · cases h
      · cases h
    · cases h
  · exact shut0_ok hS hL hr h

theorem shutL_ok (hS : HSim W φ H w) (hL : SubH L H) : ∀ {l m : List AV} {vs : List Value}, RelL W φ H l vs → shutL L l = some m →
    (∀ y ∈ m, y.stays = true) ∧ ∀ φ0 H0, RelL w φ0 H0 m vs
  | [], m, vs, hr, h => by
    simp only [shutL, Option.some.injEq] at h
    subst h
    cases vs with
    | nil => exact ⟨by simp, fun _ _ => by simp [RelL]⟩
    | cons v vs => simp [RelL] at hr
  | x :: l, m, vs, hr, h => by
    simp only [shutL] at h
    split at h
    · rename_i y hy
      split at h
      · rename_i m' hm
        cases h
        cases vs with
        | nil => simp [RelL] at hr
        | cons v vs =>
          simp only [RelL] at hr
          obtain ⟨g1, g2, g3⟩ := shut1_ok hS hL hr.1 hy
          obtain ⟨k2, k4⟩ := shutL_ok hS hL hr.2 hm
          refine ⟨?_, fun φ0 H0 => ?_⟩
          · intro z hz
            rcases List.mem_cons.1 hz with rfl | hz
            · exact g1
            · exact k2 z hz
          · simp only [RelL]
            exact ⟨g3 φ0 H0, k4 φ0 H0⟩
      · cases h
    · cases h

theorem shut_ok (hS : HSim W φ H w) (hL : SubH L H) {x y : AV} {v : Value} (hr : Rel W φ H x v) (h : shut L x = some y) : ∀ φ0 H0, Rel w φ0 H0 y v := by
  unfold shut at h
  split at h
  · rename_i l
    split at h
    · rename_i m hm
      cases h
      simp only [Rel] at hr
      obtain ⟨vs, h1, h2, rfl⟩ := hr
      obtain ⟨k2, k4⟩ := shutL_ok hS hL h1 hm
      intro φ0 H0
      unfold Rel
      exact ⟨vs, k4 φ0 H0, k2, rfl⟩
    · cases h
  · rename_i f l
    split at h
    · rename_i m hm
      cases h
      simp only [Rel] at hr
      obtain ⟨cs, rfl, h1⟩ := hr
      obtain ⟨k2, k4⟩ := shutL_ok hS hL h1 hm
      intro φ0 H0
      unfold Rel
      exact ⟨cs, rfl, k4 φ0 H0⟩
    · cases h
  · exact (shut1_ok hS hL hr h).2.2

theorem shutAll_ok (hS : HSim W φ H w) (hL : SubH L H) : ∀ {l m : List AV} {vs : List Value}, RelL W φ H l vs → shutAll L l = some m → ∀ φ0 H0, RelL w φ0 H0 m vs
  | [], m, vs, hr, h => by
    simp only [shutAll, Option.some.injEq] at h
    subst h
    cases vs with
    | nil => exact fun _ _ => by simp [RelL]
    | cons v vs => simp [RelL] at hr
  | x :: l, m, vs, hr, h => by
    simp only [shutAll] at h
    split at h
    · rename_i y hy
      split at h
      · rename_i m' hm
        cases h
        cases vs with
        | nil => simp [RelL] at hr
        | cons v vs =>
          simp only [RelL] at hr
          intro φ0 H0
          simp only [RelL]
          exact ⟨shut_ok hS hL hr.1 hy φ0 H0, shutAll_ok hS hL hr.2 hm φ0 H0⟩
      · cases h
    · cases h

end Go.Proofs.YtipmkjfbdflneaaDoor.AM

namespace Go.Proofs.YtipmkjfbdflneaaDoor.AM
open Go Go.RowKit

variable {P : Program} {X : Ctx} {W : World} {φ : Phi} {H L : HeapF} {w : World} {ρ : Nat → AV} {a : Act}

/-- A slice's block goes on under another name; what it holds may be written. -/
theorem HSim.move {w' : World} {o id : Nat} {blk blk' : Blk} {b c c' : Nat} (h : HSim W φ H w) (ho : H o = some blk) (hd : blk ≠ .dead) (hle : BlkLe blk .dead) (hφ : φ o = some (b, c)) (hn : H id = none)
    (hos : w'.os = w.os) (htape : w'.tape = w.tape) (hout : w'.output = w.output) (hsz : w'.heap.size = w.heap.size) (hoth : ∀ k, k ≠ b → w'.heap[k]? = w.heap[k]?)
    (hok : BlkOK W (upd φ id (some (b, c'))) (upd (upd H o (some .dead)) id (some blk')) w' id blk') :
    HSim W (upd φ id (some (b, c'))) (upd (upd H o (some .dead)) id (some blk')) w' ∧ HExt φ H (upd φ id (some (b, c'))) (upd (upd H o (some .dead)) id (some blk')) := by
  have hoi : o ≠ id := fun e => by rw [e, hn] at ho; cases ho
  have he : HExt φ H (upd φ id (some (b, c'))) (upd (upd H o (some .dead)) id (some blk')) := fun i x hx => by
    have hne : i ≠ id := fun e => by rw [e, hn] at hx; cases hx
    refine ⟨upd_ne _ _ hne, ?_⟩
    rw [upd_ne _ _ hne]
    by_cases hi' : i = o
    · subst hi'
      rw [ho] at hx
      cases hx
      exact ⟨.dead, upd_same _ _ _, hle⟩
    · exact ⟨x, (upd_ne _ _ hi').trans hx, BlkLe.refl x⟩
  have hgeb := h.ge o blk b c ho hφ
  have old : ∀ i x, i ≠ id → upd (upd H o (some .dead)) id (some blk') i = some x → x ≠ .dead → H i = some x ∧ i ≠ o := fun i x hne hx dx => by
    rw [upd_ne _ _ hne] at hx
    by_cases hi' : i = o
    · subst hi'; rw [upd_same] at hx; cases hx; exact absurd rfl dx
    · rw [upd_ne _ _ hi'] at hx; exact ⟨hx, hi'⟩
  refine ⟨⟨h.below.trans ⟨hos, htape, hout, Nat.le_of_eq hsz.symm, fun k hk => hoth k (by omega)⟩, fun i x hx => ?_, fun i x b' c1 hx hφ' => ?_, fun i j x y b' c1 c2 hx hy dx dy hij h1 h2 => ?_⟩, he⟩
  · by_cases hi' : i = id
    · subst hi'
      rw [upd_same] at hx
      cases hx
      exact hok
    · by_cases hd' : x = .dead
      · subst hd'; trivial
      · obtain ⟨g1, g2⟩ := old i x hi' hx hd'
        refine (h.blk i x g1).keep he (upd_ne _ _ hi') (fun dx b' c1 hφ' => hoth b' (fun e => ?_))
        subst e
        exact h.dis i o x blk b' c1 c g1 ho dx hd g2 hφ' hφ
  · by_cases hi' : i = id
    · subst hi'
      rw [upd_same] at hφ'
      cases hφ'
      exact hgeb
    · rw [upd_ne _ _ hi'] at hx hφ'
      by_cases hi2 : i = o
      · subst hi2
        exact h.ge i blk b' c1 ho hφ'
      · rw [upd_ne _ _ hi2] at hx
        exact h.ge i x b' c1 hx hφ'
  · by_cases hi' : i = id
    · have hj' : j ≠ id := fun e => hij (hi'.trans e.symm)
      obtain ⟨g1, g2⟩ := old j y hj' hy dy
      rw [upd_ne _ _ hj'] at h2
      rw [hi', upd_same] at h1
      cases h1
      exact h.dis j o y blk _ _ _ g1 ho dy hd g2 h2 hφ
    · obtain ⟨g1, g2⟩ := old i x hi' hx dx
      rw [upd_ne _ _ hi'] at h1
      by_cases hj' : j = id
      · rw [hj', upd_same] at h2
        cases h2
        exact h.dis i o x blk _ _ _ g1 ho dx hd g2 h1 hφ
      · obtain ⟨g3, g4⟩ := old j y hj' hy dy
        rw [upd_ne _ _ hj'] at h2
        exact h.dis i j x y b' c1 c2 g1 g3 dx dy hij h1 h2

theorem run_append_zero {t u e eu : TypeId} {i : TypeInfo} (ht : P.underlying t = some (.slice e)) (hu : P.underlying u = some (.slice eu)) (hi : P.info? e = some i) (ty : TypeId) (ao so : Option Addr) (n c sc : Nat) (hn : n ≤ c) :
    (Builtin.append_ #[t, u] ty #[.slice ao n c, .slice so 0 sc]).run P w = .ok (.slice ao n c) w := by
  cases so <;> cases ao <;> simp [Builtin.append_, run_underlying ht, run_underlying hu, sizeOf, typeInfo, hi, Builtin.lenOf, hn, Builtin.firstCells, loadCells, loadCellsFrom, storeCells]

theorem run_append_types {t u e eu : TypeId} (ht : P.underlying t = some (.slice e)) (hu : P.underlying u = some (.slice eu)) (ty : TypeId) (ao : Option Addr) (n c : Nat) (x : Value) :
    (Builtin.append_ #[t, u] ty #[.slice ao n c, x]).run P w = (Builtin.append_ #[t, t] ty #[.slice ao n c, x]).run P w := by
  unfold Builtin.append_
  simp only [List.getElem?_toArray, List.getElem?_cons_zero, List.getElem?_cons_succ, Sem.run_bind, run_underlying ht, run_underlying hu, Result.andThen_ok, Sem.run_pure]

/-- A slice that is appended to, and what is appended. -/
theorem append_core (hS : HSim W φ H w) {t u e eu : TypeId} {i : TypeInfo} {zv : Value} (ht : P.underlying t = some (.slice e)) (hu : P.underlying u = some (.slice eu)) (hi : P.info? e = some i) (hz : i.zero = some zv)
    (hzs : zv.cells.size = i.size) {o id n c : Nat} {s : Sh} {l m : List PV} {ao so : Option Addr} {sc : Nat} (ho : H o = some (.els true s l)) (hn : n ≤ l.length) (hid : H id = none)
    (hs : i.size = s.size) (hb : 1 ≤ i.bytes) (hbytes : (n + m.length) * i.bytes ≤ 140737488351232)
    (hdst : match φ o with
      | none => ao = none ∧ n = 0 ∧ c = 0 ∧ l = []
      | some (b, cap) => ao = some ⟨b, 0, none⟩ ∧ n ≤ c ∧ c ≤ cap)
    (hm1 : PV.okL m) (hm2 : PV.allSh s m) (hsrc : m = [] ∨ ∃ ad, so = some ad ∧ RowAt w ad (PV.cellsL m)) (ty : TypeId) :
    ∃ v' w' φ', (Builtin.append_ #[t, u] ty #[.slice ao n c, .slice so m.length sc]).run P w = .ok v' w' ∧
      HSim W φ' (upd (upd H o (some .dead)) id (some (.els true s (l.take n ++ m)))) w' ∧ HExt φ H φ' (upd (upd H o (some .dead)) id (some (.els true s (l.take n ++ m)))) ∧
      Rel W φ' (upd (upd H o (some .dead)) id (some (.els true s (l.take n ++ m)))) (.own id) v' := by
  have hoi : id ≠ o := fun e => by rw [e, ho] at hid; cases hid
  obtain ⟨h1, h2, h3⟩ := hS.blk _ _ ho
  have hlen : (l.take n ++ m).length = n + m.length := by rw [List.length_append, List.length_take, Nat.min_eq_left hn]
  have hok : PV.okL (l.take n ++ m) := (PV.okL_append _ _).2 ⟨okL_take h1 n, hm1⟩
  have hall : PV.allSh s (l.take n ++ m) := (PV.allSh_append _ _ _).2 ⟨allSh_take h2 n, hm2⟩
  have hmul : n + m.length ≤ (n + m.length) * i.bytes := Nat.le_mul_of_pos_right _ hb
  have hbig : n + m.length ≤ maxLen := by unfold maxLen; omega
  have hnl : (PV.cellsL (l.take n)).length = n * s.size := by rw [PV.cellsL_arr _ s (okL_take h1 n) (allSh_take h2 n), List.length_take, Nat.min_eq_left hn]
  have hml : (PV.cellsL m).length = m.length * i.size := by rw [PV.cellsL_arr _ s hm1 hm2, hs]
  have hself : upd (upd H o (some .dead)) id (some (Blk.els true s (l.take n ++ m))) id = some (.els true s (l.take n ++ m)) := upd_same _ _ _
  -- a block of its own, made new
  have fresh : ∀ (w1 : World) (cap : Nat) (cs : Array Value), w1.heap = w.heap → w1.os = w.os → w1.tape = w.tape → w1.output = w.output → n + m.length ≤ cap → cap ≤ maxLen → cap * s.size ≤ cs.size → cs.toList.take (PV.cellsL (l.take n ++ m)).length = PV.cellsL (l.take n ++ m) →
      HSim W (upd φ id (some (w.heap.size, cap))) (upd (upd H o (some .dead)) id (some (.els true s (l.take n ++ m)))) (w1.alloc (.cells cs e)) ∧
      HExt φ H (upd φ id (some (w.heap.size, cap))) (upd (upd H o (some .dead)) id (some (.els true s (l.take n ++ m)))) := by
    intro w1 cap cs hw1 e1 e2 e3 hcap hcap2 hcs htk
    obtain ⟨k1, k2⟩ := hS.kill ho (by simp [BlkLe])
    have hbel : Below w.heap.size w (w1.alloc (.cells cs e)) := by
      have : Below w.heap.size w w1 := ⟨e1, e2, e3, by rw [hw1]; exact Nat.le_refl _, fun k _ => by rw [hw1]⟩
      exact this.alloc (by rw [hw1]; exact Nat.le_refl _) _
    obtain ⟨g1, g2⟩ := k1.add (w' := w1.alloc (.cells cs e)) (id := id) (blk := .els true s (l.take n ++ m)) (pc := some (w.heap.size, cap)) hbel (by rw [upd_ne _ _ hoi]; exact hid)
      ⟨hok, hall, by
        rw [upd_same]
        refine ⟨cs, e, (0, 0), ?_, hcs, by rw [hlen]; exact hcap, hcap2, htk, fun _ => rfl⟩
        have := heap_alloc_new w1 (.cells cs e)
        rw [hw1] at this
        exact this⟩ (fun b c h => by cases h; exact Nat.le_refl _)
    exact ⟨g1, k2.trans g2⟩
  rw [run_append_types ht hu]
  by_cases hm0 : m = []
  · subst hm0
    simp only [List.length_nil, List.append_nil]
    cases hφ : φ o with
    | none =>
      rw [hφ] at hdst
      obtain ⟨rfl, rfl, rfl, rfl⟩ := hdst
      refine ⟨_, w, upd φ id none, run_append_zero ht ht hi ty _ _ 0 0 sc (Nat.le_refl _), ?_⟩
      obtain ⟨k1, k2⟩ := hS.kill ho (by simp [BlkLe])
      obtain ⟨g1, g2⟩ := k1.add (w' := w) (id := id) (blk := .els true s (([] : List PV).take 0)) (pc := none) (Below.refl _ _) (by rw [upd_ne _ _ hoi]; exact hid)
        ⟨trivial, trivial, by rw [upd_same]; rfl⟩ (fun b c h => by cases h)
      refine ⟨g1, k2.trans g2, ?_⟩
      simp only [Rel, upd_same]
      exact ⟨trivial, rfl⟩
    | some p =>
      obtain ⟨b, cap⟩ := p
      rw [hφ] at hdst h3
      obtain ⟨rfl, hnc, hcc⟩ := hdst
      obtain ⟨cs, T, fr, h4, h5, h6, h7, h8, h9⟩ := h3
      have hfr := h9 rfl
      subst hfr
      refine ⟨_, w, upd φ id (some (b, cap)), run_append_zero ht ht hi ty _ _ n c sc hnc, ?_⟩
      obtain ⟨g1, g2⟩ := hS.move (w' := w) (id := id) (blk' := .els true s (l.take n)) (c' := cap) ho (by simp) (by simp [BlkLe]) hφ hid rfl rfl rfl rfl (fun _ _ => rfl)
        ⟨okL_take h1 n, allSh_take h2 n, by
          rw [upd_same]
          refine ⟨cs, T, (0, 0), h4, h5, by rw [List.length_take]; omega, h7, ?_, fun _ => rfl⟩
          have h10 : PV.cellsL l = PV.cellsL (l.take n) ++ PV.cellsL (l.drop n) := by rw [← PV.cellsL_append, List.take_append_drop]
          have h11 : cs.toList.take (PV.cellsL (l.take n)).length = ((cs.toList.take (PV.cellsL l).length)).take (PV.cellsL (l.take n)).length := by
            rw [List.take_take, Nat.min_eq_left (by rw [h10, List.length_append]; omega)]
          rw [h11, h8, h10, List.take_left' rfl]⟩
      refine ⟨g1, g2, ?_⟩
      simp only [Rel, upd_same]
      refine ⟨c, ?_, hcc, by rw [List.length_take]; omega⟩
      rw [List.length_take, Nat.min_eq_left hn]
  · have hmpos : 0 < m.length := List.length_pos_iff.2 hm0
    obtain ⟨sa, rfl, hrow⟩ := hsrc.resolve_left hm0
    cases hφ : φ o with
    | none =>
      rw [hφ] at hdst
      obtain ⟨rfl, rfl, rfl, rfl⟩ := hdst
      have hrun := run_append_nil (P := P) w t ty e i zv ht hi hz sa m.length sc (PV.cellsL m) hml hrow hmpos (by unfold maxLen at hbig; omega) (by rw [Nat.zero_add] at hbytes; omega)
      have hge := grownCap_ge w m.length 0 e
      have hle := grownCap_le_maxLen w m.length 0 e (by omega)
      obtain ⟨g1, g2⟩ := fresh w.drew (grownCap w m.length 0 e) ((PV.cellsL m).toArray ++ Builtin.zeroCells zv.cells (grownCap w m.length 0 e - m.length)) rfl rfl rfl rfl (by omega) hle
        (by simp only [Array.size_append, List.size_toArray, size_zeroCells, hzs, hml, hs, ← Nat.add_mul]; rw [show m.length + (grownCap w m.length 0 e - m.length) = grownCap w m.length 0 e from by omega]; exact Nat.le_refl _)
        (by simp only [List.take_nil, List.nil_append, Array.toList_append]; exact List.take_left' rfl)
      refine ⟨_, _, _, hrun, g1, g2, ?_⟩
      simp only [Rel, upd_same]
      exact ⟨_, by rw [hlen, Nat.zero_add], Nat.le_refl _, by rw [hlen]; omega⟩
    | some p =>
      obtain ⟨b, cap⟩ := p
      rw [hφ] at hdst h3
      obtain ⟨rfl, hnc, hcc⟩ := hdst
      obtain ⟨cs, T, fr, h4, h5, h6, h7, h8, h9⟩ := h3
      have hfr := h9 rfl
      subst hfr
      have h10 : PV.cellsL l = PV.cellsL (l.take n) ++ PV.cellsL (l.drop n) := by rw [← PV.cellsL_append, List.take_append_drop]
      have h11 : cs.toList.take (n * i.size) = PV.cellsL (l.take n) := by
        have h12 : cs.toList.take (PV.cellsL (l.take n)).length = ((cs.toList.take (PV.cellsL l).length)).take (PV.cellsL (l.take n)).length := by
          rw [List.take_take, Nat.min_eq_left (by rw [h10, List.length_append]; omega)]
        rw [hs, ← hnl, h12, h8, h10, List.take_left' rfl]
      have hcsz : c * s.size ≤ cs.size := Nat.le_trans (Nat.mul_le_mul_right _ hcc) h5
      by_cases hroom : n + m.length ≤ c
      · have hfit : n * i.size + (PV.cellsL m).length ≤ cs.size := by
          rw [hml, ← Nat.add_mul, hs]
          exact Nat.le_trans (Nat.mul_le_mul_right _ hroom) hcsz
        have hfit2 : n * i.size ≤ cs.size := by omega
        have hT : ∀ E, (Builtin.append_ #[t, t] ty #[.slice (some ⟨b, 0, none⟩) n c, .slice (some sa) m.length sc]).run P w = E ↔
            (Builtin.append_ #[t, t] ty #[.slice (some ⟨b, 0, none⟩) n c, .slice (some sa) m.length sc]).run P w = E := fun _ => Iff.rfl
        have hf := run_firstCells_some (P := P) w i.size m.length sa m.length sc (PV.cellsL m) hml hrow
        have hst := run_storeCells_at P b (n * i.size) T (PV.cellsL m) 0 cs w h4 (by simpa using hfit) (fun c hc => PV.cellsL_oneCell m c hc)
        simp only [Nat.add_zero] at hst
        have hrun : (Builtin.append_ #[t, t] ty #[.slice (some ⟨b, 0, none⟩) n c, .slice (some sa) m.length sc]).run P w =
            .ok (.slice (some ⟨b, 0, none⟩) (n + m.length) c) (w.setRow b (cs.toList.take (n * i.size) ++ PV.cellsL m ++ cs.toList.drop (n * i.size + (PV.cellsL m).length)).toArray) := by
          simp [Builtin.append_, run_underlying ht, sizeOf, typeInfo, hi, Builtin.lenOf, hroom, hf, Addr.add_lit, hst]
        refine ⟨_, _, upd φ id (some (b, cap)), hrun, ?_⟩
        have hcsl : (cs.toList.take (n * i.size) ++ PV.cellsL m ++ cs.toList.drop (n * i.size + (PV.cellsL m).length)).length = cs.size := by
          simp only [List.length_append, List.length_take, List.length_drop, Array.length_toList]
          omega
        obtain ⟨g1, g2⟩ := hS.move (w' := w.setRow b (cs.toList.take (n * i.size) ++ PV.cellsL m ++ cs.toList.drop (n * i.size + (PV.cellsL m).length)).toArray) (id := id) (blk' := .els true s (l.take n ++ m)) (c' := cap)
          ho (by simp) (by simp [BlkLe]) hφ hid rfl rfl rfl (by simp) (fun k hk => setRow_other w b k _ hk)
          ⟨hok, hall, by
            rw [upd_same]
            refine ⟨_, T, (0, 0), setRow_heap w b _ _ T _ h4, by simp only [List.size_toArray]; rw [hcsl]; exact h5, by rw [hlen]; omega, h7, ?_, fun _ => rfl⟩
            rw [h11, PV.cellsL_append]
            exact List.take_left' rfl⟩
        refine ⟨g1, g2, ?_⟩
        simp only [Rel, upd_same]
        exact ⟨c, by rw [hlen], hcc, by rw [hlen]; exact hroom⟩
      · have holds : RowAt w ⟨b, 0, none⟩ (PV.cellsL (l.take n)) := by
          have := els_at h4 h8 h1 h2 (off := 0) (n := n) (by omega)
          simpa using this
        have hrun := run_append_grow (P := P) w t ty e i zv ht hi hz ⟨b, 0, none⟩ n c (PV.cellsL (l.take n)) (by rw [hnl, hs]) holds sa m.length sc (PV.cellsL m) hml hrow (by omega) (by unfold maxLen at hbig; omega)
          (growslice_fits (by omega) (by omega))
        have hge := grownCap_ge w (n + m.length) c e
        have hle := grownCap_le_maxLen w (n + m.length) c e hbig
        obtain ⟨g1, g2⟩ := fresh w.drew (grownCap w (n + m.length) c e) ((PV.cellsL (l.take n)).toArray ++ (PV.cellsL m).toArray ++ Builtin.zeroCells zv.cells (grownCap w (n + m.length) c e - (n + m.length))) rfl rfl rfl rfl hge hle
          (by simp only [Array.size_append, List.size_toArray, size_zeroCells, hzs, hml, hs, hnl, ← Nat.add_mul]; rw [show n + m.length + (grownCap w (n + m.length) c e - (n + m.length)) = grownCap w (n + m.length) c e from by omega]; exact Nat.le_refl _)
          (by simp only [Array.toList_append, PV.cellsL_append]; exact List.take_left' rfl)
        refine ⟨_, _, _, hrun, g1, g2, ?_⟩
        simp only [Rel, upd_same]
        exact ⟨_, by rw [hlen], Nat.le_refl _, by rw [hlen]; omega⟩

end Go.Proofs.YtipmkjfbdflneaaDoor.AM

namespace Go.Proofs.YtipmkjfbdflneaaDoor.AM
open Go Go.RowKit

variable {P : Program} {X : Ctx} {W : World} {φ : Phi} {H L : HeapF} {w : World} {ρ : Nat → AV} {a : Act}

theorem kind_slice (hX : X.ok P) {u e b c : Nat} {g : Bool} {z : Option AV} (h : X.at u = some ⟨.slice e, b, c, g, z⟩) : P.underlying u = some (.slice e) := (hX u _ h).kind

theorem fits_size {d : TD} {x : AV} (h : fits d x = true) : x.sh.size = d.size := by
  simp only [fits, Bool.and_eq_true] at h
  exact Nat.eq_of_beq_eq_true h.2

theorem appendV_ok (hX : X.ok P) (hS : HSim W φ H w) (hL : SubH L H) {id t u : Nat} (hfr : L id = none → H id = none) {x y v : AV} {xv yv : Value} {d : Delta} (hx : Rel W φ H x xv) (hy : Rel W φ H y yv)
    (h : appendV X L id t u x y = some (v, d)) (ty : TypeId) :
    ∃ v' w' φ', (Builtin.append_ #[t, u] ty #[xv, yv]).run P w = .ok v' w' ∧ HSim W φ' (addF d H) w' ∧ HExt φ H φ' (addF d H) ∧ Rel W φ' (addF d H) v v' := by
  unfold appendV at h
  split at h
  · cases h
  · rename_i hLid
    have hid := hfr hLid
    split at h
    · rename_i z td hz
      obtain ⟨e, he, hd, hzero⟩ := elemZero_ok hX hz
      obtain ⟨i, i1, i2, i3, i4⟩ := (hX e td hd).info
      obtain ⟨zs1, zs2, zv, zs3, zs4⟩ := i4 z hzero
      have hzsz : zv.cells.size = i.size := by rw [Rel.size z zv (zs4 W φ H) zs1, zs2, i2]
      split at h
      · rename_i s m hsrc
        unfold srcV at hsrc
        split at hsrc
        · rename_i eu b c g zz hu
          have hu' := kind_slice hX hu
          split at hsrc
          · rename_i s' m' hsh
            simp only [Option.some.injEq, Prod.mk.injEq] at hsrc
            obtain ⟨rfl, rfl⟩ := hsrc
            have hsrc := (shut1_ok hS hL hy hsh).2.2 φ H
            simp only [Rel] at hsrc
            obtain ⟨so, sc, rfl, _, hm1, hm2, hm3⟩ := hsrc
            split at h
            · rename_i hb
              simp only [Bool.and_eq_true] at hb
              have hb1 : td.size = s'.size := Nat.eq_of_beq_eq_true hb.1
              have hb2 : 1 ≤ td.bytes := Nat.le_of_ble_eq_true hb.2
              rw [← i2] at hb1
              rw [← i3] at hb2
              split at h
              · split at h
                · rename_i hbytes
                  have hbytes := of_decide_eq_true hbytes
                  rw [← i3] at hbytes
                  cases h
                  simp only [Rel] at hx
                  subst hx
                  rw [run_append_types he hu']
                  simp only [addF]
                  have hmul : m'.length ≤ m'.length * i.bytes := Nat.le_mul_of_pos_right _ hb2
                  have hml : (PV.cellsL m').length = m'.length * i.size := by rw [PV.cellsL_arr _ s' hm1 hm2, hb1]
                  by_cases hm0 : m' = []
                  · subst hm0
                    refine ⟨_, w, upd φ id none, run_append_zero he he i1 ty _ _ 0 0 sc (Nat.le_refl _), ?_⟩
                    obtain ⟨g1, g2⟩ := hS.add (w' := w) (id := id) (blk := .els true s' []) (pc := none) (Below.refl _ _) hid ⟨trivial, trivial, by rw [upd_same]⟩ (fun b c h => by cases h)
                    refine ⟨g1, g2, ?_⟩
                    simp only [Rel, upd_same]
                    trivial
                  · have hmpos : 0 < m'.length := List.length_pos_iff.2 hm0
                    obtain ⟨sa, rfl, hrow⟩ := hm3.resolve_left hm0
                    have hrow : RowAt w sa (PV.cellsL m') := by
                      have h0 := (shut1_ok hS hL hy hsh).2.2 φ H
                      simp only [Rel] at h0
                      obtain ⟨so', sc', heq, _, _, _, h3⟩ := h0
                      cases heq
                      obtain ⟨ad, had, hr⟩ := h3.resolve_left hm0
                      cases had
                      exact hr
                    have hrun := run_append_nil (P := P) w t ty e i zv he i1 zs3 sa m'.length sc (PV.cellsL m') hml hrow hmpos (by omega) (by omega)
                    have hge := grownCap_ge w m'.length 0 e
                    have hle := grownCap_le_maxLen w m'.length 0 e (by unfold maxLen; omega)
                    refine ⟨_, _, upd φ id (some (w.heap.size, grownCap w m'.length 0 e)), hrun, ?_⟩
                    have hbel : Below w.heap.size w (w.drew.alloc (.cells ((PV.cellsL m').toArray ++ Builtin.zeroCells zv.cells (grownCap w m'.length 0 e - m'.length)) e)) :=
                      ((Below.refl w.heap.size w).drew).alloc (Nat.le_refl _) _
                    obtain ⟨g1, g2⟩ := hS.add (id := id) (blk := .els true s' m') (pc := some (w.heap.size, grownCap w m'.length 0 e)) hbel hid
                      ⟨hm1, hm2, by
                        rw [upd_same]
                        refine ⟨_, e, (0, 0), heap_alloc_new w.drew _, ?_, by omega, hle, ?_, fun _ => rfl⟩
                        · simp only [Array.size_append, List.size_toArray, size_zeroCells, hzsz, hml, hb1, ← Nat.add_mul]
                          rw [show m'.length + (grownCap w m'.length 0 e - m'.length) = grownCap w m'.length 0 e from by omega]
                          exact Nat.le_refl _
                        · simp only [Array.toList_append]
                          exact List.take_left' rfl⟩ (fun b c h => by cases h; exact Nat.le_refl _)
                    refine ⟨g1, g2, ?_⟩
                    simp only [Rel, upd_same]
                    exact ⟨_, rfl, Nat.le_refl _, by omega⟩
                · cases h
              · rename_i o
                split at h
                · rename_i s2 l hLo
                  have hHo := hL _ _ hLo
                  split at h
                  · rename_i hss
                    have hss := Sh.eq_of_beq _ _ hss
                    subst hss
                    split at h
                    · rename_i hbytes
                      have hbytes := of_decide_eq_true hbytes
                      rw [← i3] at hbytes
                      cases h
                      simp only [Rel, hHo] at hx
                      simp only [addF]
                      have hrow : m' = [] ∨ ∃ ad, so = some ad ∧ RowAt w ad (PV.cellsL m') := by
                        have h0 := (shut1_ok hS hL hy hsh).2.2 φ H
                        simp only [Rel] at h0
                        obtain ⟨so', sc', heq, _, _, _, h3⟩ := h0
                        cases heq
                        exact h3
                      split at hx
                      · rename_i hφ
                        obtain ⟨rfl, rfl⟩ := hx
                        have := append_core hS (n := 0) (c := 0) (ao := none) he hu' i1 zs3 hzsz hHo (Nat.le_refl _) hid hb1 hb2 (by simpa using hbytes) (by rw [hφ]; exact ⟨rfl, rfl, rfl, rfl⟩) hm1 hm2 hrow (sc := sc) ty
                        simpa using this
                      · rename_i b cap hφ
                        obtain ⟨c, rfl, r1, r2⟩ := hx
                        have := append_core hS (n := l.length) (c := c) (ao := some ⟨b, 0, none⟩) he hu' i1 zs3 hzsz hHo (Nat.le_refl _) hid hb1 hb2 hbytes (by rw [hφ]; exact ⟨rfl, r2, r1⟩) hm1 hm2 hrow (sc := sc) ty
                        simpa using this
                    · cases h
                  · cases h
                · cases h
              · rename_i o n
                split at h
                · rename_i s2 l hLo
                  have hHo := hL _ _ hLo
                  split at h
                  · rename_i hss
                    have hss := Sh.eq_of_beq _ _ hss
                    subst hss
                    split at h
                    · rename_i hbytes
                      have hbytes := of_decide_eq_true hbytes
                      rw [← i3] at hbytes
                      cases h
                      simp only [Rel, hHo] at hx
                      simp only [addF]
                      have hrow : m' = [] ∨ ∃ ad, so = some ad ∧ RowAt w ad (PV.cellsL m') := by
                        have h0 := (shut1_ok hS hL hy hsh).2.2 φ H
                        simp only [Rel] at h0
                        obtain ⟨so', sc', heq, _, _, _, h3⟩ := h0
                        cases heq
                        exact h3
                      obtain ⟨hon, hx⟩ := hx
                      split at hx
                      · rename_i hφ
                        obtain ⟨rfl, rfl⟩ := hx
                        have hl : l = [] := by
                          have := (hS.blk _ _ hHo).2.2
                          rw [hφ] at this
                          exact this
                        exact append_core hS (n := 0) (c := 0) (ao := none) he hu' i1 zs3 hzsz hHo (by omega) hid hb1 hb2 (by simpa using hbytes) (by rw [hφ]; exact ⟨rfl, rfl, rfl, hl⟩) hm1 hm2 hrow (sc := sc) ty
                      · rename_i b cap hφ
                        obtain ⟨ad, c, rfl, r1, r2, r3⟩ := hx
                        have r3 : ad = ⟨b, 0, none⟩ := by
                          rcases r3 with r3 | ⟨_, r3⟩
                          · simpa using r3
                          · exact absurd rfl r3
                        subst r3
                        exact append_core hS (n := n) (c := c) (ao := some ⟨b, 0, none⟩) he hu' i1 zs3 hzsz hHo (by omega) hid hb1 hb2 hbytes (by rw [hφ]; exact ⟨rfl, r2, by omega⟩) hm1 hm2 hrow (sc := sc) ty
                    · cases h
                  · cases h
                · cases h
              · cases h
            · cases h
          · cases hsrc
        · cases hsrc
      · cases h
    · cases h

/-- Zero cells, as data. -/
theorem madeCells_replicate (z : List Value) (n : Nat) : (madeCells z.toArray (n * z.length)).toList = (List.replicate n z).flatten := by
  induction n with
  | zero => simp [madeCells]
  | succ n ih =>
    have h1 : (madeCells z.toArray ((n + 1) * z.length)).toList = (madeCells z.toArray (n * z.length)).toList ++ z := by
      simp only [madeCells, Array.toList_map, Array.toList_range, List.size_toArray, Nat.add_mul, Nat.one_mul, List.range_add, List.map_append, List.map_map]
      congr 1
      apply List.ext_getElem?
      intro j
      by_cases hj : j < z.length
      · simp only [List.getElem?_map, List.getElem?_range hj, Option.map_some, Function.comp_apply]
        rw [Nat.add_comm (n * z.length) j, Nat.add_mul_mod_self_right, Nat.mod_eq_of_lt hj]
        simp [hj]
      · simp [hj]
    rw [h1, ih, List.replicate_succ', List.flatten_append]
    simp

theorem cellsL_replicate (z : PV) (n : Nat) : PV.cellsL (List.replicate n z) = (List.replicate n z.cells).flatten := by
  induction n with
  | zero => simp [PV.cellsL]
  | succ n ih => simp [List.replicate_succ, PV.cellsL, ih]

theorem madeCells_take (z : PV) {n c : Nat} (h : n ≤ c) (hz : z.ok) : (madeCells z.val.cells (c * z.sh.size)).toList.take (PV.cellsL (List.replicate n z)).length = PV.cellsL (List.replicate n z) := by
  rw [PV.cells_val, ← PV.cells_length z hz, madeCells_replicate, ← cellsL_replicate]
  have : PV.cellsL (List.replicate c z) = PV.cellsL (List.replicate n z) ++ PV.cellsL (List.replicate (c - n) z) := by
    rw [← PV.cellsL_append, List.replicate_append_replicate, show n + (c - n) = c from by omega]
  rw [this]
  exact List.take_left' rfl

theorem makeSliceV_ok (hX : X.ok P) (hS : HSim W φ H w) {id t : Nat} (hfr : L id = none → H id = none) {v : AV} {n c : Int} {d : Delta}
    (h : makeSliceV X L id t n c = some (v, d)) :
    ∃ v' w' φ', (Instr.makeSlice t (.int .i64 n) (.int .i64 c)).run P w = .ok v' w' ∧ HSim W φ' (addF d H) w' ∧ HExt φ H φ' (addF d H) ∧ Rel W φ' (addF d H) v v' := by
  unfold makeSliceV at h
  split at h
  · cases h
  · rename_i hLid
    have hid := hfr hLid
    split at h
    · rename_i z td hz
      obtain ⟨e, he, hd, hzero⟩ := elemZero_ok hX hz
      obtain ⟨i, i1, i2, i3, i4⟩ := (hX e td hd).info
      obtain ⟨zs1, zs2, zv, zs3, zs4⟩ := i4 _ hzero
      have hzr := zs4 W φ H
      simp only [Rel] at hzr
      obtain ⟨hzok, rfl⟩ := hzr
      split at h
      · rename_i c1
        have c1 := of_decide_eq_true c1
        split at h
        · rename_i c2
          have c2 := of_decide_eq_true c2
          split at h
          · rename_i c3
            simp only [Bool.and_eq_true] at c3
            obtain ⟨⟨c3, c5⟩, c4⟩ := c3
            have c3 := of_decide_eq_true c3
            have c5 := of_decide_eq_true c5
            cases h
            have hrun := run_make (P := P) w t e i z.val he i1 zs3 .i64 .i64 n c c1 c2 (by rw [i3]; omega) c5
            refine ⟨_, _, upd φ id (some (w.heap.size, c.toNat)), hrun, ?_⟩
            simp only [addF]
            have hsz : i.size = z.sh.size := by rw [i2]; exact (fits_size c4).symm
            obtain ⟨g1, g2⟩ := hS.add (w' := w.alloc (.cells (madeCells z.val.cells (c.toNat * i.size)) e)) (id := id) (blk := .els true z.sh (List.replicate n.toNat z)) (pc := some (w.heap.size, c.toNat))
              ((Below.refl w.heap.size w).alloc (Nat.le_refl _) _) hid
              ⟨okL_replicate hzok _, allSh_replicate z _, by
                rw [upd_same]
                refine ⟨_, e, (0, 0), heap_alloc_new w _, by rw [size_madeCells, hsz]; exact Nat.le_refl _, by simp; omega, by unfold maxLen; omega, ?_, fun _ => rfl⟩
                rw [hsz]
                exact madeCells_take z (by omega) hzok⟩ (fun b c h => by cases h; exact Nat.le_refl _)
            refine ⟨g1, g2, ?_⟩
            simp only [Rel, upd_same]
            exact ⟨c.toNat, by simp, Nat.le_refl _, by simp; omega⟩
          · cases h
        · cases h
      · cases h
    · cases h

theorem setP_sh {x z v : PV} {path : List Nat} (_h : setP x path v = some z) : True := trivial

/-- Cells that are copied into an array. -/
theorem copy_cells {l m : List PV} {s : Sh} (h1 : PV.okL l) (h2 : PV.allSh s l) (h3 : PV.okL m) (h4 : PV.allSh s m) {off len : Nat} (h5 : off + len ≤ l.length) :
    PV.okL (copyL l off len m) ∧ PV.allSh s (copyL l off len m) ∧ (copyL l off len m).length = l.length ∧
      PV.cellsL (copyL l off len m) = PV.cellsL (l.take off) ++ (PV.cellsL (m.take len) ++ PV.cellsL (l.drop (off + (m.take len).length))) := by
  unfold copyL
  refine ⟨?_, ?_, ?_, ?_⟩
  · exact (PV.okL_append _ _).2 ⟨okL_take h1 _, (PV.okL_append _ _).2 ⟨okL_take h3 _, okL_drop h1 _⟩⟩
  · exact (PV.allSh_append _ _ _).2 ⟨allSh_take h2 _, (PV.allSh_append _ _ _).2 ⟨allSh_take h4 _, allSh_drop h2 _⟩⟩
  · simp only [List.length_append, List.length_take, List.length_drop]
    omega
  · rw [PV.cellsL_append, PV.cellsL_append]

theorem copyV_ok (hX : X.ok P) (hS : HSim W φ H w) (hL : SubH L H) {t u : Nat} {x y v : AV} {xv yv : Value} {d : Delta} (hx : Rel W φ H x xv) (hy : Rel W φ H y yv)
    (h : copyV X L t x y = some (v, d)) (ty : TypeId) :
    ∃ v' w' φ', (Builtin.copy_ #[t, u] ty #[xv, yv]).run P w = .ok v' w' ∧ HSim W φ' (addF d H) w' ∧ HExt φ H φ' (addF d H) ∧ Rel W φ' (addF d H) v v' := by
  unfold copyV at h
  split at h
  · rename_i s m hsh
    have hsrc := (shut1_ok hS hL hy hsh).2.2 φ H
    simp only [Rel] at hsrc
    obtain ⟨so, sc, rfl, hmc, hm1, hm2, hm3⟩ := hsrc
    split at h
    · rename_i id path off len
      split at h
      · rename_i x0 hx0
        have hH := hL _ _ hx0
        split at h
        · rename_i n s' l hnav
          split at h
          · rename_i hb
            simp only [Bool.and_eq_true] at hb
            obtain ⟨⟨hb1, hb2⟩, hb3⟩ := hb
            have hss := Sh.eq_of_beq _ _ hb1
            subst hss
            obtain ⟨e, he, _⟩ := isSlice_ok hX hb2
            have hsz := elemOK_ok hX hb3 (.inr he) w
            split at h
            · rename_i z hset
              cases h
              obtain ⟨hst, b, c, cs, T, vx, h1, h2, h3, h4⟩ := hS.blk _ _ hH
              obtain ⟨g1, g2, uu, o, pre, post, g3, g4, g5, g6, g7⟩ := navA_spec path x0 _ vx h3 hst hnav
              have g3' := g3
              simp only [Rel, PV.ok] at g3'
              obtain ⟨⟨q1, q2, q3⟩, rfl⟩ := g3'
              simp only [Rel, hH] at hx
              obtain ⟨b', cap, o', k', s', ad, c', r1, r2, r3, r4, rfl, r5, r6⟩ := hx
              have g2' : shS x0.sh path = some (.arr n s) := g2
              rw [g2'] at r3
              cases r3
              rw [h1] at r1
              cases r1
              rw [g4] at r2
              cases r2
              subst h4
              obtain ⟨p1, p2, p3, p4⟩ := copy_cells q2 q3 hm1 hm2 (off := off) (len := len) (by omega)
              have hnew : (PV.arr n s (copyL l off len m)).ok := by
                simp only [PV.ok]
                exact ⟨by rw [p3]; exact q1, p1, p2⟩
              obtain ⟨k1, k2, v', k3, k4⟩ := g7 (.p (.arr n s (copyL l off len m))) (PV.arr n s (copyL l off len m)).val z (Rel.plain hnew) rfl rfl hset
              have hrow : m = [] ∨ ∃ ad, so = some ad ∧ RowAt w ad (PV.cellsL m) := by
                have h0 := (shut1_ok hS hL hy hsh).2.2 φ H
                simp only [Rel] at h0
                obtain ⟨so', sc', heq, _, _, _, h3⟩ := h0
                cases heq
                exact h3
              -- what is read
              have hread : (Builtin.firstCells s.size (Nat.min m.length len) (.slice so m.length sc)).run P w = .ok (PV.cellsL (m.take len)).toArray w := by
                rcases hrow with rfl | ⟨sa, rfl, hrow⟩
                · cases so <;> simp [Builtin.firstCells, PV.cellsL, loadCells, loadCellsFrom]
                · refine run_firstCells_some w s.size _ sa _ _ (PV.cellsL (m.take len)) ?_ ?_
                  · rw [PV.cellsL_arr _ s (okL_take hm1 len) (allSh_take hm2 len), List.length_take, Nat.min_comm]
                  · have h5 : PV.cellsL m = PV.cellsL (m.take len) ++ PV.cellsL (m.drop len) := by rw [← PV.cellsL_append, List.take_append_drop]
                    intro j c hj
                    refine hrow j c ?_
                    rw [h5, List.getElem?_append_left (List.getElem?_eq_some_iff.1 hj).1]
                    exact hj
              have hmt : (m.take len).length = min len m.length := List.length_take
              -- where it is written
              have hcs : vx.cells.toList = (pre ++ PV.cellsL (l.take off)) ++ (PV.cellsL ((l.drop off).take (m.take len).length) ++ (PV.cellsL (l.drop (off + (m.take len).length)) ++ post)) := by
                rw [g6, PV.cells_val_list]
                simp only [PV.cells]
                have h5 : PV.cellsL l = PV.cellsL (l.take off) ++ (PV.cellsL ((l.drop off).take (m.take len).length) ++ PV.cellsL (l.drop (off + (m.take len).length))) := by
                  rw [← List.drop_drop, ← PV.cellsL_append, ← PV.cellsL_append, List.take_append_drop, List.take_append_drop]
                rw [h5]
                simp only [List.append_assoc]
              have hprelen : (pre ++ PV.cellsL (l.take off)).length = o + off * s.size := by
                rw [List.length_append, g5, PV.cellsL_arr _ s (okL_take q2 off) (allSh_take q3 off), List.length_take, Nat.min_eq_left (by omega)]
              have hmidlen : (PV.cellsL ((l.drop off).take (m.take len).length)).length = (PV.cellsL (m.take len)).length := by
                rw [PV.cellsL_arr _ s (okL_take (okL_drop q2 off) _) (allSh_take (allSh_drop q3 off) _), PV.cellsL_arr _ s (okL_take hm1 len) (allSh_take hm2 len)]
                congr 1
                rw [List.length_take, List.length_drop]
                omega
              have hfin : v'.cells.toList = (pre ++ PV.cellsL (l.take off)) ++ (PV.cellsL (m.take len) ++ (PV.cellsL (l.drop (off + (m.take len).length)) ++ post)) := by
                rw [k4, PV.cells_val_list]
                simp only [PV.cells]
                rw [p4]
                simp only [List.append_assoc]
              have hwrite : ∃ w1, (storeCells ad (PV.cellsL (m.take len))).run P w = .ok () w1 ∧ w1 = w.setRow b v'.cells := by
                refine ⟨_, ?_, rfl⟩
                rcases r6 with rfl | rfl
                · have hst := run_storeCells_at P b (o + off * s.size) T (PV.cellsL (m.take len)) 0 vx.cells w h2 (by
                    have : vx.cells.size = vx.cells.toList.length := rfl
                    rw [this, hcs, List.length_append, hprelen, List.length_append, hmidlen]
                    omega) (fun c hc => PV.cellsL_oneCell _ c hc)
                  simp only [Nat.add_zero] at hst
                  rw [hst]
                  congr 2
                  rw [← Array.toArray_toList (xs := v'.cells), hfin, hcs]
                  congr 1
                  rw [List.take_left' hprelen, ← hmidlen, ← hprelen]
                  rw [← List.length_append, ← List.append_assoc (pre ++ PV.cellsL (l.take off)) (PV.cellsL ((l.drop off).take _)), List.drop_left' rfl, List.append_assoc]
                · have hnil : PV.cellsL (m.take 0) = [] := by simp [PV.cellsL]
                  have hsame : v'.cells = vx.cells := by
                    rw [← Array.toArray_toList (xs := v'.cells), hfin, ← Array.toArray_toList (xs := vx.cells), hcs]
                    simp [PV.cellsL]
                  rw [hnil, hsame, setRow_self w b _ T _ h2]
                  simp [storeCells]
              obtain ⟨w1, hw1, hw2⟩ := hwrite
              subst hw2
              refine ⟨.int .i64 (min m.length len), w.setRow b v'.cells, φ, ?_, ?_⟩
              · simp only [Builtin.copy_, List.getElem?_toArray, List.getElem?_cons_zero, List.getElem?_cons_succ, Sem.run_bind, run_underlying he, Result.andThen_ok, Builtin.lenOf, Sem.run_pure, hsz, hread, hw1, goInt]
                have hmin : ((Nat.min m.length len : Nat) : Int) = min (m.length : Int) (len : Int) := by
                  show ((min m.length len : Nat) : Int) = _
                  omega
                rw [hmin]
              · simp only [addF]
                have heE := HExt.upd (φ := φ) hH (show BlkLe (.var x0) (.var z) from k2)
                obtain ⟨f1, f2⟩ := HSim.mod hS hH (blk' := .var z) (by simp) h1 (w' := w.setRow b v'.cells) rfl rfl rfl (by simp) (fun k hk => setRow_other w b k _ hk) k2
                  ⟨k1, b, c, _, T, v', h1, setRow_heap w b _ _ T _ h2, Rel.mono heE _ _ k3, rfl⟩
                refine ⟨f1, f2, ?_⟩
                unfold Rel
                exact ⟨trivial, rfl⟩
            · cases h
          · cases h
        · cases h
      · cases h
    · cases h
  · cases h

end Go.Proofs.YtipmkjfbdflneaaDoor.AM

namespace Go.Proofs.YtipmkjfbdflneaaDoor.AM
open Go Go.RowKit

variable {P : Program} {X : Ctx} {W : World} {φ : Phi} {H L : HeapF} {w : World} {ρ : Nat → AV} {a : Act}

theorem foldl_splice (off : Nat) : ∀ (ns : List Value) (k : Nat) (cells : Array Value) (pre old post : List Value), cells.toList = pre ++ (old ++ post) → pre.length = off + k → ns.length = old.length →
    ((ns.zipIdx k).foldl (fun cs (c, j) => cs.setIfInBounds (off + j) c) cells).toList = pre ++ (ns ++ post)
  | [], k, cells, pre, old, post, h1, h2, h3 => by
    have : old = [] := List.eq_nil_of_length_eq_zero (by simpa using h3.symm)
    subst this
    simpa using h1
  | c :: ns, k, cells, pre, old, post, h1, h2, h3 => by
    cases old with
    | nil => simp at h3
    | cons o old =>
      simp only [List.zipIdx_cons, List.foldl_cons]
      have hset : (cells.setIfInBounds (off + k) c).toList = (pre ++ [c]) ++ (old ++ post) := by
        rw [Array.toList_setIfInBounds, h1, ← h2]
        simp
      rw [foldl_splice off ns (k + 1) _ (pre ++ [c]) old post hset (by simp; omega) (by simpa using h3)]
      simp

theorem fill_cons {place : Nat → Option (Nat × Nat)} {cells : Array Value} {i : Nat} {v : Value} {rest : List (Nat × Value)} {pre old post : List Value} (hp : place i = some (pre.length, v.cells.size))
    (hc : cells.toList = pre ++ (old ++ post)) (hl : v.cells.size = old.length) :
    Instr.fill place cells ((i, v) :: rest) = Instr.fill place (pre ++ (v.cells.toList ++ post)).toArray rest := by
  have hsz : ¬ (pre.length + v.cells.size > cells.size) := by
    have : cells.size = cells.toList.length := rfl
    rw [this, hc]
    simp
    omega
  simp only [Instr.fill, hp]
  have hcond : (decide (v.cells.size ≠ v.cells.size) || decide (pre.length + v.cells.size > cells.size)) = false := by simp; simp at hsz; omega
  rw [if_neg (by simpa using hcond)]
  congr 1
  have := foldl_splice pre.length v.cells.toList 0 cells pre old post hc (by simp) (by simpa using hl)
  rw [← Array.toArray_toList (xs := (v.cells.zipIdx.foldl _ cells)), ← this]
  congr 2
  rw [← Array.foldl_toList, Array.toList_zipIdx]

/-- The parts of a literal and their values. -/
def RelP (W : World) (φ : Phi) (H : HeapF) : List (Nat × AV) → List (Nat × Value) → Prop
  | [], [] => True
  | (i, x) :: l, (j, v) :: vs => i = j ∧ Rel W φ H x v ∧ RelP W φ H l vs
  | _, _ => False

theorem fillP_ok {s : Sh} : ∀ {parts : List (Nat × AV)} {vals : List (Nat × Value)} {l m : List PV}, RelP W φ H parts vals → PV.okL l → PV.allSh s l → fillP l parts = some m →
    PV.okL m ∧ PV.allSh s m ∧ m.length = l.length ∧ Instr.fill (fun i => some (i * s.size, s.size)) (PV.cellsL l).toArray vals = some (PV.cellsL m).toArray
  | [], vals, l, m, hr, h1, h2, h => by
    cases vals with
    | nil => simp only [fillP, Option.some.injEq] at h; subst h; exact ⟨h1, h2, rfl, rfl⟩
    | cons v vs => simp [RelP] at hr
  | (i, x) :: parts, vals, l, m, hr, h1, h2, h => by
    cases vals with
    | nil => simp [RelP] at hr
    | cons v vs =>
      obtain ⟨j, v⟩ := v
      simp only [RelP] at hr
      obtain ⟨rfl, hx, hr⟩ := hr
      cases x <;> simp only [fillP] at h <;> try (cases h; done)
      rename_i x
      split at h
      · rename_i y hy
        split at h
        · rename_i hsh
          have hsh := Sh.eq_of_beq _ _ hsh
          simp only [Rel] at hx
          obtain ⟨hxok, rfl⟩ := hx
          have hys := allSh_get h2 hy
          have hxs : x.sh = s := hsh.symm.trans hys
          obtain ⟨k1, k2, k3, k4⟩ := fillP_ok hr (okL_set h1 hxok) (allSh_set h2 hxs) h
          refine ⟨k1, k2, by rw [k3, List.length_set], ?_⟩
          obtain ⟨c1, c2⟩ := cut_at hy
          have hlt := (List.getElem?_eq_some_iff.1 hy).1
          have hpre : (PV.cellsL (l.take i)).length = i * s.size := by
            rw [PV.cellsL_arr _ s (okL_take h1 i) (allSh_take h2 i), List.length_take, Nat.min_eq_left (by omega)]
          have hvsz : x.val.cells.size = s.size := by
            rw [PV.cells_val, List.size_toArray, PV.cells_length x hxok, hxs]
          rw [fill_cons (pre := PV.cellsL (l.take i)) (old := y.cells) (post := PV.cellsL (l.drop (i + 1))) (by rw [hpre, hvsz]) (by
            simp only
            conv => lhs; rw [c1]
            rw [PV.cellsL_append]
            rfl) (by rw [hvsz, PV.cells_length y (okL_get h1 hy), hys])]
          rw [← k4, c2 x, PV.cellsL_append]
          simp only [PV.cellsL, PV.cells_val_list]
        · cases h
      · cases h

theorem fillS_ok (hX : X.ok P) {t : Nat} {fields : Array Field} {places : Array (Nat × Nat)} (ht : P.underlying t = some (.struct fields))
    (hp : ∀ (f : Nat) (fld : Field) (d : TD), fields[f]? = some fld → X.at fld.type = some d → places[f]? = some (fld.offset, d.size)) :
    ∀ {parts : List (Nat × AV)} {vals : List (Nat × Value)} {l m : List PV}, RelP W φ H parts vals → PV.okL l → fillS X t l parts = some m →
      PV.okL m ∧ PV.shL m = PV.shL l ∧ Instr.fill (places[·]?) (PV.cellsL l).toArray vals = some (PV.cellsL m).toArray
  | [], vals, l, m, hr, h1, h => by
    cases vals with
    | nil => simp only [fillS, Option.some.injEq] at h; subst h; exact ⟨h1, rfl, rfl⟩
    | cons v vs => simp [RelP] at hr
  | (i, x) :: parts, vals, l, m, hr, h1, h => by
    cases vals with
    | nil => simp [RelP] at hr
    | cons v vs =>
      obtain ⟨j, v⟩ := v
      simp only [RelP] at hr
      obtain ⟨rfl, hx, hr⟩ := hr
      cases x <;> simp only [fillS] at h <;> try (cases h; done)
      rename_i x
      split at h
      · rename_i y hy
        split at h
        · rename_i hsh
          have hsh := Sh.eq_of_beq _ _ hsh
          simp only [Rel] at hx
          obtain ⟨hxok, rfl⟩ := hx
          have hstok : (PV.st l).ok := by simp only [PV.ok]; exact h1
          obtain ⟨_, fields', fld, d, f1, f2, f3, f4, f5, ⟨ls, f6, f7, f8⟩, _⟩ := partOf_ok hX (W := W) (φ := φ) (H := H) (Rel.plain hstok) rfl hy
          rw [ht] at f1
          cases f1
          have f6' : ls = PV.shL l := by
            have : (AV.p (.st l)).sh = .st (PV.shL l) := rfl
            rw [this] at f6
            cases f6
            rfl
          subst f6'
          -- the component itself
          obtain ⟨y0, hy0⟩ : ∃ y0, l[i]? = some y0 := by
            have hlt := (List.getElem?_eq_some_iff.1 f7).1
            rw [PV.shL_length] at hlt
            exact ⟨_, List.getElem?_eq_getElem hlt⟩
          have hys : y0.sh = x.sh := by
            have := Option.some.inj (f7.symm.trans (shL_get hy0))
            exact this.symm.trans hsh
          obtain ⟨k1, k2, k3⟩ := fillS_ok hX ht hp hr (okL_set h1 hxok) h
          refine ⟨k1, by rw [k2, shL_set hy0 hys.symm], ?_⟩
          obtain ⟨c1, c2⟩ := cut_at hy0
          have hpre : (PV.cellsL (l.take i)).length = fld.offset := by
            rw [PV.cellsL_st _ (okL_take h1 i), ← shL_take]
            exact f8
          have hvsz : x.val.cells.size = d.size := by
            rw [PV.cells_val, List.size_toArray, PV.cells_length x hxok]
            have := fits_size f4
            rw [← this]
            exact congrArg Sh.size hsh.symm
          rw [fill_cons (pre := PV.cellsL (l.take i)) (old := y0.cells) (post := PV.cellsL (l.drop (i + 1))) (by rw [hpre, hvsz]; exact hp i fld d f2 f3) (by
            simp only
            conv => lhs; rw [c1]
            rw [PV.cellsL_append]
            rfl) (by rw [PV.cells_val, List.size_toArray, PV.cells_length x hxok, PV.cells_length y0 (okL_get h1 hy0), hys])]
          rw [← k3, c2 x, PV.cellsL_append]
          simp only [PV.cellsL, PV.cells_val_list]
        · cases h
      · cases h

theorem AV.shL_length (l : List AV) : (AV.shL l).length = l.length := by
  induction l with
  | nil => rfl
  | cons x l ih => simp [AV.shL, ih]

theorem fillSA_ok (hX : X.ok P) {t : Nat} {fields : Array Field} {places : Array (Nat × Nat)} (ht : P.underlying t = some (.struct fields))
    (hp : ∀ (f : Nat) (fld : Field) (d : TD), fields[f]? = some fld → X.at fld.type = some d → places[f]? = some (fld.offset, d.size)) :
    ∀ {parts : List (Nat × AV)} {vals : List (Nat × Value)} {l m : List AV} {us : List Value}, RelP W φ H parts vals → RelL W φ H l us → (∀ x ∈ l, x.stays = true) → fillSA X t l parts = some m →
      ∃ us', RelL W φ H m us' ∧ (∀ x ∈ m, x.stays = true) ∧ Instr.fill (places[·]?) (us.flatMap fun u => u.cells.toList).toArray vals = some (us'.flatMap fun u => u.cells.toList).toArray
  | [], vals, l, m, us, hr, h1, h2, h => by
    cases vals with
    | nil => simp only [fillSA, Option.some.injEq] at h; subst h; exact ⟨us, h1, h2, rfl⟩
    | cons v vs => simp [RelP] at hr
  | (i, x) :: parts, vals, l, m, us, hr, h1, h2, h => by
    cases vals with
    | nil => simp [RelP] at hr
    | cons v vs =>
      obtain ⟨j, v⟩ := v
      simp only [RelP] at hr
      obtain ⟨rfl, hx, hr⟩ := hr
      simp only [fillSA] at h
      split at h
      · rename_i y hy
        split at h
        · rename_i hsh
          simp only [Bool.and_eq_true] at hsh
          have hxs := hsh.2
          have hsh := Sh.eq_of_beq _ _ hsh.1
          have hst : Rel W φ H (.st l) (.agg (us.flatMap fun u => u.cells.toList).toArray) := by
            unfold Rel
            exact ⟨us, h1, h2, rfl⟩
          obtain ⟨_, fields', fld, d, f1, f2, f3, f4, f5, ⟨ls, f6, f7, f8⟩, _⟩ := partOf_ok hX hst rfl hy
          rw [ht] at f1
          cases f1
          have f6' : ls = AV.shL l := by
            have : (AV.st l).sh = .st (AV.shL l) := rfl
            rw [this] at f6
            cases f6
            rfl
          subst f6'
          obtain ⟨y0, hy0⟩ : ∃ y0, l[i]? = some y0 := by
            have hlt := (List.getElem?_eq_some_iff.1 f7).1
            rw [AV.shL_length] at hlt
            exact ⟨_, List.getElem?_eq_getElem hlt⟩
          have hys : y0.sh = x.sh := by
            have := Option.some.inj (f7.symm.trans (AV.shL_get hy0))
            exact this.symm.trans hsh
          obtain ⟨u0, hu0, hru0⟩ := h1.get hy0
          have h2' : ∀ a ∈ l.set i x, a.stays = true := fun a ha => by
            rcases List.mem_or_eq_of_mem_set ha with ha | ha
            · exact h2 a ha
            · subst ha; exact hxs
          obtain ⟨us', k1, k2, k3⟩ := fillSA_ok hX ht hp hr (h1.set (i := i) hx) h2' h
          refine ⟨us', k1, k2, ?_⟩
          obtain ⟨c1, c2⟩ := cut_at hu0
          have hpre : ((us.take i).flatMap fun u => u.cells.toList).length = fld.offset := by
            rw [Rel.sizeL _ _ (h1.take i) (fun y hy => h2 y (List.mem_of_mem_take hy)), ← AV.shL_take]
            exact f8
          have hvsz : v.cells.size = d.size := by
            rw [Rel.size x v hx hxs]
            have := fits_size f4
            rw [← this]
            exact congrArg Sh.size hsh.symm
          rw [fill_cons (pre := (us.take i).flatMap fun u => u.cells.toList) (old := u0.cells.toList) (post := (us.drop (i + 1)).flatMap fun u => u.cells.toList) (by rw [hpre, hvsz]; exact hp i fld d f2 f3) (by
            simp only
            conv => lhs; rw [c1]
            simp) (by rw [Rel.size x v hx hxs, Array.length_toList, Rel.size y0 u0 hru0 (h2 y0 (List.mem_of_getElem? hy0)), hys])]
          rw [← k3, c2 v]
          simp
        · cases h
      · cases h

theorem fillA_ok : ∀ {parts : List (Nat × AV)} {vals : List (Nat × Value)} {l m : List AV} {us : List Value}, RelP W φ H parts vals → RelL W φ H l us → (∀ x ∈ l, x.isAgg = false ∧ x.stays = true) → fillA l parts = some m →
      ∃ us', RelL W φ H m us' ∧ m.length = l.length ∧ (∀ x ∈ m, x.isAgg = false ∧ x.stays = true) ∧ Instr.fill (fun i => some (i * 1, 1)) us.toArray vals = some us'.toArray
  | [], vals, l, m, us, hr, h1, h2, h => by
    cases vals with
    | nil => simp only [fillA, Option.some.injEq] at h; subst h; exact ⟨us, h1, rfl, h2, rfl⟩
    | cons v vs => simp [RelP] at hr
  | (i, x) :: parts, vals, l, m, us, hr, h1, h2, h => by
    cases vals with
    | nil => simp [RelP] at hr
    | cons v vs =>
      obtain ⟨j, v⟩ := v
      simp only [RelP] at hr
      obtain ⟨rfl, hx, hr⟩ := hr
      simp only [fillA] at h
      split at h
      · rename_i y hy
        split at h
        · rename_i hsh
          simp only [Bool.and_eq_true, Bool.not_eq_true'] at hsh
          have h2' : ∀ a ∈ l.set i x, a.isAgg = false ∧ a.stays = true := fun a ha => by
            rcases List.mem_or_eq_of_mem_set ha with ha | ha
            · exact h2 a ha
            · subst ha; exact hsh
          obtain ⟨us', k1, k4, k2, k3⟩ := fillA_ok hr (h1.set (i := i) hx) h2' h
          refine ⟨us', k1, by rw [k4, List.length_set], k2, ?_⟩
          obtain ⟨u0, hu0, hru0⟩ := h1.get hy
          obtain ⟨c1, c2⟩ := cut_at hu0
          have hlt := (List.getElem?_eq_some_iff.1 hu0).1
          have hone := (Rel.one hx hsh.2 hsh.1).1
          rw [fill_cons (pre := us.take i) (old := [u0]) (post := us.drop (i + 1)) (by rw [hone]; simp; omega) (by simp only; exact c1) (by rw [hone]; rfl)]
          rw [← k3, c2 v, hone]
          rfl
        · cases h
      · cases h

end Go.Proofs.YtipmkjfbdflneaaDoor.AM

namespace Go.Proofs.YtipmkjfbdflneaaDoor.AM
open Go Go.RowKit

variable {P : Program} {X : Ctx} {W : World} {φ : Phi} {H L : HeapF} {w : World} {ρ : Nat → AV} {a : Act}

theorem run_mapM_fields (fields : Array Field) (sz : Field → Nat) (h : ∀ f ∈ fields.toList, (sizeOf f.type).run P w = .ok (sz f) w) :
    (fields.mapM fun f => do pure (f.offset, ← sizeOf f.type) : Sem (Array (Nat × Nat))).run P w = .ok (fields.map fun f => (f.offset, sz f)) w := by
  rw [Array.mapM_eq_mapM_toList, Sem.run_map]
  have key : ∀ l : List Field, (∀ f ∈ l, (sizeOf f.type).run P w = .ok (sz f) w) → (l.mapM fun f => do pure (f.offset, ← sizeOf f.type) : Sem (List (Nat × Nat))).run P w = .ok (l.map fun f => (f.offset, sz f)) w := by
    intro l hl
    induction l with
    | nil => simp
    | cons f l ih =>
      rw [List.mapM_cons]
      simp only [Sem.run_bind, hl f (by simp), Result.andThen_ok, Sem.run_pure, ih (fun g hg => hl g (by simp [hg])), List.map_cons]
  rw [key _ h]
  simp only [Result.andThen_ok]
  congr 1
  rw [← Array.toArray_toList (xs := fields.map _), Array.toList_map]

theorem info_size {t : Nat} {i : TypeInfo} (h : P.info? t = some i) : (sizeOf t).run P w = .ok i.size w := by simp [sizeOf, typeInfo, h]

theorem zero_run {t : Nat} {i : TypeInfo} {z : Value} (h : P.info? t = some i) (hz : i.zero = some z) : (zeroValue t).run P w = .ok z w := by simp [zeroValue, typeInfo, h, hz]

theorem buildV_ok (hX : X.ok P) {t : Nat} {parts : List (Nat × AV)} {vals : Array (Nat × Value)} {v : AV} (hr : RelP W φ H parts vals.toList) (h : buildV X t parts = some v) :
    ∃ v', (Instr.build t vals).run P w = .ok v' w ∧ Rel W φ H v v' := by
  unfold buildV at h
  -- the places of a struct's fields
  have hplaces : ∀ fields : Array Field, (∀ f ∈ fields.toList, ∃ i, P.info? f.type = some i) →
      ∃ places : Array (Nat × Nat), (fields.mapM fun f => do pure (f.offset, ← sizeOf f.type) : Sem (Array (Nat × Nat))).run P w = .ok places w ∧
        ∀ (f : Nat) (fld : Field) (d : TD), fields[f]? = some fld → X.at fld.type = some d → places[f]? = some (fld.offset, d.size) := by
    intro fields hall
    refine ⟨_, run_mapM_fields fields (fun f => ((P.info? f.type).map (·.size)).getD 0) (fun f hf => ?_), fun f fld d' hf hd' => ?_⟩
    · obtain ⟨i, hi⟩ := hall f hf
      rw [info_size hi, hi]
      rfl
    · obtain ⟨i, i1, i2, _⟩ := (hX _ d' hd').info
      simp [hf, i1, i2]
  split at h
  · rename_i fs a b c l hd
    obtain ⟨i, i1, i2, i3, i4⟩ := (hX t _ hd).info
    obtain ⟨zs1, zs2, zv, zs3, zs4⟩ := i4 _ rfl
    have hzr := zs4 W φ H
    simp only [Rel, PV.ok] at hzr
    obtain ⟨hzok, rfl⟩ := hzr
    obtain ⟨fields, hu, _, _, _, _, hall⟩ := (hX t _ hd).kind
    obtain ⟨places, hpl, hp⟩ := hplaces fields hall
    split at h
    · rename_i m hm
      cases h
      obtain ⟨k1, k2, k3⟩ := fillS_ok hX hu hp hr hzok hm
      refine ⟨.agg (PV.cellsL m).toArray, ?_, ?_⟩
      · simp only [Instr.build, Sem.run_bind, zero_run i1 zs3, Result.andThen_ok, run_underlying hu, hpl, PV.val, cells_agg, k3, Sem.run_pure]
      · unfold Rel
        exact ⟨by simp only [PV.ok]; exact k1, rfl⟩
    · cases h
  · rename_i fs a b c l hd
    obtain ⟨i, i1, i2, i3, i4⟩ := (hX t _ hd).info
    obtain ⟨zs1, zs2, zv, zs3, zs4⟩ := i4 _ rfl
    have hzr := zs4 W φ H
    simp only [Rel] at hzr
    obtain ⟨us, hus, hst, rfl⟩ := hzr
    obtain ⟨fields, hu, _, _, _, _, hall⟩ := (hX t _ hd).kind
    obtain ⟨places, hpl, hp⟩ := hplaces fields hall
    split at h
    · rename_i m hm
      cases h
      obtain ⟨us', k1, k2, k3⟩ := fillSA_ok hX hu hp hr hus hst hm
      refine ⟨.agg (us'.flatMap fun u => u.cells.toList).toArray, ?_, ?_⟩
      · simp only [Instr.build, Sem.run_bind, zero_run i1 zs3, Result.andThen_ok, run_underlying hu, hpl, cells_agg, k3, Sem.run_pure]
      · unfold Rel
        exact ⟨us', k1, k2, rfl⟩
    · cases h
  · rename_i m0 e0 a b c n s l hd
    obtain ⟨i, i1, i2, i3, i4⟩ := (hX t _ hd).info
    obtain ⟨zs1, zs2, zv, zs3, zs4⟩ := i4 _ rfl
    have hzr := zs4 W φ H
    simp only [Rel, PV.ok] at hzr
    obtain ⟨⟨hl, hzok, hzsh⟩, rfl⟩ := hzr
    split at h
    · rename_i hb
      simp only [Bool.and_eq_true] at hb
      obtain ⟨e, he, _⟩ := isArr_ok hX hb.1
      have hsz := elemOK_ok hX hb.2 (.inl ⟨n, he⟩) w
      split at h
      · rename_i m hm
        cases h
        obtain ⟨k1, k2, k3, k4⟩ := fillP_ok hr hzok hzsh hm
        refine ⟨.agg (PV.cellsL m).toArray, ?_, ?_⟩
        · simp only [Instr.build, Sem.run_bind, zero_run i1 zs3, Result.andThen_ok, run_underlying he, hsz, PV.val, cells_agg, k4, Sem.run_pure]
        · unfold Rel
          exact ⟨by simp only [PV.ok]; exact ⟨k3.trans hl, k1, k2⟩, rfl⟩
      · cases h
    · cases h
  · cases h

theorem buildSliceV_ok (hX : X.ok P) (hS : HSim W φ H w) {id t n : Nat} (hfr : L id = none → H id = none) {parts : List (Nat × AV)} {vals : Array (Nat × Value)} {v : AV} {d : Delta} (hr : RelP W φ H parts vals.toList)
    (h : buildSliceV X L id t n parts = some (v, d)) :
    ∃ v' w' φ', (Instr.buildSlice t n vals).run P w = .ok v' w' ∧ HSim W φ' (addF d H) w' ∧ HExt φ H φ' (addF d H) ∧ Rel W φ' (addF d H) v v' := by
  unfold buildSliceV at h
  split at h
  · cases h
  · rename_i hLid
    have hid := hfr hLid
    split at h
    · rename_i z td hz
      obtain ⟨e, he, hd, hzero⟩ := elemZero_ok hX hz
      obtain ⟨i, i1, i2, i3, i4⟩ := (hX e td hd).info
      obtain ⟨zs1, zs2, zv, zs3, zs4⟩ := i4 _ hzero
      have hzr := zs4 W φ H
      simp only [Rel] at hzr
      obtain ⟨hzok, rfl⟩ := hzr
      split at h
      · rename_i hb
        simp only [Bool.and_eq_true, Bool.not_eq_true'] at hb
        obtain ⟨⟨hb1, hb2⟩, hb3⟩ := hb
        have hb1 := Nat.le_of_ble_eq_true hb1
        have hsize := fits_size hb2
        have hsize' : td.size = z.sh.size := hsize.symm
        have hpos : td.size ≠ 0 := fun e => by rw [e] at hb3; simp at hb3
        split at h
        · rename_i l hl
          cases h
          obtain ⟨k1, k2, k3, k4⟩ := fillP_ok hr (okL_replicate hzok n) (allSh_replicate z n) hl
          have hszr := (hX e td hd).sizeOf w
          have hzc : (madeCells z.val.cells (n * td.size)) = (PV.cellsL (List.replicate n z)).toArray := by
            rw [← Array.toArray_toList (xs := madeCells _ _), hsize', PV.cells_val, ← PV.cells_length z hzok, madeCells_replicate, ← cellsL_replicate]
          have hlenl : l.length = n := by rw [k3, List.length_replicate]
          have hrun : (Instr.buildSlice t n vals).run P w = .ok (.slice (some ⟨w.heap.size, 0, none⟩) n n) (w.alloc (.cells (PV.cellsL l).toArray e)) := by
            have hbig : ¬ (n * td.size > 2 ^ 24) := by omega
            simp only [Instr.buildSlice, Sem.run_bind, run_underlying he, Result.andThen_ok, hszr, Sem.run_ite, if_neg hbig, Sem.run_pure]
            by_cases h0 : n * td.size = 0
            · have hn0 : n = 0 := by
                rcases Nat.mul_eq_zero.1 h0 with h0 | h0
                · exact h0
                · exact absurd h0 hpos
              subst hn0
              rw [if_pos h0]
              have hz0 : ((Array.range (0 * td.size)).map fun x => (#[] : Array Value)[x % (#[] : Array Value).size]!) = (PV.cellsL (List.replicate 0 z)).toArray := by
                simp [PV.cellsL]
              rw [hsize'] at hz0 ⊢
              rw [hz0, k4]
              simp [newRow]
            · rw [if_neg h0]
              simp only [zero_run i1 zs3, Result.andThen_ok]
              have hz1 : ((Array.range (n * td.size)).map fun x => z.val.cells[x % z.val.cells.size]!) = (PV.cellsL (List.replicate n z)).toArray := hzc
              rw [hz1, hsize', k4]
              simp [newRow]
          refine ⟨_, _, upd φ id (some (w.heap.size, n)), hrun, ?_⟩
          simp only [addF]
          obtain ⟨g1, g2⟩ := hS.add (w' := w.alloc (.cells (PV.cellsL l).toArray e)) (id := id) (blk := .els true z.sh l) (pc := some (w.heap.size, n)) ((Below.refl w.heap.size w).alloc (Nat.le_refl _) _) hid
            ⟨k1, k2, by
              rw [upd_same]
              refine ⟨_, e, (0, 0), heap_alloc_new w _, ?_, by omega, ?_, by simp, fun _ => rfl⟩
              · rw [List.size_toArray, PV.cellsL_arr _ z.sh k1 k2, hlenl]
                exact Nat.le_refl _
              · have : n ≤ n * td.size := Nat.le_mul_of_pos_right _ (Nat.pos_of_ne_zero hpos)
                unfold maxLen
                omega⟩ (fun b c h => by cases h; exact Nat.le_refl _)
          refine ⟨g1, g2, ?_⟩
          simp only [Rel, upd_same]
          exact ⟨n, by rw [hlenl], Nat.le_refl _, by omega⟩
        · cases h
      · cases h
    · rename_i td hz
      obtain ⟨e, he, hd, hzero⟩ := elemZero_ok hX hz
      obtain ⟨i, i1, i2, i3, i4⟩ := (hX e td hd).info
      obtain ⟨zs1, zs2, zv, zs3, zs4⟩ := i4 _ hzero
      have hzr := zs4 W φ H
      simp only [Rel] at hzr
      subst hzr
      split at h
      · rename_i hb
        simp only [Bool.and_eq_true] at hb
        have hb1 := Nat.le_of_ble_eq_true hb.1
        have hsize : 1 = td.size := fits_size hb.2
        split at h
        · rename_i l hl
          cases h
          have hrep : RelL W φ H (List.replicate n .nil) (List.replicate n (.slice none 0 0)) := by
            clear hl hb1 hb
            induction n with
            | zero => simp [RelL]
            | succ n ih => simp only [List.replicate_succ, RelL]; exact ⟨by unfold Rel; rfl, ih⟩
          obtain ⟨us', k1, k3, k2, k4⟩ := fillA_ok hr hrep (fun x hx => by rw [List.eq_of_mem_replicate hx]; exact ⟨rfl, rfl⟩) hl
          have hszr := (hX e td hd).sizeOf w
          have hlenl : l.length = n := by rw [k3, List.length_replicate]
          have hrun : (Instr.buildSlice t n vals).run P w = .ok (.slice (some ⟨w.heap.size, 0, none⟩) n n) (w.alloc (.cells us'.toArray e)) := by
            rw [← hsize] at hszr hb1
            have hbig : ¬ (n * 1 > 2 ^ 24) := by omega
            simp only [Instr.buildSlice, Sem.run_bind, run_underlying he, Result.andThen_ok, hszr, Sem.run_ite, if_neg hbig, Sem.run_pure]
            by_cases h0 : n * 1 = 0
            · have hn0 : n = 0 := by omega
              subst hn0
              rw [if_pos h0]
              have hz0 : ((Array.range (0 * 1)).map fun x => (#[] : Array Value)[x % (#[] : Array Value).size]!) = (List.replicate 0 (Value.slice none 0 0)).toArray := by simp
              rw [hz0, k4]
              simp [newRow]
            · rw [if_neg h0]
              simp only [zero_run i1 zs3, Result.andThen_ok]
              have hz1 : ((Array.range (n * 1)).map fun x => (Value.slice none 0 0).cells[x % (Value.slice none 0 0).cells.size]!) = (List.replicate n (Value.slice none 0 0)).toArray := by
                have := toList_madeCells_one (Value.slice none 0 0) (n * 1)
                rw [Nat.mul_one] at this
                rw [← this]
                simp only [Nat.mul_one]
                rfl
              rw [hz1, k4]
              simp [newRow]
          refine ⟨_, _, upd φ id (some (w.heap.size, n)), hrun, ?_⟩
          simp only [addF]
          have hid' := hid
          have heE : HExt φ H (upd φ id (some (w.heap.size, n))) (upd H id (some (.elsA l))) := fun j x hx => by
            have hne : j ≠ id := fun e => by rw [e, hid] at hx; cases hx
            exact ⟨upd_ne _ _ hne, x, (upd_ne _ _ hne).trans hx, BlkLe.refl x⟩
          obtain ⟨g1, g2⟩ := hS.add (w' := w.alloc (.cells us'.toArray e)) (id := id) (blk := .elsA l) (pc := some (w.heap.size, n)) ((Below.refl w.heap.size w).alloc (Nat.le_refl _) _) hid
            ⟨w.heap.size, n, _, e, (0, 0), us', upd_same _ _ _, heap_alloc_new w _, RelL.mono heE _ _ k1, k2, by simp⟩ (fun b c h => by cases h; exact Nat.le_refl _)
          refine ⟨g1, g2, ?_⟩
          simp only [Rel, upd_same]
          exact ⟨n, by rw [hlenl], by omega⟩
        · cases h
      · cases h
    · cases h

end Go.Proofs.YtipmkjfbdflneaaDoor.AM

namespace Go.Proofs.YtipmkjfbdflneaaDoor.AM
open Go Go.RowKit

variable {P : Program} {X : Ctx} {W : World} {φ : Phi} {H L : HeapF} {w : World} {ρ : Nat → AV} {a : Act}

theorem run_part {u off : Nat} {d : TD} {x : PV} {cs : Array Value} {pre post : List Value} (hd : TDok P u d) (hx : x.ok) (ha : d.agg = x.isAgg) (hsz : d.size = x.sh.size)
    (hcs : cs.toList = pre ++ (x.cells ++ post)) (hpre : pre.length = off) : (part u cs off).run P w = .ok x.val w := by
  unfold part
  simp only [Sem.run_bind, hd.agg, Result.andThen_ok, Sem.run_ite, hd.sizeOf, ha]
  have hlen := PV.cells_length x hx
  cases hagg : x.isAgg with
  | true =>
    rw [if_pos rfl]
    simp only [Sem.run_pure]
    rw [PV.val_agg x hagg]
    congr 2
    rw [← Array.toArray_toList (xs := cs.extract _ _), Array.toList_extract, hcs, hsz, ← hlen, ← hpre]
    congr 1
    simp [List.extract_eq_take_drop]
  | false =>
    rw [if_neg (by simp)]
    have hone := PV.cells_one x hagg
    have hget : cs[off]? = some x.val := by
      have : cs[off]? = cs.toList[off]? := by simp
      rw [this, hcs, ← hpre, hone]
      simp
    rw [hget]
    rfl

theorem flat_spec {n t : Nat} {s : Sh} (h : flat X (n + 1) t s = true) : ∃ d, X.at t = some d ∧ d.size = s.size ∧ (match d.kind, s with
      | .int j, .int j' => j = j' ∧ d.agg = false
      | .bool, .bool => d.agg = false
      | .arr m e, .arr m' s' => m = m' ∧ d.agg = true ∧ flat X n e s' = true
      | .st fs, .st l => d.agg = true ∧ flatL X n 0 fs l = true
      | _, _ => False) := by
  simp only [flat] at h
  split at h
  · rename_i k z b g zz hd
    simp only [Bool.and_eq_true] at h
    obtain ⟨h1, h2⟩ := h
    refine ⟨_, hd, Nat.eq_of_beq_eq_true h1, ?_⟩
    split at h2
    · simp only [Bool.and_eq_true, Bool.not_eq_true'] at h2
      exact ⟨kind_of_beq h2.1, h2.2⟩
    · simpa using h2
    · simp only [Bool.and_eq_true] at h2
      exact ⟨Nat.eq_of_beq_eq_true h2.1.1, h2.1.2, h2.2⟩
    · simp only [Bool.and_eq_true] at h2
      exact h2
    · cases h2
  · cases h

theorem isAgg_sh (x : PV) : x.isAgg = (match x.sh with | .arr _ _ => true | .st _ => true | _ => false) := by cases x <;> rfl

theorem flat_agg (_hX : X.ok P) {n t : Nat} {s : Sh} {x : PV} (h : flat X n t s = true) (hs : x.sh = s) : ∃ d, X.at t = some d ∧ d.agg = x.isAgg ∧ d.size = x.sh.size := by
  cases n with
  | zero => simp [flat] at h
  | succ n =>
    obtain ⟨d, h1, h2, h3⟩ := flat_spec h
    refine ⟨d, h1, ?_, by rw [h2, hs]⟩
    rw [isAgg_sh, hs]
    split at h3
    · rename_i he; rw [h3.2]
    · rename_i he; rw [h3]
    · rename_i he; rw [h3.2.1]
    · rename_i he; rw [h3.1]
    · exact h3.elim

theorem equal_fields (hX : X.ok P) {n : Nat} (ih : ∀ t s x y, flat X n t s = true → x.ok → y.ok → x.sh = s → y.sh = s → ∀ d, n ≤ d → (Op.equalIn d t x.val y.val).run P w = .ok (PV.same x y) w) (d : Nat) (hd : n ≤ d) :
    ∀ (k : Nat), k ≤ n + 1 → ∀ (fs : List (Nat × Nat)) (fields : List Field) (off : Nat) (ls : List Sh) (xs ys : List PV) (cx cy : Array Value) (px py : List Value),
      (∀ t s, flat X (k - 1) t s = true → flat X n t s = true) → flatL X k off fs ls = true → fields.map (fun f => (f.offset, f.type)) = fs → (∀ f ∈ fields, f.name ≠ "_") → PV.okL xs → PV.okL ys → PV.shL xs = ls → PV.shL ys = ls →
      cx.toList = px ++ PV.cellsL xs → cy.toList = py ++ PV.cellsL ys → px.length = off → py.length = off →
      (Op.eqFields d cx cy fields).run P w = .ok (PV.sameL xs ys) w := by
  intro k
  induction k with
  | zero => intro _ fs fields off ls xs ys cx cy px py _ h; simp [flatL] at h
  | succ k ihk =>
    intro hk fs fields off ls xs ys cx cy px py hup h hf hn hx hy hsx hsy hcx hcy hpx hpy
    cases fs with
    | nil =>
      cases ls with
      | nil =>
        have : fields = [] := by simpa using hf
        subst this
        cases xs with
        | nil =>
          cases ys with
          | nil => simp [Op.eqFields, PV.sameL]
          | cons y ys => simp [PV.shL] at hsy
        | cons x xs => simp [PV.shL] at hsx
      | cons s ls => simp [flatL] at h
    | cons of fs =>
      obtain ⟨o, u⟩ := of
      cases ls with
      | nil => simp [flatL] at h
      | cons s ls =>
        simp only [flatL, Bool.and_eq_true] at h
        obtain ⟨⟨h1, h2⟩, h3⟩ := h
        have h1 := Nat.eq_of_beq_eq_true h1
        subst h1
        cases fields with
        | nil => simp at hf
        | cons f fields =>
          simp only [List.map_cons, List.cons.injEq, Prod.mk.injEq] at hf
          obtain ⟨⟨hf1, hf2⟩, hf3⟩ := hf
          cases xs with
          | nil => simp [PV.shL] at hsx
          | cons x xs =>
            cases ys with
            | nil => simp [PV.shL] at hsy
            | cons y ys =>
              simp only [PV.shL, List.cons.injEq] at hsx hsy
              simp only [PV.okL] at hx hy
              have h2n := hup _ _ h2
              subst hf2
              obtain ⟨du, d1, d2, d3⟩ := flat_agg hX h2n hsx.1
              obtain ⟨du', d1', d2', d3'⟩ := flat_agg hX h2n hsy.1
              rw [d1] at d1'
              cases d1'
              have hpx' := run_part (w := w) (hX _ du d1) hx.1 d2 d3 (pre := px) (post := PV.cellsL xs) (cs := cx) (by rw [hcx]; rfl) hpx
              have hpy' := run_part (w := w) (hX _ du d1) hy.1 d2' d3' (pre := py) (post := PV.cellsL ys) (cs := cy) (by rw [hcy]; rfl) hpy
              have heq := ih _ _ x y h2n hx.1 hy.1 hsx.1 hsy.1 d hd
              simp only [Op.eqFields, if_pos (hn f (by simp)), Sem.run_bind, hf1, hpx', hpy', Result.andThen_ok, heq, PV.sameL]
              cases hsame : PV.same x y with
              | false => simp
              | true =>
                simp only [Bool.not_true, Bool.false_eq_true, if_false, Bool.true_and]
                refine ihk (by omega) fs fields (o + s.size) ls xs ys cx cy (px ++ x.cells) (py ++ y.cells) ?_ h3 hf3 (fun g hg => hn g (by simp [hg])) hx.2 hy.2 hsx.2 hsy.2 ?_ ?_ ?_ ?_
                · intro t' s' ht'
                  refine hup t' s' ?_
                  -- one more step of depth
                  clear ihk
                  cases k with
                  | zero => simp [flat] at ht'
                  | succ k =>
                    have mono : ∀ m, (∀ t s, flat X m t s = true → flat X (m + 1) t s = true) ∧ (∀ off fs ls, flatL X m off fs ls = true → flatL X (m + 1) off fs ls = true) := by
                      intro m
                      induction m with
                      | zero => exact ⟨fun t s h => by simp [flat] at h, fun off fs ls h => by simp [flatL] at h⟩
                      | succ m ihm =>
                        refine ⟨fun t s h => ?_, fun off fs ls h => ?_⟩
                        · rw [flat] at h ⊢
                          split at h
                          · rename_i k z b g zz hd0
                            simp only [Bool.and_eq_true] at h ⊢
                            refine ⟨h.1, ?_⟩
                            have h2 := h.2
                            split at h2
                            · exact h2
                            · exact h2
                            · simp only [Bool.and_eq_true] at h2 ⊢
                              exact ⟨h2.1, ihm.1 _ _ h2.2⟩
                            · simp only [Bool.and_eq_true] at h2 ⊢
                              exact ⟨h2.1, ihm.2 _ _ _ h2.2⟩
                            · cases h2
                          · cases h
                        · cases fs with
                          | nil =>
                            cases ls with
                            | nil => simp [flatL]
                            | cons s ls => simp [flatL] at h
                          | cons e fs =>
                            obtain ⟨o, u⟩ := e
                            cases ls with
                            | nil => simp [flatL] at h
                            | cons s ls =>
                              simp only [flatL, Bool.and_eq_true] at h ⊢
                              exact ⟨⟨h.1.1, ihm.1 _ _ h.1.2⟩, ihm.2 _ _ _ h.2⟩
                    exact (mono k).1 t' s' ht'
                · rw [hcx]; simp [PV.cellsL]
                · rw [hcy]; simp [PV.cellsL]
                · rw [List.length_append, hpx, PV.cells_length x hx.1, hsx.1]
                · rw [List.length_append, hpy, PV.cells_length y hy.1, hsy.1]

theorem equal_elems (hX : X.ok P) {n e sz : Nat} {s : Sh} (ih : ∀ t s x y, flat X n t s = true → x.ok → y.ok → x.sh = s → y.sh = s → ∀ d, n ≤ d → (Op.equalIn d t x.val y.val).run P w = .ok (PV.same x y) w) (d : Nat) (hd : n ≤ d)
    (hfl : flat X n e s = true) (hsz : sz = s.size) {lx ly : List PV} (hx : PV.okL lx) (hy : PV.okL ly) (hsx : PV.allSh s lx) (hsy : PV.allSh s ly) (hl : lx.length = ly.length) {cx cy : Array Value}
    (hcx : cx.toList = PV.cellsL lx) (hcy : cy.toList = PV.cellsL ly) :
    ∀ m i, i + m = lx.length → (forIn (List.range' i m 1) ((none : Option Bool), ()) fun i _ => (do
        let u ← part e cx (i * sz)
        let v ← part e cy (i * sz)
        let r ← Op.equalIn d e u v
        if (!r) = true then pure (ForInStep.done (some false, ())) else pure (ForInStep.yield (none, ())) : Sem (ForInStep (Option Bool × Unit)))).run P w =
      .ok (if PV.sameL (lx.drop i) (ly.drop i) then (none, ()) else (some false, ())) w := by
  intro m
  induction m with
  | zero =>
    intro i hi
    rw [List.drop_of_length_le (by omega), List.drop_of_length_le (by omega)]
    simp [PV.sameL]
  | succ m ihm =>
    intro i hi
    have hix : i < lx.length := by omega
    have hiy : i < ly.length := by omega
    have gx : lx[i]? = some lx[i] := List.getElem?_eq_getElem hix
    have gy : ly[i]? = some ly[i] := List.getElem?_eq_getElem hiy
    obtain ⟨postx, px1, px2⟩ := cellsL_at hx hsx gx
    obtain ⟨posty, py1, py2⟩ := cellsL_at hy hsy gy
    have okx := okL_get hx gx
    have oky := okL_get hy gy
    have shx := allSh_get hsx gx
    have shy := allSh_get hsy gy
    obtain ⟨du, d1, d2, d3⟩ := flat_agg hX hfl shx
    obtain ⟨du', d1', d2', d3'⟩ := flat_agg hX hfl shy
    rw [d1] at d1'
    cases d1'
    have h1 := run_part (w := w) (hX _ du d1) okx d2 d3 (cs := cx) (by rw [hcx]; exact px1) (px2.trans (by rw [← hsz]))
    have h2 := run_part (w := w) (hX _ du d1) oky d2' d3' (cs := cy) (by rw [hcy]; exact py1) (py2.trans (by rw [← hsz]))
    have h3 := ih e s lx[i] ly[i] hfl okx oky shx shy d hd
    rw [List.range'_succ, List.forIn_cons]
    simp only [Sem.run_bind, h1, h2, h3, Result.andThen_ok]
    rw [List.drop_eq_getElem_cons hix, List.drop_eq_getElem_cons hiy]
    simp only [PV.sameL]
    by_cases hsame : PV.same lx[i] ly[i] = true
    · simp only [hsame, Bool.not_true, Bool.false_eq_true, if_false, Sem.run_pure, Result.andThen_ok, Bool.true_and]
      exact ihm (i + 1) (by omega)
    · have hsame : PV.same lx[i] ly[i] = false := by simpa using hsame
      simp [hsame]

theorem run_equalIn_arr {d t n e sz : Nat} {cx cy : Array Value} (ht : P.underlying t = some (.array n e)) (hsz : (sizeOf e).run P w = .ok sz w) (b : Bool)
    (h : (forIn (List.range' 0 n 1) ((none : Option Bool), ()) fun i _ => (do
        let u ← part e cx (i * sz)
        let v ← part e cy (i * sz)
        let r ← Op.equalIn d e u v
        if (!r) = true then pure (ForInStep.done (some false, ())) else pure (ForInStep.yield (none, ())) : Sem (ForInStep (Option Bool × Unit)))).run P w =
      .ok (if b then (none, ()) else (some false, ())) w) : (Op.equalIn (d + 1) t (.agg cx) (.agg cy)).run P w = .ok b w := by
  simp only [Op.equalIn, Sem.run_bind, run_underlying ht, Result.andThen_ok, hsz]
  rw [Std.Legacy.Range.forIn_eq_forIn_range']
  have : List.range' ({ stop := n, step_pos := by decide } : Std.Legacy.Range).start ({ stop := n, step_pos := by decide } : Std.Legacy.Range).size ({ stop := n, step_pos := by decide } : Std.Legacy.Range).step = List.range' 0 n 1 := by
    simp [Std.Legacy.Range.size]
  rw [this, h]
  cases b <;> simp

theorem equal_flat (hX : X.ok P) : ∀ n t s x y, flat X n t s = true → x.ok → y.ok → x.sh = s → y.sh = s → ∀ d, n ≤ d → (Op.equalIn d t x.val y.val).run P w = .ok (PV.same x y) w := by
  intro n
  induction n with
  | zero => intro t s x y h; simp [flat] at h
  | succ n ih =>
    intro t s x y h hx hy hsx hsy d hd
    obtain ⟨d, rfl⟩ : ∃ m, d = m + 1 := ⟨d - 1, by omega⟩
    obtain ⟨td, h1, h2, h3⟩ := flat_spec h
    have hk := (hX t td h1).kind
    split at h3
    · rename_i j j' hkd
      rw [hkd] at hk
      cases x <;> simp [PV.sh] at hsx
      cases y <;> simp [PV.sh] at hsy
      subst hsx hsy
      simp only [PV.val, PV.same]
      exact run_equalIn_int w d t _ _ _ _ hk
    · rename_i hkd
      rw [hkd] at hk
      cases x <;> simp [PV.sh] at hsx
      cases y <;> simp [PV.sh] at hsy
      simp only [PV.val, PV.same]
      exact run_equalIn_bool w d t _ _ hk
    · rename_i m e m' s' h hkd
      rw [hkd] at hk
      obtain ⟨rfl, h4, h5⟩ := h3
      cases x <;> simp [PV.sh] at hsx
      cases y <;> simp [PV.sh] at hsy
      rename_i m1 s1 lx m2 s2 ly
      obtain ⟨rfl, rfl⟩ := hsx
      obtain ⟨rfl, rfl⟩ := hsy
      simp only [PV.ok] at hx hy
      simp only [PV.val, PV.same]
      obtain ⟨ed, e1, e2⟩ : ∃ ed, X.at e = some ed ∧ ed.size = s2.size := by
        cases n with
        | zero => simp [flat] at h5
        | succ n =>
          obtain ⟨ed, e1, e2, _⟩ := flat_spec h5
          exact ⟨ed, e1, e2⟩
      have hszr := (hX e ed e1).sizeOf w
      refine run_equalIn_arr hk.1 hszr _ ?_
      have := equal_elems hX ih d (by omega) h5 e2 hx.2.1 hy.2.1 hx.2.2 hy.2.2 (hx.1.trans hy.1.symm) (cx := (PV.cellsL lx).toArray) (cy := (PV.cellsL ly).toArray) rfl rfl m2 0 (by omega)
      simpa using this
    · rename_i fs l h hkd
      rw [hkd] at hk
      obtain ⟨fields, k1, k2, k3, k4, k5, k6⟩ := hk
      cases x <;> simp [PV.sh] at hsx
      cases y <;> simp [PV.sh] at hsy
      rename_i lx ly
      simp only [PV.ok] at hx hy
      simp only [PV.val, PV.same]
      have hfo : P.fieldsOf t = fields := by simp [Program.fieldsOf, k1]
      rw [run_equalIn_struct w d t _ _ (by rw [hfo]; exact k1) k3, hfo]
      exact equal_fields hX ih d (by omega) n (by omega) fs fields.toList 0 l lx ly _ _ [] [] (fun t' s' h' => by
        cases n with
        | zero => simp [flat] at h'
        | succ n =>
          have mono : ∀ m, (∀ t s, flat X m t s = true → flat X (m + 1) t s = true) ∧ (∀ off fs ls, flatL X m off fs ls = true → flatL X (m + 1) off fs ls = true) := by
            intro m
            induction m with
            | zero => exact ⟨fun t s h => by simp [flat] at h, fun off fs ls h => by simp [flatL] at h⟩
            | succ m ihm =>
              refine ⟨fun t s h => ?_, fun off fs ls h => ?_⟩
              · rw [flat] at h ⊢
                split at h
                · rename_i k z b g zz hd0
                  simp only [Bool.and_eq_true] at h ⊢
                  refine ⟨h.1, ?_⟩
                  have h2 := h.2
                  split at h2
                  · exact h2
                  · exact h2
                  · simp only [Bool.and_eq_true] at h2 ⊢
                    exact ⟨h2.1, ihm.1 _ _ h2.2⟩
                  · simp only [Bool.and_eq_true] at h2 ⊢
                    exact ⟨h2.1, ihm.2 _ _ _ h2.2⟩
                  · cases h2
                · cases h
              · cases fs with
                | nil =>
                  cases ls with
                  | nil => simp [flatL]
                  | cons s ls => simp [flatL] at h
                | cons e fs =>
                  obtain ⟨o, u⟩ := e
                  cases ls with
                  | nil => simp [flatL] at h
                  | cons s ls =>
                    simp only [flatL, Bool.and_eq_true] at h ⊢
                    exact ⟨⟨h.1.1, ihm.1 _ _ h.1.2⟩, ihm.2 _ _ _ h.2⟩
          exact (mono n).1 t' s' h') h3.2 k2 k5 hx hy hsx hsy rfl rfl rfl rfl
    · exact h3.elim

end Go.Proofs.YtipmkjfbdflneaaDoor.AM

namespace Go.Proofs.YtipmkjfbdflneaaDoor.AM
open Go Go.RowKit

variable {P : Program} {X : Ctx} {W : World} {φ : Phi} {H L : HeapF} {w : World} {ρ : Nat → AV} {a : Act}

theorem mapOp_ok {G : Globs} (hG : GlobOK W G) (he : EnvOK W φ H ρ a) (l : List Operand) : RelL W φ H (mapOp (ev G ρ) l) (l.map a.eval) := by
  induction l with
  | nil => simp [mapOp, RelL]
  | cons x l ih => simp only [mapOp, List.map_cons, RelL]; exact ⟨ev_ok hG he x, ih⟩

theorem mapPair_ok {G : Globs} (hG : GlobOK W G) (he : EnvOK W φ H ρ a) (l : List (Nat × Operand)) : RelP W φ H (mapPair (ev G ρ) l) (l.map fun (i, x) => (i, a.eval x)) := by
  induction l with
  | nil => simp [mapPair, RelP]
  | cons x l ih => obtain ⟨i, x⟩ := x; simp only [mapPair, List.map_cons, RelP]; exact ⟨trivial, ev_ok hG he x, ih⟩

theorem optOp_ok {G : Globs} (hG : GlobOK W G) (he : EnvOK W φ H ρ a) (o : Option Operand) : RelO W φ H (optOp (ev G ρ) o) (o.map a.eval) := by
  cases o with
  | none => simp [optOp, RelO]
  | some x => simp only [optOp, Option.map_some, RelO]; exact ev_ok hG he x

theorem run_partA {u off : Nat} {d : TD} {x : AV} {v : Value} {cs : Array Value} {pre post : List Value} (hd : TDok P u d) (hx : Rel W φ H x v) (hs : x.stays = true) (hf : fits d x = true)
    (hcs : cs.toList = pre ++ (v.cells.toList ++ post)) (hpre : pre.length = off) : (part u cs off).run P w = .ok v w := by
  have hsz := fits_size hf
  simp only [fits, Bool.and_eq_true, beq_iff_eq] at hf
  have hlen := Rel.size x v hx hs
  unfold part
  simp only [Sem.run_bind, hd.agg, Result.andThen_ok, Sem.run_ite, hd.sizeOf]
  rcases Rel.cases hx hs with ⟨ha, hv⟩ | ⟨ha, hv⟩
  · rw [← hf.1, ha, if_pos rfl]
    simp only [Sem.run_pure]
    have : cs.extract off (off + d.size) = v.cells := by
      rw [← Array.toArray_toList (xs := cs.extract _ _), Array.toList_extract, hcs, ← hsz, ← hlen, ← hpre]
      rw [← Array.toArray_toList (xs := v.cells)]
      congr 1
      simp [List.extract_eq_take_drop]
    rw [this]
    exact congrArg (fun x => Result.ok x w) hv.symm
  · rw [← hf.1, ha, if_neg (by simp)]
    have hget : cs[off]? = some v := by
      have : cs[off]? = cs.toList[off]? := by simp
      rw [this, hcs, ← hpre, hv]
      simp
    rw [hget]
    rfl

theorem arith_ok {op : BinOp} {t : TypeId} {k : IntKind} {p q : Int} {v : PV} (h : arith op k p q = some v) : v.ok ∧ (binOp op t (.int k p) (.int k q)).run P w = .ok v.val w := by
  cases op <;> simp only [arith] at h <;> first
    | (cases h; done)
    | (split at h
       · cases h
       · rename_i hq
         have hq := of_decide_eq_false hq
         cases h
         refine ⟨trivial, ?_⟩
         simp [binOp, Op.intDiv, hq, PV.val])
    | (cases h
       refine ⟨trivial, ?_⟩
       simp [binOp, Op.intArith, Op.intBits, Op.intCmp, PV.val])

theorem shift_ok {op : BinOp} {t : TypeId} {k k' : IntKind} {p q : Int} {v : PV} (hop : op = .shl ∨ op = .shr) (h : shiftV op k p q = some v) : v.ok ∧ (binOp op t (.int k p) (.int k' q)).run P w = .ok v.val w := by
  unfold shiftV at h
  split at h
  · cases h
  · rename_i hq
    have hq := of_decide_eq_false hq
    rcases hop with rfl | rfl
    · cases h
      exact ⟨trivial, by simp [binOp, Op.shift, hq, PV.val]⟩
    · cases h
      exact ⟨trivial, by simp [binOp, Op.shift, hq, PV.val]⟩

theorem run_eqGuard_plain {op : BinOp} {t : TypeId} {x y : Operand} {u v : Value} (h1 : u.oneCell' = true) (h2 : u ≠ .nilIface) : (eqGuard op t x y u v).run P w = .ok () w := by
  cases op <;> cases u <;> simp_all [eqGuard, Value.oneCell'] <;> cases v <;> simp

theorem flat_guard (hX : X.ok P) {n t : Nat} {s : Sh} (h : flat X (n + 1) t s = true) (hs : s ≠ .one ∧ s ≠ .bool ∧ ∀ k, s ≠ .int k) : P.eqGuardType P.depth t = false := by
  obtain ⟨d, d1, d2, d3⟩ := flat_spec h
  have hk := (hX t d d1).kind
  cases s with
  | one => exact absurd rfl hs.1
  | int k => exact absurd rfl (hs.2.2 k)
  | bool => exact absurd rfl hs.2.1
  | arr m s =>
    cases hkd : d.kind <;> rw [hkd] at d3 <;> simp only at d3
    rw [hkd] at hk
    exact hk.2
  | st l =>
    cases hkd : d.kind <;> rw [hkd] at d3 <;> simp only at d3
    rw [hkd] at hk
    obtain ⟨_, _, _, _, hk, _⟩ := hk
    exact hk

theorem binV_ok (hX : X.ok P) {op : BinOp} {t : Nat} {x y : AV} {u v : Value} {r : PV} {ox oy : Operand} (hx : Rel W φ H x u) (hy : Rel W φ H y v) (h : binV X op t x y = some r) :
    r.ok ∧ ((do eqGuard op t ox oy u v; binOp op t u v : Sem Value)).run P w = .ok r.val w := by
  unfold binV at h
  split at h
  · rename_i k p k' q
    simp only [Rel] at hx hy
    obtain ⟨_, rfl⟩ := hx
    obtain ⟨_, rfl⟩ := hy
    simp only [PV.val]
    rw [Sem.run_bind, run_eqGuard_plain rfl (by simp)]
    simp only [Result.andThen_ok]
    split at h
    · exact shift_ok (.inl rfl) h
    · exact shift_ok (.inr rfl) h
    · split at h
      · rename_i hk
        have hk := kind_of_beq hk
        subst hk
        exact arith_ok h
      · cases h
  · rename_i p q
    simp only [Rel] at hx hy
    obtain ⟨_, rfl⟩ := hx
    obtain ⟨_, rfl⟩ := hy
    simp only [PV.val]
    rw [Sem.run_bind, run_eqGuard_plain rfl (by simp)]
    simp only [Result.andThen_ok]
    split at h
    · rename_i b c d e hd
      have hk := (hX t _ hd).kind
      split at h
      · cases h
        refine ⟨trivial, ?_⟩
        simp [binOp, run_equal_bool w t p q hk]
      · cases h
        refine ⟨trivial, ?_⟩
        simp [binOp, run_equal_bool w t p q hk, bne]
      · cases h
    · cases h
  · rename_i p q
    simp only [Rel] at hx hy
    obtain ⟨_, rfl⟩ := hx
    obtain ⟨_, rfl⟩ := hy
    simp only [PV.val]
    rw [Sem.run_bind, run_eqGuard_plain rfl (by simp)]
    simp only [Result.andThen_ok]
    split at h
    · cases h
      exact ⟨trivial, by simp [binOp, Op.stringOp, beq_toListBytes]⟩
    · cases h
      exact ⟨trivial, by simp [binOp, Op.stringOp, beq_toListBytes, bne]⟩
    · cases h
  · rename_i p q _ _ _
    split at h
    · rename_i hb
      simp only [Bool.and_eq_true] at hb
      obtain ⟨⟨⟨hb1, hb2⟩, hb3⟩, hb4⟩ := hb
      have hb2 := Sh.eq_of_beq _ _ hb2
      simp only [Rel] at hx hy
      obtain ⟨hp, rfl⟩ := hx
      obtain ⟨hq, rfl⟩ := hy
      have heq := equal_flat (w := w) hX 32 t p.sh p q hb1 hp hq rfl hb2.symm 10000 (by omega)
      have hm : P.eqGuardType P.depth t = false := flat_guard hX hb1 (by clear heq hb2 hb1 hp; cases p <;> simp [PV.isAgg, PV.sh] at hb3 ⊢)
      rw [PV.val_agg p hb3, PV.val_agg q hb4] at heq ⊢
      rw [Sem.run_bind, run_eqGuard_agg w op t ox oy _ _ hm]
      simp only [Result.andThen_ok]
      split at h
      · cases h
        refine ⟨trivial, ?_⟩
        rw [run_eql_struct, heq]
        rfl
      · cases h
        refine ⟨trivial, ?_⟩
        rw [run_neq_struct, heq]
        rfl
      · cases h
    · cases h
  · cases h

theorem unV_ok {op : UnOp} {x : AV} {u : Value} {r : PV} (hx : Rel W φ H x u) (h : unV op x = some r) : r.ok ∧ (Op.unary op u).run P w = .ok r.val w := by
  unfold unV at h
  split at h
  · simp only [Rel] at hx
    obtain ⟨_, rfl⟩ := hx
    cases h
    exact ⟨trivial, by simp [Op.unary, PV.val]⟩
  · simp only [Rel] at hx
    obtain ⟨_, rfl⟩ := hx
    cases h
    exact ⟨trivial, by simp [Op.unary, Op.intArith, PV.val]⟩
  · simp only [Rel] at hx
    obtain ⟨_, rfl⟩ := hx
    cases h
    exact ⟨trivial, by simp [Op.unary, Op.intBits, PV.val]⟩
  · cases h

theorem lenV_ok (hL : SubH L H) {x : AV} {v : Value} {n : Nat} (hx : Rel W φ H x v) (h : lenV L x = some n) : ∃ ao c, v = .slice ao n c := by
  unfold lenV at h
  split at h
  · cases h; simp only [Rel] at hx; exact ⟨_, _, hx⟩
  · cases h; simp only [Rel] at hx; obtain ⟨ao, c, rfl, _⟩ := hx; exact ⟨_, _, rfl⟩
  · cases h; simp only [Rel] at hx; obtain ⟨ao, c, _, rfl, _⟩ := hx; exact ⟨_, _, rfl⟩
  · rename_i id off m
    split at h
    case h_2 => cases h
    rename_i rw_ s l hl
    cases h
    simp only [Rel, hL _ _ hl] at hx
    obtain ⟨_, hx⟩ := hx
    split at hx
    · obtain ⟨rfl, rfl⟩ := hx; exact ⟨_, _, rfl⟩
    · obtain ⟨_, c, rfl, _⟩ := hx; exact ⟨_, _, rfl⟩
  · cases h
    simp only [Rel] at hx
    split at hx
    · obtain ⟨_, _, _, _, _, _, c, _, _, _, _, rfl, _⟩ := hx; exact ⟨_, _, rfl⟩
    · exact hx.elim
  · rename_i id
    split at h
    · rename_i rw_ s l hl
      cases h
      simp only [Rel, hL _ _ hl] at hx
      split at hx
      · obtain ⟨rfl, rfl⟩ := hx; exact ⟨_, _, rfl⟩
      · obtain ⟨c, rfl, _⟩ := hx; exact ⟨_, _, rfl⟩
    · rename_i l hl
      cases h
      simp only [Rel, hL _ _ hl] at hx
      split at hx
      · exact hx.elim
      · obtain ⟨c, rfl, _⟩ := hx; exact ⟨_, _, rfl⟩
    · cases h
  · cases h

end Go.Proofs.YtipmkjfbdflneaaDoor.AM

namespace Go.Proofs.YtipmkjfbdflneaaDoor.AM
open Go Go.RowKit

variable {P : Program} {X : Ctx} {W : World} {φ : Phi} {H L : HeapF} {w : World} {ρ : Nat → AV} {a : Act}

theorem lenT_ok (hX : X.ok P) (hL : SubH L H) {t : Nat} {x : AV} {v : Value} {n : Nat} (hx : Rel W φ H x v) (h : lenT X L t x = some n) (ty : TypeId) :
    (Builtin.len_ #[t] ty #[v]).run P w = .ok (.int .i64 n) w := by
  unfold lenT at h
  split at h
  · rename_i e b c d z hd
    have hk := (hX t _ hd).kind
    obtain ⟨ao, c, rfl⟩ := lenV_ok hL hx h
    simp only [KindOK] at hk
    simp [Builtin.len_, run_underlying hk, goInt]
  · rename_i m e b c d z hd
    have hk := (hX t _ hd).kind
    cases h
    simp [Builtin.len_, run_underlying hk.1, goInt]
  · rename_i b c d z hd
    have hk := (hX t _ hd).kind
    split at h
    · cases h
      simp only [Rel] at hx
      obtain ⟨_, rfl⟩ := hx
      simp only [KindOK] at hk
      simp [Builtin.len_, run_underlying hk, goInt, PV.val]
    · cases h
  · cases h

theorem fold_max_ok {x y : AV} {l : List AV} {v : Value} {vs : List Value} (hx : Rel W φ H x v) (hl : RelL W φ H l vs) (h : foldV max2V x l = some y) :
    ∃ u, (vs.foldlM Builtin.max2 v : Sem Value).run P w = .ok u w ∧ Rel W φ H y u := by
  induction l generalizing x v vs with
  | nil =>
    cases vs with
    | nil => simp only [foldV, Option.some.injEq] at h; subst h; exact ⟨v, by simp, hx⟩
    | cons v vs => simp [RelL] at hl
  | cons z l ih =>
    cases vs with
    | nil => simp [RelL] at hl
    | cons u vs =>
      simp only [RelL] at hl
      simp only [foldV] at h
      split at h
      · rename_i m hm
        unfold max2V at hm
        split at hm
        · rename_i k p k' q
          cases hm
          have hz := hl.1
          simp only [Rel] at hx hz
          obtain ⟨_, rfl⟩ := hx
          obtain ⟨_, rfl⟩ := hz
          have hnew : Rel W φ H (.p (.i k (if q > p then q else p))) (.int k (if q > p then q else p)) := Rel.plain (x := .i k (if q > p then q else p)) trivial
          obtain ⟨r, h1, h2⟩ := ih hnew hl.2 h
          refine ⟨r, ?_, h2⟩
          rw [List.foldlM_cons]
          simp only [PV.val, Builtin.max2, Sem.run_bind, Sem.run_pure, Result.andThen_ok]
          exact h1
        · cases hm
      · cases h

theorem fold_min_ok {x y : AV} {l : List AV} {v : Value} {vs : List Value} (hx : Rel W φ H x v) (hl : RelL W φ H l vs) (h : foldV min2V x l = some y) :
    ∃ u, (vs.foldlM Builtin.min2 v : Sem Value).run P w = .ok u w ∧ Rel W φ H y u := by
  induction l generalizing x v vs with
  | nil =>
    cases vs with
    | nil => simp only [foldV, Option.some.injEq] at h; subst h; exact ⟨v, by simp, hx⟩
    | cons v vs => simp [RelL] at hl
  | cons z l ih =>
    cases vs with
    | nil => simp [RelL] at hl
    | cons u vs =>
      simp only [RelL] at hl
      simp only [foldV] at h
      split at h
      · rename_i m hm
        unfold min2V at hm
        split at hm
        · rename_i k p k' q
          cases hm
          have hz := hl.1
          simp only [Rel] at hx hz
          obtain ⟨_, rfl⟩ := hx
          obtain ⟨_, rfl⟩ := hz
          have hnew : Rel W φ H (.p (.i k (if q < p then q else p))) (.int k (if q < p then q else p)) := Rel.plain (x := .i k (if q < p then q else p)) trivial
          obtain ⟨r, h1, h2⟩ := ih hnew hl.2 h
          refine ⟨r, ?_, h2⟩
          rw [List.foldlM_cons]
          simp only [PV.val, Builtin.min2, Sem.run_bind, Sem.run_pure, Result.andThen_ok]
          exact h1
        · cases hm
      · cases h

theorem appendZ_ok (hX : X.ok P) (hS : HSim W φ H w) {id t u : Nat} (hfr : L id = none → H id = none) {x y v : AV} {xv yv : Value} {d : Delta} (hx : Rel W φ H x xv) (hy : Rel W φ H y yv)
    (h : appendZ X L id t u x y = some (v, d)) (ty : TypeId) :
    ∃ v' w' φ', (Builtin.append_ #[t, u] ty #[xv, yv]).run P w = .ok v' w' ∧ HSim W φ' (addF d H) w' ∧ HExt φ H φ' (addF d H) ∧ Rel W φ' (addF d H) v v' := by
  unfold appendZ at h
  split at h
  · cases h
  · rename_i hLid
    have hid := hfr hLid
    split at h
    · rename_i z td k b0 c0 g0 z0 n hz hu
      obtain ⟨e, he, hd, hzero⟩ := elemZero_ok hX hz
      have hu' := (hX u _ hu).kind
      simp only [KindOK] at hu'
      obtain ⟨i, i1, i2, i3, i4⟩ := (hX e td hd).info
      obtain ⟨zs1, zs2, zv, zs3, zs4⟩ := i4 _ hzero
      have hzr := zs4 W φ H
      simp only [Rel] at hzr
      obtain ⟨hzok, rfl⟩ := hzr
      split at h
      · rename_i c1
        have c1 := of_decide_eq_true c1
        split at h
        · rename_i hb
          simp only [Bool.and_eq_true] at hb
          obtain ⟨⟨hb1, hb2⟩, hb3⟩ := hb
          have hb2 : 1 ≤ i.bytes := by rw [i3]; exact Nat.le_of_ble_eq_true hb2
          have hb3 : 1 ≤ td.size := Nat.le_of_ble_eq_true hb3
          split at h
          · rename_i c2
            have c2 := of_decide_eq_true c2
            rw [← i3] at c2
            cases h
            simp only [Rel] at hx hy
            subst hx
            obtain ⟨_, rfl⟩ := hy
            simp only [PV.val, addF]
            have hsz : i.size = z.sh.size := by rw [i2]; exact (fits_size hb1).symm
            have hmul : n ≤ n * i.bytes := by
              have : n * 1 ≤ n * (i.bytes : Int) := Int.mul_le_mul_of_nonneg_left (by omega) c1
              omega
            have hwrap : IntKind.i64.wrap n = n := by rw [IntKind.wrap_i64]; omega
            have hn0 : ¬ (n < 0) := by omega
            have hbig : ¬ (281474976710656 < n * (i.bytes : Int)) := by omega
            have hszpos : i.size ≠ 0 := by omega
            have hzcells : Builtin.zeroCells z.val.cells n.toNat = (PV.cellsL (List.replicate n.toNat z)).toArray := by
              rw [← Array.toArray_toList (xs := Builtin.zeroCells _ _), cellsL_replicate]
              congr 1
              have := madeCells_replicate z.cells n.toNat
              rw [PV.cells_val]
              exact this
            by_cases h0 : n.toNat = 0
            · have : n = 0 := by omega
              subst this
              refine ⟨.slice none 0 0, w, upd φ id none, ?_, ?_⟩
              · simp [Builtin.append_, run_underlying he, run_underlying hu', sizeOf, typeInfo, i1, asInt, asIntOf, hwrap]
              · obtain ⟨g1, g2⟩ := hS.add (w' := w) (id := id) (blk := .els true z.sh (List.replicate (0 : Int).toNat z)) (pc := none) (Below.refl _ _) hid ⟨by simp [PV.okL], by simp [PV.allSh], by rw [upd_same]; simp⟩ (fun b c h => by cases h)
                refine ⟨g1, g2, ?_⟩
                simp only [Rel, upd_same]
                exact ⟨trivial, by simp⟩
            · have hneed : ¬ (n.toNat ≤ 0) := by omega
              have h63 : ¬ (9223372036854775807 < (n.toNat : Int)) := by omega
              have hnb : n.toNat * i.bytes ≤ 140737488351232 := by
                have : ((n.toNat * i.bytes : Nat) : Int) = n * i.bytes := by
                  rw [Int.natCast_mul, Int.toNat_of_nonneg c1]
                omega
              have hcap : ¬ (281474976710656 < Builtin.nextslicecap n.toNat 0 * i.bytes) := by
                rw [nextslicecap_zero (by omega)]
                omega
              have hge := grownCap_ge w n.toNat 0 e
              have hle := grownCap_le_maxLen w n.toNat 0 e (by unfold maxLen; omega)
              have hrun : (Builtin.append_ #[t, u] ty #[.slice none 0 0, .int .i64 n]).run P w =
                  .ok (.slice (some ⟨w.heap.size, 0, none⟩) n.toNat (grownCap w n.toNat 0 e)) (w.drew.alloc (.cells ((PV.cellsL (List.replicate n.toNat z)).toArray ++ Builtin.zeroCells z.val.cells (grownCap w n.toNat 0 e - n.toNat)) e)) := by
                have hmulz : ¬ (n.toNat * i.size = 0) := by
                  intro hh
                  rcases Nat.mul_eq_zero.1 hh with hh | hh <;> omega
                simp only [Builtin.append_, List.getElem?_toArray, List.getElem?_cons_zero, List.getElem?_cons_succ, Sem.run_bind, run_underlying he, run_underlying hu', Result.andThen_ok, info_size i1, Sem.run_pure, asInt, asIntOf, hwrap,
                  if_true, typeInfo, run_program, i1, Sem.run_ite, if_neg hn0]
                simp [hneed, hcap, Question.forced, Builtin.firstCells, hmulz, zeroValue, typeInfo, i1, zs3, hzcells, newRow, grownCap, hbig]
                intro hh
                exact absurd hh (by omega)
              refine ⟨_, _, upd φ id (some (w.heap.size, grownCap w n.toNat 0 e)), hrun, ?_⟩
              have hbel : Below w.heap.size w (w.drew.alloc (.cells ((PV.cellsL (List.replicate n.toNat z)).toArray ++ Builtin.zeroCells z.val.cells (grownCap w n.toNat 0 e - n.toNat)) e)) :=
                ((Below.refl w.heap.size w).drew).alloc (Nat.le_refl _) _
              have hml : (PV.cellsL (List.replicate n.toNat z)).length = n.toNat * z.sh.size := by
                rw [PV.cellsL_arr _ z.sh (okL_replicate hzok _) (allSh_replicate z _), List.length_replicate]
              obtain ⟨g1, g2⟩ := hS.add (id := id) (blk := .els true z.sh (List.replicate n.toNat z)) (pc := some (w.heap.size, grownCap w n.toNat 0 e)) hbel hid
                ⟨okL_replicate hzok _, allSh_replicate z _, by
                  rw [upd_same]
                  refine ⟨_, e, (0, 0), heap_alloc_new w.drew _, ?_, by simp; omega, hle, ?_, fun _ => rfl⟩
                  · have hzc : z.val.cells.size = z.sh.size := by rw [PV.cells_val, List.size_toArray, PV.cells_length z hzok]
                    simp only [Array.size_append, List.size_toArray, size_zeroCells, hzc, hml, ← Nat.add_mul]
                    rw [show n.toNat + (grownCap w n.toNat 0 e - n.toNat) = grownCap w n.toNat 0 e from by omega]
                    exact Nat.le_refl _
                  · simp only [Array.toList_append]
                    exact List.take_left' rfl⟩ (fun b c h => by cases h; exact Nat.le_refl _)
              refine ⟨g1, g2, ?_⟩
              simp only [Rel, upd_same]
              exact ⟨_, by simp, Nat.le_refl _, by simp; omega⟩
          · cases h
        · cases h
      · cases h
    · cases h

/-- A slice that so many zero values are appended to. -/
theorem append_coreZ (hS : HSim W φ H w) {t u e : TypeId} {i : TypeInfo} {z : PV} {ik : IntKind} (ht : P.underlying t = some (.slice e)) (hu : P.underlying u = some (.int ik)) (hi : P.info? e = some i) (hz : i.zero = some z.val)
    {o id n c : Nat} {l : List PV} {ao : Option Addr} {N : Int} (ho : H o = some (.els true z.sh l)) (hn : n = l.length) (hid : H id = none)
    (hs : i.size = z.sh.size) (hp : 1 ≤ i.size) (hb : 1 ≤ i.bytes) (hN : 0 ≤ N) (hbytes : (n + N.toNat) * i.bytes ≤ 140737488351232)
    (hdst : match φ o with
      | none => ao = none ∧ n = 0 ∧ c = 0 ∧ l = []
      | some (b, cap) => ao = some ⟨b, 0, none⟩ ∧ n ≤ c ∧ c ≤ cap)
    (hzok : z.ok) (hzc : ∀ k : Nat, Builtin.zeroCells z.val.cells k = (PV.cellsL (List.replicate k z)).toArray) (ty : TypeId) :
    ∃ v' w' φ', (Builtin.append_ #[t, u] ty #[.slice ao n c, .int .i64 N]).run P w = .ok v' w' ∧
      HSim W φ' (upd (upd H o (some .dead)) id (some (.els true z.sh (l ++ List.replicate N.toNat z)))) w' ∧ HExt φ H φ' (upd (upd H o (some .dead)) id (some (.els true z.sh (l ++ List.replicate N.toNat z)))) ∧
      Rel W φ' (upd (upd H o (some .dead)) id (some (.els true z.sh (l ++ List.replicate N.toNat z)))) (.own id) v' := by
  have hoi : id ≠ o := fun e => by rw [e, ho] at hid; cases hid
  obtain ⟨h1, h2, h3⟩ := hS.blk _ _ ho
  have hm1 : PV.okL (List.replicate N.toNat z) := okL_replicate hzok _
  have hm2 : PV.allSh z.sh (List.replicate N.toNat z) := allSh_replicate z _
  have hkl : (List.replicate N.toNat z).length = N.toNat := List.length_replicate
  have hNN : N = (N.toNat : Int) := (Int.toNat_of_nonneg hN).symm
  have hzc := hzc N.toNat
  have hmulN : N.toNat ≤ N.toNat * i.bytes := Nat.le_mul_of_pos_right _ hb
  have hmul0 : (n + N.toNat) * i.bytes = n * i.bytes + N.toNat * i.bytes := Nat.add_mul _ _ _
  have hwrap : IntKind.i64.wrap N = N := by rw [IntKind.wrap_i64]; omega
  have hn0 : ¬ (N < 0) := by omega
  have hbigb : ¬ (281474976710656 < N * (i.bytes : Int)) := by
    rw [hNN, ← Int.natCast_mul]
    omega
  generalize hk : N.toNat = k at *
  generalize hm : List.replicate k z = m at *
  have hlen : (l ++ m).length = n + k := by rw [List.length_append, hkl, hn]
  have hok : PV.okL (l ++ m) := (PV.okL_append _ _).2 ⟨h1, hm1⟩
  have hall : PV.allSh z.sh (l ++ m) := (PV.allSh_append _ _ _).2 ⟨h2, hm2⟩
  have hmul : n + k ≤ (n + k) * i.bytes := Nat.le_mul_of_pos_right _ hb
  have hbig : n + k ≤ maxLen := by unfold maxLen; omega
  have hnl : (PV.cellsL l).length = n * z.sh.size := by rw [PV.cellsL_arr _ z.sh h1 h2, hn]
  have hml : (PV.cellsL m).length = k * i.size := by rw [PV.cellsL_arr _ z.sh hm1 hm2, hs, hkl]
  have hzsz : z.val.cells.size = i.size := by rw [PV.cells_val, List.size_toArray, PV.cells_length z hzok, hs]
  have fresh : ∀ (w1 : World) (cap : Nat) (cs : Array Value), w1.heap = w.heap → w1.os = w.os → w1.tape = w.tape → w1.output = w.output → n + k ≤ cap → cap ≤ maxLen → cap * z.sh.size ≤ cs.size → cs.toList.take (PV.cellsL (l ++ m)).length = PV.cellsL (l ++ m) →
      HSim W (upd φ id (some (w.heap.size, cap))) (upd (upd H o (some .dead)) id (some (.els true z.sh (l ++ m)))) (w1.alloc (.cells cs e)) ∧
      HExt φ H (upd φ id (some (w.heap.size, cap))) (upd (upd H o (some .dead)) id (some (.els true z.sh (l ++ m)))) := by
    intro w1 cap cs hw1 e1 e2 e3 hcap hcap2 hcs htk
    obtain ⟨k1, k2⟩ := hS.kill ho (by simp [BlkLe])
    have hbel : Below w.heap.size w (w1.alloc (.cells cs e)) := by
      have : Below w.heap.size w w1 := ⟨e1, e2, e3, by rw [hw1]; exact Nat.le_refl _, fun k _ => by rw [hw1]⟩
      exact this.alloc (by rw [hw1]; exact Nat.le_refl _) _
    obtain ⟨g1, g2⟩ := k1.add (w' := w1.alloc (.cells cs e)) (id := id) (blk := .els true z.sh (l ++ m)) (pc := some (w.heap.size, cap)) hbel (by rw [upd_ne _ _ hoi]; exact hid)
      ⟨hok, hall, by
        rw [upd_same]
        refine ⟨cs, e, (0, 0), ?_, hcs, by rw [hlen]; exact hcap, hcap2, htk, fun _ => rfl⟩
        have := heap_alloc_new w1 (.cells cs e)
        rw [hw1] at this
        exact this⟩ (fun b c h => by cases h; exact Nat.le_refl _)
    exact ⟨g1, k2.trans g2⟩
  by_cases hk0 : k = 0
  · subst hk0
    have hm0 : m = [] := by rw [← hm]; rfl
    subst hm0
    have hrun0 : n ≤ c → (Builtin.append_ #[t, u] ty #[.slice ao n c, .int .i64 N]).run P w = .ok (.slice ao n c) w := fun hnc => by
      have hN0 : N = 0 := by omega
      subst hN0
      cases ao <;> simp [Builtin.append_, run_underlying ht, run_underlying hu, sizeOf, typeInfo, hi, asInt, asIntOf, hwrap, hnc, storeCells]
    simp only [List.append_nil]
    cases hφ : φ o with
    | none =>
      rw [hφ] at hdst
      obtain ⟨rfl, h0, rfl, rfl⟩ := hdst
      refine ⟨_, w, upd φ id none, hrun0 (by omega), ?_⟩
      obtain ⟨k1, k2⟩ := hS.kill ho (by simp [BlkLe])
      obtain ⟨g1, g2⟩ := k1.add (w' := w) (id := id) (blk := .els true z.sh []) (pc := none) (Below.refl _ _) (by rw [upd_ne _ _ hoi]; exact hid)
        ⟨trivial, trivial, by rw [upd_same]⟩ (fun b c h => by cases h)
      refine ⟨g1, k2.trans g2, ?_⟩
      simp only [Rel, upd_same]
      exact ⟨by rw [h0], trivial⟩
    | some p =>
      obtain ⟨b, cap⟩ := p
      rw [hφ] at hdst h3
      obtain ⟨rfl, hnc, hcc⟩ := hdst
      obtain ⟨cs, T, fr, h4, h5, h6, h7, h8, h9⟩ := h3
      have hfr := h9 rfl
      subst hfr
      refine ⟨_, w, upd φ id (some (b, cap)), hrun0 hnc, ?_⟩
      obtain ⟨g1, g2⟩ := hS.move (w' := w) (id := id) (blk' := .els true z.sh l) (c' := cap) ho (by simp) (by simp [BlkLe]) hφ hid rfl rfl rfl rfl (fun _ _ => rfl)
        ⟨h1, h2, by
          rw [upd_same]
          exact ⟨cs, T, (0, 0), h4, h5, h6, h7, h8, fun _ => rfl⟩⟩
      refine ⟨g1, g2, ?_⟩
      simp only [Rel, upd_same]
      exact ⟨c, by rw [hn], hcc, by omega⟩
  · have hmulz : ¬ (k * i.size = 0) := by
      intro hh
      rcases Nat.mul_eq_zero.1 hh with hh | hh <;> omega
    cases hφ : φ o with
    | none =>
      rw [hφ] at hdst
      obtain ⟨rfl, h0, rfl, rfl⟩ := hdst
      subst h0
      have hneed : ¬ (k ≤ 0) := by omega
      have h63 : ¬ (9223372036854775807 < (k : Int)) := by unfold maxLen at hbig; omega
      have hcap : ¬ (281474976710656 < Builtin.nextslicecap k 0 * i.bytes) := by
        rw [nextslicecap_zero (by omega)]
        omega
      have hrun : (Builtin.append_ #[t, u] ty #[.slice none 0 0, .int .i64 N]).run P w =
          .ok (.slice (some ⟨w.heap.size, 0, none⟩) k (grownCap w k 0 e)) (w.drew.alloc (.cells ((PV.cellsL m).toArray ++ Builtin.zeroCells z.val.cells (grownCap w k 0 e - k)) e)) := by
        simp only [Builtin.append_, List.getElem?_toArray, List.getElem?_cons_zero, List.getElem?_cons_succ, Sem.run_bind, run_underlying ht, run_underlying hu, Result.andThen_ok, info_size hi, Sem.run_pure, asInt, asIntOf, hwrap,
          if_true, typeInfo, run_program, hi, Sem.run_ite, if_neg hn0]
        simp [hk, hneed, hcap, Question.forced, Builtin.firstCells, hmulz, zeroValue, typeInfo, hi, hz, hzc, newRow, grownCap, hbigb]
        intro hh
        exact absurd hh (by omega)
      have hge := grownCap_ge w k 0 e
      have hle := grownCap_le_maxLen w k 0 e (by omega)
      obtain ⟨g1, g2⟩ := fresh w.drew (grownCap w k 0 e) ((PV.cellsL m).toArray ++ Builtin.zeroCells z.val.cells (grownCap w k 0 e - k)) rfl rfl rfl rfl (by omega) hle
        (by simp only [Array.size_append, List.size_toArray, size_zeroCells, hzsz, hml, hs, ← Nat.add_mul]; rw [show k + (grownCap w k 0 e - k) = grownCap w k 0 e from by omega]; exact Nat.le_refl _)
        (by simp only [List.nil_append, Array.toList_append]; exact List.take_left' rfl)
      refine ⟨_, _, _, hrun, g1, g2, ?_⟩
      simp only [Rel, upd_same]
      exact ⟨_, by rw [hlen, Nat.zero_add], Nat.le_refl _, by rw [hlen]; omega⟩
    | some p =>
      obtain ⟨b, cap⟩ := p
      rw [hφ] at hdst h3
      obtain ⟨rfl, hnc, hcc⟩ := hdst
      obtain ⟨cs, T, fr, h4, h5, h6, h7, h8, h9⟩ := h3
      have hfr := h9 rfl
      subst hfr
      have h11 : cs.toList.take (n * i.size) = PV.cellsL l := by rw [hs, ← hnl, h8]
      have hcsz : c * z.sh.size ≤ cs.size := Nat.le_trans (Nat.mul_le_mul_right _ hcc) h5
      by_cases hroom : n + k ≤ c
      · have hfit : n * i.size + (PV.cellsL m).length ≤ cs.size := by
          rw [hml, ← Nat.add_mul, hs]
          exact Nat.le_trans (Nat.mul_le_mul_right _ hroom) hcsz
        have hst := run_storeCells_at P b (n * i.size) T (PV.cellsL m) 0 cs w h4 (by simpa using hfit) (fun c hc => PV.cellsL_oneCell m c hc)
        simp only [Nat.add_zero] at hst
        have hrun : (Builtin.append_ #[t, u] ty #[.slice (some ⟨b, 0, none⟩) n c, .int .i64 N]).run P w =
            .ok (.slice (some ⟨b, 0, none⟩) (n + k) c) (w.setRow b (cs.toList.take (n * i.size) ++ PV.cellsL m ++ cs.toList.drop (n * i.size + (PV.cellsL m).length)).toArray) := by
          simp only [Builtin.append_, List.getElem?_toArray, List.getElem?_cons_zero, List.getElem?_cons_succ, Sem.run_bind, run_underlying ht, run_underlying hu, Result.andThen_ok, info_size hi, Sem.run_pure, asInt, asIntOf, hwrap,
            if_true, typeInfo, run_program, hi, Sem.run_ite, if_neg hn0]
          simp [hk, hroom, hmulz, zeroValue, typeInfo, hi, hz, hzc, hbigb, Addr.add_lit, hst]
        refine ⟨_, _, upd φ id (some (b, cap)), hrun, ?_⟩
        have hcsl : (cs.toList.take (n * i.size) ++ PV.cellsL m ++ cs.toList.drop (n * i.size + (PV.cellsL m).length)).length = cs.size := by
          simp only [List.length_append, List.length_take, List.length_drop, Array.length_toList]
          omega
        obtain ⟨g1, g2⟩ := hS.move (w' := w.setRow b (cs.toList.take (n * i.size) ++ PV.cellsL m ++ cs.toList.drop (n * i.size + (PV.cellsL m).length)).toArray) (id := id) (blk' := .els true z.sh (l ++ m)) (c' := cap)
          ho (by simp) (by simp [BlkLe]) hφ hid rfl rfl rfl (by simp) (fun k hk => setRow_other w b k _ hk)
          ⟨hok, hall, by
            rw [upd_same]
            refine ⟨_, T, (0, 0), setRow_heap w b _ _ T _ h4, by simp only [List.size_toArray]; rw [hcsl]; exact h5, by rw [hlen]; omega, h7, ?_, fun _ => rfl⟩
            rw [h11, PV.cellsL_append]
            exact List.take_left' rfl⟩
        refine ⟨g1, g2, ?_⟩
        simp only [Rel, upd_same]
        exact ⟨c, by rw [hlen], hcc, by rw [hlen]; exact hroom⟩
      · have holds : RowAt w ⟨b, 0, none⟩ (PV.cellsL (l.take n)) := by
          have := els_at h4 h8 h1 h2 (off := 0) (n := n) (by omega)
          simpa using this
        have htk : l.take n = l := List.take_of_length_le (by omega)
        rw [htk] at holds
        have hfo := run_firstCells_some (P := P) w.drew i.size n ⟨b, 0, none⟩ n c (PV.cellsL l) (by rw [hnl, hs]) (fun j v hj => by simpa using holds j v hj)
        have hneed : ¬ (n + k ≤ c) := hroom
        have h63 : ¬ (9223372036854775807 < ((n : Int) + (k : Int))) := by unfold maxLen at hbig; omega
        have hcap : ¬ (281474976710656 < Builtin.nextslicecap (n + k) c * i.bytes) := by
          have := growslice_fits (need := n + k) (old := c) (bytes := i.bytes) (by omega) (by omega)
          omega
        have hrun : (Builtin.append_ #[t, u] ty #[.slice (some ⟨b, 0, none⟩) n c, .int .i64 N]).run P w =
            .ok (.slice (some ⟨w.heap.size, 0, none⟩) (n + k) (grownCap w (n + k) c e)) (w.drew.alloc (.cells ((PV.cellsL l).toArray ++ (PV.cellsL m).toArray ++ Builtin.zeroCells z.val.cells (grownCap w (n + k) c e - (n + k))) e)) := by
          simp only [Builtin.append_, List.getElem?_toArray, List.getElem?_cons_zero, List.getElem?_cons_succ, Sem.run_bind, run_underlying ht, run_underlying hu, Result.andThen_ok, info_size hi, Sem.run_pure, asInt, asIntOf, hwrap,
            if_true, typeInfo, run_program, hi, Sem.run_ite, if_neg hn0]
          simp [hk, hneed, h63, hcap, Question.forced, hmulz, zeroValue, typeInfo, hi, hz, hzc, newRow, grownCap, hbigb, hfo]
          congr 2
          apply Array.ext'
          simp [List.append_assoc]
        have hge := grownCap_ge w (n + k) c e
        have hle := grownCap_le_maxLen w (n + k) c e hbig
        obtain ⟨g1, g2⟩ := fresh w.drew (grownCap w (n + k) c e) ((PV.cellsL l).toArray ++ (PV.cellsL m).toArray ++ Builtin.zeroCells z.val.cells (grownCap w (n + k) c e - (n + k))) rfl rfl rfl rfl hge hle
          (by simp only [Array.size_append, List.size_toArray, size_zeroCells, hzsz, hml, hs, hnl, ← Nat.add_mul]; rw [show n + k + (grownCap w (n + k) c e - (n + k)) = grownCap w (n + k) c e from by omega]; exact Nat.le_refl _)
          (by simp only [Array.toList_append, PV.cellsL_append]; exact List.take_left' rfl)
        refine ⟨_, _, _, hrun, g1, g2, ?_⟩
        simp only [Rel, upd_same]
        exact ⟨_, by rw [hlen], Nat.le_refl _, by rw [hlen]; omega⟩

theorem appendY_ok (hX : X.ok P) (hS : HSim W φ H w) (hL : SubH L H) {id t u : Nat} (hfr : L id = none → H id = none) {x y v : AV} {xv yv : Value} {d : Delta} (hx : Rel W φ H x xv) (hy : Rel W φ H y yv)
    (h : appendY X L id t u x y = some (v, d)) (ty : TypeId) :
    ∃ v' w' φ', (Builtin.append_ #[t, u] ty #[xv, yv]).run P w = .ok v' w' ∧ HSim W φ' (addF d H) w' ∧ HExt φ H φ' (addF d H) ∧ Rel W φ' (addF d H) v v' := by
  unfold appendY at h
  split at h
  · cases h
  · rename_i hLid
    have hid := hfr hLid
    split at h
    · rename_i z td k b0 c0 g0 z0 o n hz hu
      obtain ⟨e, he, hd, hzero⟩ := elemZero_ok hX hz
      have hu' := (hX u _ hu).kind
      simp only [KindOK] at hu'
      obtain ⟨i, i1, i2, i3, i4⟩ := (hX e td hd).info
      obtain ⟨zs1, zs2, zv, zs3, zs4⟩ := i4 _ hzero
      have hzr := zs4 W φ H
      simp only [Rel] at hzr
      obtain ⟨hzok, rfl⟩ := hzr
      split at h
      · rename_i s l hLo
        have hHo := hL _ _ hLo
        split at h
        · rename_i c1
          have c1 := of_decide_eq_true c1
          split at h
          · rename_i hb
            simp only [Bool.and_eq_true] at hb
            obtain ⟨⟨⟨hb0, hb1⟩, hb2⟩, hb3⟩ := hb
            have hss := Sh.eq_of_beq _ _ hb0
            subst hss
            have hb2 : 1 ≤ i.bytes := by rw [i3]; exact Nat.le_of_ble_eq_true hb2
            have hb3 : 1 ≤ td.size := Nat.le_of_ble_eq_true hb3
            split at h
            · rename_i c2
              have c2 := of_decide_eq_true c2
              rw [← i3] at c2
              cases h
              simp only [Rel, hHo] at hx
              simp only [Rel] at hy
              obtain ⟨_, rfl⟩ := hy
              simp only [PV.val, addF]
              have hsz : i.size = z.sh.size := by rw [i2]; exact (fits_size hb1).symm
              have hzc : ∀ k : Nat, Builtin.zeroCells z.val.cells k = (PV.cellsL (List.replicate k z)).toArray := fun k => by
                rw [← Array.toArray_toList (xs := Builtin.zeroCells _ _), cellsL_replicate]
                congr 1
                have := madeCells_replicate z.cells k
                rw [PV.cells_val]
                exact this
              split at hx
              · rename_i hφ
                obtain ⟨rfl, rfl⟩ := hx
                exact append_coreZ hS (n := 0) (c := 0) (ao := none) (l := []) he hu' i1 zs3 hHo rfl hid hsz (by omega) hb2 c1 c2 (by rw [hφ]; exact ⟨rfl, rfl, rfl, rfl⟩) hzok hzc ty
              · rename_i b cap hφ
                obtain ⟨c, rfl, r1, r2⟩ := hx
                exact append_coreZ hS (n := l.length) (c := c) (ao := some ⟨b, 0, none⟩) he hu' i1 zs3 hHo rfl hid hsz (by omega) hb2 c1 c2 (by rw [hφ]; exact ⟨rfl, r2, r1⟩) hzok hzc ty
            · cases h
          · cases h
        · cases h
      · cases h
    · cases h

theorem bytesOf_cells (s : ByteArray) : PV.cellsL (bytesOf s) = s.data.toList.map fun b => Value.int .u8 b.toNat := by
  unfold bytesOf
  induction s.data.toList with
  | nil => rfl
  | cons b l ih => simp only [List.map_cons, PV.cellsL, PV.cells, ih, List.cons_append, List.nil_append]

theorem strBytesV_ok (hX : X.ok P) (hS : HSim W φ H w) {id src dst : Nat} (hfr : L id = none → H id = none) {s : ByteArray} {v : AV} {d : Delta} (hs : P.underlying src = some .string)
    (h : strBytesV X L id dst s = some (v, d)) :
    ∃ v' w' φ', (convert src dst (.string s)).run P w = .ok v' w' ∧ HSim W φ' (addF d H) w' ∧ HExt φ H φ' (addF d H) ∧ Rel W φ' (addF d H) v v' := by
  unfold strBytesV at h
  split at h
  · cases h
  · rename_i hLid
    have hid := hfr hLid
    split at h
    · rename_i e _ _ _ _ hd
      have hd' := (hX dst _ hd).kind
      simp only [KindOK] at hd'
      split at h
      · rename_i _ _ _ _ he
        have he' := (hX e _ he).kind
        simp only [KindOK] at he'
        split at h
        · rename_i hsz
          have hsz := of_decide_eq_true hsz
          cases h
          have hrun := run_bytes_of_string (P := P) w src dst e s hs hd' he'
          have hge := grownCap_ge w s.size 0 e
          have hle := grownCap_le_maxLen w s.size 0 e (by unfold maxLen; omega)
          refine ⟨_, _, upd φ id (some (w.heap.size, grownCap w s.size 0 e)), hrun, ?_⟩
          have hll : (bytesOf s).length = s.size := by
            simp only [bytesOf, List.length_map, Array.length_toList]
            rfl
          have hok : PV.okL (bytesOf s) := by
            unfold bytesOf
            induction s.data.toList with
            | nil => trivial
            | cons b l ih => exact ⟨trivial, ih⟩
          have hall : PV.allSh (.int .u8) (bytesOf s) := by
            unfold bytesOf
            induction s.data.toList with
            | nil => trivial
            | cons b l ih => exact ⟨rfl, ih⟩
          have hcl : (PV.cellsL (bytesOf s)).length = s.size := by
            rw [bytesOf_cells, List.length_map, Array.length_toList]
            rfl
          have hrs : (bytesRow s (grownCap w s.size 0 e)).size = grownCap w s.size 0 e := by
            have : s.data.size = s.size := rfl
            simp only [bytesRow, Array.size_append, Array.size_map, Array.size_replicate, this]
            omega
          have hbel : Below w.heap.size w (w.drew.alloc (.cells (bytesRow s (grownCap w s.size 0 e)) e ((bytesRow s (grownCap w s.size 0 e)).size, (bytesRow s (grownCap w s.size 0 e)).size + 1))) :=
            ((Below.refl w.heap.size w).drew).alloc (Nat.le_refl _) _
          simp only [addF]
          obtain ⟨g1, g2⟩ := hS.add (id := id) (blk := .els false (.int .u8) (bytesOf s)) (pc := some (w.heap.size, grownCap w s.size 0 e)) hbel hid
            ⟨hok, hall, by
              rw [upd_same]
              refine ⟨_, e, _, heap_alloc_new w.drew _, ?_, by rw [hll]; exact hge, hle, ?_, fun hh => by cases hh⟩
              · rw [hrs]
                simp [Sh.size]
              · rw [hcl, bytesOf_cells]
                simp only [bytesRow, Array.toList_append, Array.toList_map]
                exact List.take_left' (by simp)⟩ (fun b c h => by cases h; exact Nat.le_refl _)
          refine ⟨g1, g2, ?_⟩
          simp only [Rel, upd_same]
          exact ⟨_, by rw [hll], Nat.le_refl _, by rw [hll]; exact hge⟩
        · cases h
      · cases h
    · cases h

theorem convSlV_ok (hX : X.ok P) (hS : HSim W φ H w) (hL : SubH L H) {src dst : Nat} {x : AV} {xv : Value} {v : AV} {d : Delta} (hx : Rel W φ H x xv) (h : convSlV X L src dst x = some (v, d)) :
    ∃ v' w' φ', (convert src dst xv).run P w = .ok v' w' ∧ HSim W φ' (addF d H) w' ∧ HExt φ H φ' (addF d H) ∧ Rel W φ' (addF d H) v v' := by
  unfold convSlV at h
  split at h
  · rename_i hsd
    obtain rfl := Nat.eq_of_beq_eq_true hsd
    split at h
    · rename_i e _ _ _ _ hs
      have hs' := (hX src _ hs).kind
      simp only [KindOK] at hs'
      split at h
      · rename_i _ _ _ _ he
        have he' := (hX e _ he).kind
        simp only [KindOK] at he'
        split at h
        · rename_i id
          split at h
          · rename_i rw s y l hLid
            cases h
            have hH := hL _ _ hLid
            simp only [Rel] at hx
            rw [hH] at hx
            simp only at hx
            obtain ⟨h1, h2, h3⟩ := hS.blk id _ hH
            split at hx
            · cases hx.2
            · rename_i b cap hφ
              obtain ⟨c, rfl, hc1, hc2⟩ := hx
              rw [hφ] at h3
              obtain ⟨cs, T, fr, g1, g2, g3, g4, g5, _⟩ := h3
              have hsh : w.shape? b = some (T, cs.size) := by unfold World.shape?; rw [g1]
              have hfz : (w.freeze ⟨b, cs.size, none⟩ 1).heap = w.heap.modify b fun
                  | .cells c elem (lo, hi) => .cells c elem (if lo == hi then (cs.size, cs.size + 1) else (min lo cs.size, max hi (cs.size + 1)))
                  | o => o := rfl
              obtain ⟨lo, hi⟩ := fr
              have hnew : (w.freeze ⟨b, cs.size, none⟩ 1).heap[b]? = some (.cells cs T (if lo == hi then (cs.size, cs.size + 1) else (min lo cs.size, max hi (cs.size + 1)))) := by
                rw [hfz, Array.getElem?_modify, if_pos rfl, g1]
                rfl
              refine ⟨.slice (some ⟨b, 0, none⟩) (y :: l).length c, w.freeze ⟨b, cs.size, none⟩ 1, φ, ?_, ?_⟩
              · simp [convert, run_underlying hs', run_underlying he', markStringish, hsh, Result.andThen]
              · simp only [addF]
                obtain ⟨k1, k2⟩ := hS.mod (w' := w.freeze ⟨b, cs.size, none⟩ 1) (blk' := .els false s (y :: l)) hH (by simp) hφ rfl rfl rfl (by rw [hfz]; simp)
                  (fun k hk => by rw [hfz, Array.getElem?_modify, if_neg (Ne.symm hk)]) ⟨rfl, rfl⟩
                  ⟨h1, h2, by rw [hφ]; exact ⟨cs, T, _, hnew, g2, g3, g4, g5, fun hh => by cases hh⟩⟩
                refine ⟨k1, k2, ?_⟩
                simp only [Rel, upd_same, hφ]
                exact ⟨c, rfl, hc1, hc2⟩
          · cases h
        · cases h
      · cases h
    · cases h
  · cases h

theorem val_arr (n : Nat) (s : Sh) (l : List PV) : (PV.arr n s l).val = .agg (PV.cellsL l).toArray := rfl
theorem val_i (k : IntKind) (n : Int) : (PV.i k n).val = .int k n := rfl

theorem outcome_of {s : Sem Value} {v : AV} {d : Delta} (h : ∃ v' w' φ', s.run P w = .ok v' w' ∧ HSim W φ' (addF d H) w' ∧ HExt φ H φ' (addF d H) ∧ Rel W φ' (addF d H) v v') :
    Outcome P W φ H (do pure (.value (← s)) : Sem Next) w v d := by
  obtain ⟨v', w', φ', h1, h2, h3, h4⟩ := h
  exact ⟨w', φ', v', .inl (by simp [h1]), h2, h3, h4⟩

theorem outcome_same {s : Sem Value} {v : AV} (hS : HSim W φ H w) (h : ∃ v', s.run P w = .ok v' w ∧ Rel W φ H v v') : Outcome P W φ H (do pure (.value (← s)) : Sem Next) w v [] := by
  obtain ⟨v', h1, h2⟩ := h
  exact outcome_of ⟨v', w, φ, h1, hS, HExt.refl _ _, h2⟩

/-- A new variable. -/
theorem newVar_ok (hS : HSim W φ H w) {id : Nat} (hid : H id = none) {x : AV} {v : Value} (hx : Rel W φ H x v) (hs : x.stays = true) (t : TypeId) :
    ∃ v' w' φ', (do pure (.pointer (some (← newVar t v))) : Sem Value).run P w = .ok v' w' ∧ HSim W φ' (addF [(id, .var x)] H) w' ∧ HExt φ H φ' (addF [(id, .var x)] H) ∧ Rel W φ' (addF [(id, .var x)] H) (.ptr id []) v' := by
  refine ⟨.pointer (some ⟨w.heap.size, 0, none⟩), w.alloc (.cells v.cells t), upd φ id (some (w.heap.size, 0)), by simp [newVar, newRow], ?_⟩
  simp only [addF]
  have heE : HExt φ H (upd φ id (some (w.heap.size, 0))) (upd H id (some (.var x))) := fun j y hy => by
    have hne : j ≠ id := fun e => by rw [e, hid] at hy; cases hy
    exact ⟨upd_ne _ _ hne, y, (upd_ne _ _ hne).trans hy, BlkLe.refl y⟩
  obtain ⟨g1, g2⟩ := hS.add (w' := w.alloc (.cells v.cells t)) (id := id) (blk := .var x) (pc := some (w.heap.size, 0)) ((Below.refl w.heap.size w).alloc (Nat.le_refl _) _) hid
    ⟨hs, w.heap.size, 0, _, t, v, upd_same _ _ _, heap_alloc_new w _, Rel.mono heE _ _ hx, rfl⟩ (fun b c h => by cases h; exact Nat.le_refl _)
  refine ⟨g1, g2, ?_⟩
  simp only [Rel, upd_same]
  exact ⟨_, _, 0, rfl, by cases x.sh <;> rfl, rfl⟩

theorem builtinV_ok (hX : X.ok P) (hS : HSim W φ H w) (hL : SubH L H) {id : Nat} (hfr : L id = none → H id = none) {b : Builtin} {ts : Array Nat} {args : List AV} {vals : List Value} (hr : RelL W φ H args vals)
    {v : AV} {d : Delta} (h : builtinV X L id b ts.toList args = some (v, d)) (ty : TypeId) (cs : Array Bool) : Outcome P W φ H (Go.builtin b ts ty cs vals.toArray) w v d := by
  obtain ⟨ts⟩ := ts
  unfold builtinV at h
  split at h
  · split at h
    · rename_i t x hts
      subst hts
      obtain ⟨xv, rfl⟩ : ∃ xv, vals = [xv] := by
        cases vals with
        | nil => simp [RelL] at hr
        | cons a vs => cases vs with
          | nil => exact ⟨a, rfl⟩
          | cons b vs => simp [RelL] at hr
      simp only [RelL] at hr
      split at h
      · rename_i n hn
        cases h
        exact outcome_same hS ⟨_, lenT_ok hX hL hr.1 hn ty, Rel.plain (x := .i .i64 n) trivial⟩
      · cases h
    · cases h
  · split at h
    · rename_i t x hts
      subst hts
      obtain ⟨xv, rfl⟩ : ∃ xv, vals = [xv] := by
        cases vals with
        | nil => simp [RelL] at hr
        | cons a vs => cases vs with
          | nil => exact ⟨a, rfl⟩
          | cons b vs => simp [RelL] at hr
      simp only [RelL] at hr
      split at h
      · rename_i hsl
        obtain ⟨e, he, _⟩ := isSlice_ok hX hsl
        split at h
        · rename_i n hn
          cases h
          unfold capV at hn
          split at hn
          · cases hn
            have hx := hr.1
            simp only [Rel] at hx
            subst hx
            refine outcome_same hS ⟨.int .i64 0, ?_, Rel.plain (x := .i .i64 0) trivial⟩
            simp [Builtin.cap_, run_underlying he, goInt]
          · cases hn
        · cases h
      · cases h
    · cases h
  · split at h
    · rename_i x r
      obtain ⟨xv, vs, rfl⟩ : ∃ xv vs, vals = xv :: vs := by
        cases vals with
        | nil => simp [RelL] at hr
        | cons a vs => exact ⟨a, vs, rfl⟩
      simp only [RelL] at hr
      split at h
      · rename_i y hy
        cases h
        exact outcome_same hS (fold_max_ok hr.1 hr.2 hy)
      · cases h
    · cases h
  · split at h
    · rename_i x r
      obtain ⟨xv, vs, rfl⟩ : ∃ xv vs, vals = xv :: vs := by
        cases vals with
        | nil => simp [RelL] at hr
        | cons a vs => exact ⟨a, vs, rfl⟩
      simp only [RelL] at hr
      split at h
      · rename_i y hy
        cases h
        exact outcome_same hS (fold_min_ok hr.1 hr.2 hy)
      · cases h
    · cases h
  · split at h
    · rename_i t u x y hts
      subst hts
      obtain ⟨xv, yv, rfl⟩ : ∃ xv yv, vals = [xv, yv] := by
        cases vals with
        | nil => simp [RelL] at hr
        | cons a vs => cases vs with
          | nil => simp [RelL] at hr
          | cons b vs => cases vs with
            | nil => exact ⟨a, b, rfl⟩
            | cons c vs => simp [RelL] at hr
      simp only [RelL] at hr
      split at h
      · exact outcome_of (appendV_ok hX hS hL hfr hr.1 hr.2.1 h ty)
      · split at h
        · exact outcome_of (appendY_ok hX hS hL hfr hr.1 hr.2.1 h ty)
        · exact outcome_of (appendZ_ok hX hS hfr hr.1 hr.2.1 h ty)
    · cases h
  · split at h
    · rename_i t u x y hts
      subst hts
      obtain ⟨xv, yv, rfl⟩ : ∃ xv yv, vals = [xv, yv] := by
        cases vals with
        | nil => simp [RelL] at hr
        | cons a vs => cases vs with
          | nil => simp [RelL] at hr
          | cons b vs => cases vs with
            | nil => exact ⟨a, b, rfl⟩
            | cons c vs => simp [RelL] at hr
      simp only [RelL] at hr
      exact outcome_of (copyV_ok hX hS hL hr.1 hr.2.1 h ty)
    · cases h
  · cases h

set_option maxHeartbeats 4000000 in
theorem isMapSB_ok (hX : X.ok P) {t : Nat} (h : isMapSB X t = true) : ∃ k e, P.underlying t = some (.map k e) ∧ P.underlying k = some .string ∧ ∀ w, (zeroValue e).run P w = .ok (.bool false) w := by
  unfold isMapSB at h
  split at h
  · rename_i k e _ _ _ _ ht
    split at h
    · rename_i hk he
      have h1 := (hX _ _ ht).kind
      have h2 := (hX _ _ hk).kind
      obtain ⟨i, i1, i2, i3, i4⟩ := (hX _ _ he).info
      obtain ⟨zs1, zs2, zv, zs3, zs4⟩ := i4 _ rfl
      have := zs4 default (fun _ => none) (fun _ => none)
      simp only [Rel, PV.val] at this
      refine ⟨k, e, h1, h2, fun w => ?_⟩
      rw [zero_run i1 zs3, this.2]
    · cases h
  · cases h

theorem sameNow_str (s u : ByteArray) : Instr.sameNow .string (.string s) (.string u) = some (s == u) := rfl

theorem findNow_mp {s : ByteArray} : ∀ {l : List ByteArray} {es : List MapEntry} (i : Nat), es.map (fun e => (e.key, e.val)) = l.map (fun s => (Value.string s, Value.bool true)) →
    (hasK s l = false → Instr.findNow .string (.string s) es i = some none) ∧
    (hasK s l = true → ∃ j, Instr.findNow .string (.string s) es i = some (some (i + j, .bool true)) ∧ ∃ e, es[j]? = some e ∧ e.key = .string s ∧ e.val = .bool true)
  | [], [], i, _ => ⟨fun _ => rfl, fun h => by simp [hasK] at h⟩
  | [], e :: es, i, h => by simp at h
  | u :: l, [], i, h => by simp at h
  | u :: l, e :: es, i, h => by
    simp only [List.map_cons, List.cons.injEq, Prod.mk.injEq] at h
    obtain ⟨⟨h1, h2⟩, h3⟩ := h
    obtain ⟨ih1, ih2⟩ := findNow_mp (s := s) (i + 1) h3
    simp only [Instr.findNow, h1, sameNow_str, hasK]
    cases hs : s == u with
    | true =>
      refine ⟨fun h => by simp at h, fun _ => ⟨0, ?_, e, by simp, ?_, h2⟩⟩
      · simp [h2]
      · rw [h1]; congr 1; exact ((MapKept.bytes_beq _ _).1 hs).symm
    | false =>
      simp only [Bool.false_or]
      refine ⟨ih1, fun hk => ?_⟩
      obtain ⟨j, q1, e', q2, q3⟩ := ih2 hk
      exact ⟨j + 1, by rw [q1]; simp; omega, e', by simpa using q2, q3⟩

theorem checkKey_str {k : Nat} (hk : P.underlying k = some .string) (b : Bool) (s : ByteArray) (w : World) : (Instr.checkKey b 10000 k (.string s)).run P w = .ok () w := by
  exact MapKept.run_checkKey hk (by simp [MapKept.IsKey]) b 9999

theorem mapLook_ok (hX : X.ok P) {t : Nat} (hm : isMapSB X t = true) {id b c : Nat} {l : List ByteArray} (hb : BlkOK W φ H w id (.mp l)) (hφ : φ id = some (b, c)) (s : ByteArray) :
    (Instr.lookup t (.map (some b)) (.string s) false).run P w = .ok (.bool (hasK s l)) w := by
  obtain ⟨k, e, h1, h2, h3⟩ := isMapSB_ok hX hm
  obtain ⟨b', c', es, clock, g1, g2, g3⟩ := hb
  rw [hφ] at g1
  cases g1
  obtain ⟨f1, f2⟩ := findNow_mp (s := s) 0 g3
  have hg : (getObj b).run P w = .ok (.map es clock) w := by simp [getObj, Sem.run, g2]
  simp only [Instr.lookup, Sem.run_bind, run_underlying h1, Result.andThen_ok, hg, Sem.run_pure, checkKey_str h2, Instr.findKey, run_underlying h2]
  cases hs : hasK s l with
  | false => simp [f1 hs, h3]
  | true =>
    obtain ⟨j, q1, _⟩ := f2 hs
    simp [q1]

theorem mapPut_ok (hX : X.ok P) {t : Nat} (hm : isMapSB X t = true) (hS : HSim W φ H w) {id b c : Nat} {l : List ByteArray} (hi : H id = some (.mp l)) (hφ : φ id = some (b, c)) (s : ByteArray) :
    ∃ w', (Instr.mapUpdate t (.map (some b)) (.string s) (.bool true)).run P w = .ok () w' ∧ HSim W φ (upd H id (some (.mp (addKey s l)))) w' ∧ HExt φ H φ (upd H id (some (.mp (addKey s l)))) := by
  obtain ⟨k, e, h1, h2, h3⟩ := isMapSB_ok hX hm
  obtain ⟨b', c', es, clock, g1, g2, g3⟩ := hS.blk _ _ hi
  rw [hφ] at g1
  cases g1
  obtain ⟨f1, f2⟩ := findNow_mp (s := s) 0 g3
  have hg : (getObj b).run P w = .ok (.map es clock) w := by simp [getObj, Sem.run, g2]
  have hset : ∀ o : Obj, (setObj b o).run P w = .ok () (w.putObj b o) := fun o => by simp [setObj, Sem.run, g2, World.putObj]
  have hlt : b < w.heap.size := (Array.getElem?_eq_some_iff.1 g2).1
  have fin : ∀ (es' : Array MapEntry) (clock' : Nat), es'.toList.map (fun e => (e.key, e.val)) = (addKey s l).map (fun s => (Value.string s, Value.bool true)) →
      HSim W φ (upd H id (some (.mp (addKey s l)))) (w.putObj b (.map es' clock')) ∧ HExt φ H φ (upd H id (some (.mp (addKey s l)))) := fun es' clock' hes => by
    exact hS.mod hi (by simp) hφ rfl rfl rfl (by simp) (fun k hk => World.putObj_heap_other hk) trivial ⟨b, c, es', clock', hφ, World.putObj_heap_same hlt, hes⟩
  cases hs : hasK s l with
  | false =>
    refine ⟨w.putObj b (.map (es.push { key := .string s, val := .bool true, born := clock }) (clock + 1)), ?_, fin _ _ ?_⟩
    · simp only [Instr.mapUpdate, Sem.run_bind, run_underlying h1, Result.andThen_ok, hg, checkKey_str h2, Instr.findKey, run_underlying h2, f1 hs, Sem.run_pure, hset]
    · simp [addKey, hs, g3]
  | true =>
    obtain ⟨j, q1, e0, q2, q3, q4⟩ := f2 hs
    rw [Nat.zero_add] at q1
    have q2' : es[j]? = some e0 := by simpa using q2
    refine ⟨w.putObj b (.map (es.modify j fun e => { e with key := .string s, val := .bool true }) clock), ?_, fin _ _ ?_⟩
    · have hk : (Instr.keyThatStays (.string s) (.string s)).run P w = .ok (.string s) w := MapKept.run_keyThatStays (d := .string) (by simp [MapKept.IsKey])
      simp only [Instr.mapUpdate, Sem.run_bind, run_underlying h1, Result.andThen_ok, hg, checkKey_str h2, Instr.findKey, run_underlying h2, q1, Sem.run_pure, q2', Option.map_some, Option.getD_some, q3, hk, hset]
    · simp only [addKey, hs]
      rw [← g3]
      refine List.ext_getElem? fun n => ?_
      simp only [Array.toList_modify, List.getElem?_map, List.getElem?_modify]
      by_cases hn : j = n
      · subst hn
        simp [q2, q3, q4]
      · simp [hn]

theorem bytes_ints : ∀ {l : List PV}, PV.allSh (.int .u8) l → ∃ ns : List Int, l = ns.map (.i .u8)
  | [], _ => ⟨[], rfl⟩
  | x :: l, h => by
    simp only [PV.allSh] at h
    obtain ⟨ns, rfl⟩ := bytes_ints h.2
    cases x <;> simp [PV.sh] at h
    rename_i k n
    obtain ⟨rfl, _⟩ := h
    exact ⟨n :: ns, rfl⟩

theorem cellsL_u8 (ns : List Int) : PV.cellsL (ns.map (.i .u8)) = ns.map (Value.int .u8) := by
  induction ns with
  | nil => rfl
  | cons n ns ih => simp [PV.cellsL, PV.cells, ih]

theorem foldl_push : ∀ (ns : List Int) (s : ByteArray), ns.foldl (fun r n => r.push (UInt8.ofNat n.toNat)) s = ⟨s.data ++ (ns.map fun n => UInt8.ofNat n.toNat).toArray⟩
  | [], s => by simp
  | n :: ns, s => by
    rw [List.foldl_cons, foldl_push ns]
    simp [ByteArray.push]

theorem strOf_ints (ns : List Int) : ns.foldl (fun r n => r.push (UInt8.ofNat n.toNat)) ByteArray.empty = strOf (ns.map (.i .u8)) := by
  rw [foldl_push]
  have : (ByteArray.empty).data = #[] := rfl
  rw [this]
  simp [strOf, byteOf, Function.comp_def]

theorem bytesStr_ok {l : List PV} {v : Value} {src dst e : TypeId} (h : Rel w (fun _ => none) (fun _ => none) (.ro (.int .u8) l) v)
    (hs : P.underlying src = some (.slice e)) (he : P.underlying e = some (.int .u8)) (hd : P.underlying dst = some .string) : (convert src dst v).run P w = .ok (.string (strOf l)) w := by
  simp only [Rel] at h
  obtain ⟨ao, c, rfl, _, h2, h3, h4⟩ := h
  obtain ⟨ns, rfl⟩ := bytes_ints h3
  rw [run_convert_bytes_string w src dst e ao _ c hs he hd, ← strOf_ints]
  cases ao with
  | none =>
    rcases h4 with h4 | ⟨ad, h4, _⟩
    · have : ns = [] := by simpa using h4
      subst this
      rfl
    · cases h4
  | some ad =>
    refine run_bytesToString w ad _ c ns ?_
    rw [cellsL_u8] at h4
    have hrow : RowAt w ad (ns.map (Value.int .u8)) := by
      rcases h4 with h4 | ⟨ad', h4, h5⟩
      · have : ns = [] := by simpa using h4
        subst this
        intro j c hj
        simp at hj
      · cases h4; exact h5
    have := run_loadCells_list (P := P) w ad (ns.map (Value.int .u8)) hrow
    simpa using this

set_option maxHeartbeats 2000000 in
theorem opV_ok (hX : X.ok P) (hG : GlobOK W X.G) (hS : HSim W φ H w) (hL : SubH L H) (he : EnvOK W φ H ρ a) {fid : Nat → Nat} {o : Oper} (hfr : L (fid ((o.dst.getD 0) * 8)) = none → H (fid ((o.dst.getD 0) * 8)) = none)
    {v : AV} {d : Delta} (h : opV X ρ L fid o = some (v, d)) : Outcome P W φ H (execOp a.eval o) w v d := by
  obtain ⟨dst, op, ty, pos, after, guard⟩ := o
  unfold opV at h
  simp only at h hfr
  cases op <;> (try simp only at h) <;> try (cases h; done)
  all_goals simp only [execOp]
  case move x => cases h; exact Outcome.pure hS rfl (ev_ok hG he x)
  case assign x => cases h; exact Outcome.pure hS rfl (ev_ok hG he x)
  case pick c p q =>
    split at h
    · rename_i y hc
      have hcv := ev_ok hG he c
      rw [hc] at hcv
      simp only [Rel] at hcv
      obtain ⟨_, hcv⟩ := hcv
      rw [hcv]
      simp only [PV.val]
      split at h
      · cases h; exact Outcome.pure hS (by simp [asBool]) (ev_ok hG he p)
      · cases h; exact Outcome.pure hS (by simp [asBool]) (ev_ok hG he q)
    · cases h
  case alloc t =>
    split at h
    · rename_i z hz
      split at h
      · rename_i hl
        cases h
        unfold zeroOf at hz
        split at hz
        · rename_i k b c g zz hd
          subst hz
          obtain ⟨i, i1, i2, i3, i4⟩ := (hX t _ hd).info
          obtain ⟨zs1, zs2, zv, zs3, zs4⟩ := i4 _ rfl
          have := newVar_ok (P := P) hS (hfr hl) (zs4 W φ H) zs1 t
          obtain ⟨v', w', φ', g1, g2, g3, g4⟩ := this
          refine ⟨w', φ', v', .inl ?_, g2, g3, g4⟩
          simp only [Sem.run_bind, Sem.run_pure] at g1
          simp only [Instr.alloc, Sem.run_bind, zero_run i1 zs3, Result.andThen_ok, Sem.run_pure]
          rw [g1]
          rfl
        · cases hz
      · cases h
    · cases h
  case box t x =>
    split at h
    · rename_i hs
      split at h
      · rename_i hl
        cases h
        exact outcome_of (newVar_ok (P := P) hS (hfr hl) (ev_ok hG he x) hs t)
      · cases h
    · cases h
  case build t parts =>
    split at h
    · rename_i r hr
      cases h
      refine outcome_same hS (buildV_ok hX (vals := parts.map fun (i, x) => (i, a.eval x)) ?_ hr)
      rw [Array.toList_map]
      exact mapPair_ok hG he _
    · cases h
  case buildSlice t n parts =>
    refine outcome_of (buildSliceV_ok hX hS hfr (vals := parts.map fun (i, x) => (i, a.eval x)) ?_ h)
    rw [Array.toList_map]
    exact mapPair_ok hG he _
  case load t x =>
    split at h
    · rename_i r hr
      cases h
      obtain ⟨_, u, h1, h2⟩ := loadV_ok hX hS hL (ev_ok hG he x) hr
      exact outcome_same hS ⟨u, h1, h2⟩
    · cases h
  case store t x y =>
    split at h
    · rename_i r hr
      cases h
      obtain ⟨w', h1, h2, h3⟩ := storeV_ok hX hS hL (ev_ok hG he x) (ev_ok hG he y) hr
      exact ⟨w', φ, undef, .inr ⟨by simp [h1], rfl⟩, h2, h3, by unfold Rel; trivial⟩
    · cases h
  case binOp op t x y yt =>
    split at h
    · rename_i r hr
      cases h
      obtain ⟨h1, h2⟩ := binV_ok (P := P) (w := w) (ox := x) (oy := y) hX (ev_ok hG he x) (ev_ok hG he y) hr
      exact outcome_same hS ⟨_, h2, Rel.plain h1⟩
    · cases h
  case unOp op t x =>
    split at h
    · rename_i r hr
      cases h
      obtain ⟨h1, h2⟩ := unV_ok (P := P) (w := w) (ev_ok hG he x) hr
      exact outcome_same hS ⟨_, h2, Rel.plain h1⟩
    · cases h
  case convert src dst' x =>
    split at h
    · rename_i hs hd hx
      cases h
      have hsv := (hX _ _ hs).kind
      have hdv := (hX _ _ hd).kind
      simp only [KindOK] at hsv hdv
      have hxv := ev_ok hG he x
      rw [hx] at hxv
      simp only [Rel] at hxv
      obtain ⟨_, hxv⟩ := hxv
      rw [hxv]
      refine outcome_same hS ⟨_, ?_, Rel.plain (x := .i _ _) trivial⟩
      simp [convert, run_underlying hsv, run_underlying hdv, PV.val, Conv.intToInt]
    · rename_i hs hd hx
      have hsv := (hX _ _ hs).kind
      simp only [KindOK] at hsv
      have hxv := ev_ok hG he x
      rw [hx] at hxv
      simp only [Rel] at hxv
      obtain ⟨_, hxv⟩ := hxv
      rw [hxv]
      exact outcome_of (strBytesV_ok hX hS hfr hsv h)
    · exact outcome_of (convSlV_ok hX hS hL (ev_ok hG he x) h)
    · rename_i hs hd
      have hsv := (hX _ _ hs).kind
      have hdv := (hX _ _ hd).kind
      simp only [KindOK] at hsv hdv
      split at h
      · rename_i he'
        have hev := (hX _ _ he').kind
        simp only [KindOK] at hev
        split at h
        · rename_i l hl
          cases h
          exact outcome_same hS ⟨_, bytesStr_ok ((shut1_ok hS hL (ev_ok hG he x) hl).2.2 (fun _ => none) (fun _ => none)) hsv hev hdv, Rel.plain (x := .str _) trivial⟩
        · cases h
      · cases h
    · cases h
  case makeFunc fn first caps =>
    split at h
    · rename_i f hf
      cases h
      have hf0 : first = #[] := by
        obtain ⟨l⟩ := first
        simpa using hf
      subst hf0
      refine outcome_same hS ⟨.func (.func f) #[] (caps.map a.eval), by simp [Instr.makeFunc], ?_⟩
      unfold Rel
      refine ⟨caps.toList.map a.eval, ?_, mapOp_ok hG he _⟩
      rw [← Array.toList_map, Array.toArray_toList]
    · cases h
  case makeMap t r =>
    cases r with
    | some _ => simp only at h; cases h
    | none =>
      simp only at h
      split at h
      · rename_i hl
        cases h
        obtain ⟨g1, g2⟩ := hS.add (w' := w.alloc (.map #[] 0)) (id := fid (dst.getD 0 * 8)) (blk := .mp []) (pc := some (w.heap.size, 0)) ((Below.refl _ _).alloc (Nat.le_refl _) _) (hfr hl)
          ⟨w.heap.size, 0, #[], 0, upd_same _ _ _, World.alloc_heap_new w _, rfl⟩ (fun b c h => by cases h; exact Nat.le_refl _)
        refine ⟨_, _, .map (some w.heap.size), .inl ?_, g1, g2, ?_⟩
        · simp only [Instr.makeMap, Option.map_none, Sem.run_bind, run_newObj_alloc, Result.andThen_ok, Sem.run_pure]
        · simp only [addF, Rel, upd_same]
          exact ⟨_, _, rfl, rfl⟩
      · cases h
  case lookup t x i c =>
    split at h
    · split at h
      · rename_i id s hm hx hi
        split at h
        · rename_i l hl
          cases h
          have hxv := ev_ok hG he x
          have hiv := ev_ok hG he i
          rw [hx] at hxv
          rw [hi] at hiv
          simp only [Rel, hL _ _ hl] at hxv hiv
          obtain ⟨b, cc, hφ, hxv⟩ := hxv
          obtain ⟨_, hiv⟩ := hiv
          rw [hxv, hiv]
          refine outcome_same hS ⟨_, mapLook_ok hX hm (hS.blk _ _ (hL _ _ hl)) hφ s, Rel.plain (x := .b _) trivial⟩
        · cases h
      · cases h
    · cases h
  case mapUpdate t m k x =>
    split at h
    · rename_i id s hm hmv hk
      split at h
      · rename_i hv
        split at h
        · rename_i l hl
          cases h
          have hmv' := ev_ok hG he m
          have hkv := ev_ok hG he k
          have hvv := ev_ok hG he x
          rw [hmv] at hmv'
          rw [hk] at hkv
          rw [hv] at hvv
          simp only [Rel, hL _ _ hl] at hmv' hkv hvv
          obtain ⟨b, cc, hφ, hmv'⟩ := hmv'
          obtain ⟨_, hkv⟩ := hkv
          obtain ⟨_, hvv⟩ := hvv
          rw [hmv', hkv, hvv]
          obtain ⟨w', g1, g2, g3⟩ := mapPut_ok (P := P) hX hm hS (hL _ _ hl) hφ s
          exact ⟨w', φ, undef, .inr ⟨by simp only [PV.val, Sem.run_bind, g1, Result.andThen_ok, Sem.run_pure], rfl⟩, g2, g3, by unfold Rel; trivial⟩
        · cases h
      · cases h
    · cases h
  case makeSlice t n c =>
    split at h
    · rename_i p q hn hc
      have hnv := ev_ok hG he n
      have hcv := ev_ok hG he c
      rw [hn] at hnv
      rw [hc] at hcv
      simp only [Rel] at hnv hcv
      obtain ⟨_, hnv⟩ := hnv
      obtain ⟨_, hcv⟩ := hcv
      rw [hnv, hcv]
      exact outcome_of (makeSliceV_ok hX hS hfr h)
    · cases h
  case slice t x lo hi mx =>
    split at h
    · rename_i r hr
      cases h
      exact outcome_same hS (sliceV_ok hX hS hL (ev_ok hG he x) (optOp_ok hG he lo) (optOp_ok hG he hi) (optOp_ok hG he mx) hr)
    · cases h
  case fieldAddr t x f =>
    split at h
    · rename_i r hr
      cases h
      exact outcome_same hS (fieldAddrV_ok hX hS hL (ev_ok hG he x) hr)
    · cases h
  case field t x f =>
    split at h
    · rename_i r hr
      cases h
      have hx := ev_ok hG he x
      have hst : (ev X.G ρ x).stays = true := by
        unfold partOf at hr
        split at hr
        · rename_i hq; rw [hq]; rfl
        · rename_i hq; rw [hq]; rfl
        · cases hr
      obtain ⟨k0, fields, fld, d, k1, k2, k3, k4, k5, _, cs, pre, post, uz, k6, k7, k8, k9⟩ := partOf_ok hX hx hst hr
      refine outcome_same hS ⟨uz, ?_, k7⟩
      rw [k6]
      simp only [Instr.field, Sem.run_bind, run_underlying k1, Result.andThen_ok, k2, asAgg, Sem.run_pure]
      exact run_partA (hX _ d k3) k7 k0 k4 k8 k9
    · cases h
  case indexAddr t x i =>
    split at h
    · rename_i k n hi
      have hiv := ev_ok hG he i
      rw [hi] at hiv
      simp only [Rel] at hiv
      obtain ⟨_, hiv⟩ := hiv
      split at h
      · rename_i r hr
        cases h
        rw [hiv]
        exact outcome_same hS (indexAddrV_ok hX hS hL (ev_ok hG he x) hr)
      · cases h
    · cases h
  case index t x i =>
    split at h
    · rename_i k n m s l hi hx
      have hiv := ev_ok hG he i
      rw [hi] at hiv
      simp only [Rel] at hiv
      obtain ⟨_, hiv⟩ := hiv
      have hxv := ev_ok hG he x
      rw [hx] at hxv
      simp only [Rel, PV.ok] at hxv
      obtain ⟨⟨q1, q2, q3⟩, hxv⟩ := hxv
      split at h
      · rename_i hb
        simp only [Bool.and_eq_true] at hb
        obtain ⟨e, he', dd, hdd, hkk⟩ := isArr_ok hX hb.1
        have hsz := elemOK_ok hX hb.2 (.inl ⟨m, he'⟩) w
        split at h
        · rename_i y hy
          split at h
          · rename_i hf
            cases h
            obtain ⟨i0, i1, i2⟩ := getI_some hy
            unfold elemFits at hf
            rw [hdd] at hf
            obtain ⟨kk, z1, z2, z3, z4⟩ := dd
            simp only at hkk
            subst hkk
            simp only at hf
            split at hf
            · rename_i d hd
              obtain ⟨post, p1, p2⟩ := cellsL_at q2 q3 i1
              refine outcome_same hS ⟨y.val, ?_, Rel.plain (okL_get q2 i1)⟩
              rw [hiv, hxv]
              have hlt : n < (m : Int) := by omega
              simp only [val_arr, val_i, Instr.index, Sem.run_bind, asIntOf, Sem.run_pure, Result.andThen_ok, run_underlying he', Sem.run_ite]
              rw [if_pos ⟨i0, hlt⟩, hsz]
              simp only [Result.andThen_ok]
              exact run_partA (W := W) (φ := φ) (H := H) (hX e d hd) (Rel.plain (okL_get q2 i1)) rfl hf (pre := PV.cellsL (l.take n.toNat)) (post := post) (by rw [PV.cells_val_list]; exact p1) p2
            · cases hf
          · cases h
        · cases h
      · cases h
    · cases h
  case extract x i =>
    split at h
    · rename_i l hx
      have hxv := ev_ok hG he x
      rw [hx] at hxv
      simp only [Rel] at hxv
      obtain ⟨vs, h1, hxv⟩ := hxv
      split at h
      · rename_i y hy
        cases h
        obtain ⟨u, h2, h3⟩ := h1.get hy
        refine outcome_same hS ⟨u, ?_, h3⟩
        rw [hxv]
        simp [Instr.extract, h2]
      · cases h
    · cases h
  case sliceToArrayPointer t x =>
    split at h
    · rename_i id off len hx
      have hxv := ev_ok hG he x
      rw [hx] at hxv
      split at h
      · rename_i rw_ s l hLl
        have hl := hL _ _ hLl
        split at h
        · rename_i n e b c g z hd
          have hk := (hX t _ hd).kind
          split at h
          · rename_i hn
            simp only [Bool.and_eq_true] at hn
            have hn2 := Nat.le_of_ble_eq_true hn.2
            have hn := of_decide_eq_true hn.1
            cases h
            simp only [Rel, hl] at hxv
            obtain ⟨hon, hxv⟩ := hxv
            split at hxv
            · omega
            · rename_i b' cap hφ
              obtain ⟨ad, c', hxv, r1, r2, r3⟩ := hxv
              have hlt : ¬ (len < n) := by omega
              refine outcome_same hS ⟨.pointer (some ad), ?_, ?_⟩
              · rw [hxv]
                simp [Instr.arrayAt, run_underlying hk.1, hlt]
              · simp only [Rel, hl]
                refine ⟨by omega, b', cap, ad, hφ, rfl, ?_⟩
                rcases r3 with r3 | ⟨r3, _⟩
                · exact .inl r3
                · omega
          · cases h
        · cases h
      · cases h
    · cases h
  case nilCheck x =>
    split at h
    · rename_i id path hx
      cases h
      have hxv := ev_ok hG he x
      rw [hx] at hxv
      have hxv' := hxv
      simp only [Rel] at hxv
      split at hxv
      · obtain ⟨b, cap, o, _, _, hxv⟩ := hxv
        rw [hxv] at hxv' ⊢
        exact Outcome.pure hS rfl hxv'
      · exact hxv.elim
    · rename_i y hx
      cases h
      have hxv := ev_ok hG he x
      rw [hx] at hxv
      have hxv' := hxv
      simp only [Rel] at hxv
      obtain ⟨ad, u, hxv, _⟩ := hxv
      rw [hxv] at hxv' ⊢
      exact Outcome.pure hS rfl hxv'
    · cases h
  case call c =>
    obtain ⟨cal, args, ts⟩ := c
    cases cal <;> simp only at h <;> try (cases h; done)
    rename_i b
    have := builtinV_ok hX hS hL hfr (mapOp_ok hG he args.toList) h ty (args.map fun | .const _ => true | _ => false)
    simp only [resolve, invoke, pure_bind]
    rw [← Array.toList_map, Array.toArray_toList] at this
    exact this
  all_goals cases h

end Go.Proofs.YtipmkjfbdflneaaDoor.AM
