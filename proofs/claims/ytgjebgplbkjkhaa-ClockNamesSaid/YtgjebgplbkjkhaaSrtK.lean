/- The library's sort: its loop and its recursion. -/
import Derived.Test.YtgjebgplbkjkhaaSrtJ
namespace Go.Proofs.Ytgjebgplbkjkhaa.AM
open Go Go.Proofs Go.Sort
set_option maxRecDepth 100000

structure StP where
  a : Nat
  b : Nat
  lim : Nat
  wb : Bool
  wp : Bool
  d : Array Int
theorem hint2 {h : Hint} (e : hintCode h = 2) : h = .decreasing := by cases h <;> simp [hintCode] at e ⊢
theorem hint1 {h : Hint} (e : hintCode h = 1) : h = .increasing := by cases h <;> simp [hintCode] at e ⊢
set_option maxHeartbeats 100000000 in
theorem f30_ok (h0 : Heap) (hcl : Clo h0) (hf : find h0 1056 = none) : ∀ (N : Nat) (d : Array Int) (a b lim : Nat) {xa xb xl : Int} (_ : xa = (a : Int)) (_ : xb = (b : Int)) (_ : xl = (lim : Int)), b - a < N → a ≤ b → b ≤ d.size → d.size < 65536 → lim < 65536 → Go.Sort.Below ltInt a b d →
    ∀ (K : AV → Heap → Prop), K (.tup []) ((208, qb (pdq ltInt d a b lim true true)) :: h0) → InlS Try.prog X 30 [.own 208, .p (.i .i64 xa), .p (.i .i64 xb), .p (.i .i64 xl)] ((208, qb d) :: h0) K := by
  intro N
  induction N with
  | zero => intro _ _ _ _ _ _ _ _ _ _ h; exact absurd h (Nat.not_lt_zero _)
  | succ N ih =>
    intro d a b lim0 xa xb xl ea eb el hN hab hb hs hlim0 hBel0 K hK
    subst ea eb el
    refine InlS.intro (I := [ 30, 34, 35, 36, 38, 39, 40, 41 ]) hX hm 1000 Try.func30 rfl rfl (by kernel_rfl) rfl ?_
    conv => whnf
    refine LoopJ.introT (I := [ 30, 34, 35, 36, 38, 39, 40, 41 ]) (base' := 1000) hX hm (by kernel_rfl) (σ := StP) (fun s => [(0, .own 208), (1, .p (.i .i64 ((s.a : Nat) : Int))), (2, .p (.i .i64 ((s.b : Nat) : Int))), (3, .p (.i .i64 ((s.lim : Nat) : Int))), (8, .p (.b s.wb)), (9, .p (.b s.wp))]) (fun s => (208, qb s.d) :: h0)
      (fun s => s.a ≤ s.b ∧ s.b ≤ d.size ∧ s.b - s.a ≤ b - a ∧ s.lim ≤ lim0 ∧ s.d.size = d.size ∧ Go.Sort.Below ltInt s.a s.b s.d ∧ pdq ltInt s.d s.a s.b s.lim s.wb s.wp = pdq ltInt d a b lim0 true true) (fun s => s.b - s.a) ⟨a, b, lim0, true, true, d⟩
      ⟨hab, hb, Nat.le_refl _, Nat.le_refl _, rfl, hBel0, rfl⟩ rfl ⟨rfl, rfl, rfl, rfl, rfl, rfl, trivial⟩ ?_
    intro ⟨ak, bk, lim, wb, wp, dk⟩ ⟨hab2, hb2, hN2, hlim, hds, hBel, hR⟩
    dsimp only at hab2 hb2 hN2 hlim hds hBel hR
    have eL : IntKind.i64.wrap ((bk : Int) - (ak : Int)) = ((bk - ak : Nat) : Int) := by rw [wr_i64 (by omega) (by omega)]; omega
    conv => whnf
    refine iteC (fun h1 => ?_) (fun h1 => ?_)
    · have h2 := of_decide_eq_true h1
      rw [eL] at h2
      have h12 : bk - ak ≤ 12 := by omega
      conv => whnf
      refine InlS.exact hcl rfl (fun K2 hK2 => f34_ok h0 dk ak bk (by omega) (by omega) (by omega) K2 hK2) ?_
      conv => whnf
      rw [← hR, pdq_small h12] at hK
      exact hK
    · have h2 := of_decide_eq_false h1
      rw [eL] at h2
      have h12 : ¬ bk - ak ≤ 12 := by omega
      conv => whnf
      refine iteC (fun h3 => ?_) (fun h3 => ?_)
      · have hl0 : lim = 0 := by
          have : (lim : Int) = 0 := by simpa using h3
          omega
        conv => whnf
        refine InlS.exact hcl rfl (fun K2 hK2 => f35_ok h0 dk ak bk rfl rfl (by omega) (by omega) (by omega) K2 hK2) ?_
        conv => whnf
        rw [← hR, pdq_heap h12 hl0] at hK
        exact hK
      · have hl0 : ¬ lim = 0 := by
          intro e
          have h4 : ((lim : Int) == 0) = false := h3
          rw [e] at h4
          exact absurd h4 (by decide)
        obtain ⟨s1, B1, hc1, s2, B2, hpv, s3, B3⟩ := rd_facts (limit := lim) (wb := wb) (wp := wp) swo_ltInt partialInsertionSort_holds reverseRange_holds (show ak < bk by omega) (show bk ≤ dk.size by omega) hBel
        cases wb with
        | false =>
          have s1 : (breakPatterns dk ak bk).size = dk.size := s1
          have hlm : (rd ltInt dk ak bk lim false wp).lim = lim - 1 := rfl
          obtain ⟨C, hC⟩ : ∃ C, C = choosePivot ltInt (breakPatterns dk ak bk) ak bk := ⟨_, rfl⟩
          have hc : (rd ltInt dk ak bk lim false wp).c = C := hC.symm
          rw [hc] at hc1
          have cP := f37_ok (breakPatterns dk ak bk) ak bk (by omega) (by omega) (by omega)
          rw [← hC] at cP
          conv => whnf
          refine InlS.exact hcl rfl (fun K2 hK2 => f36_ok h0 dk ak bk rfl rfl (by omega) (by omega) (by omega) hf K2 hK2) ?_
          conv => whnf
          have eLm : IntKind.i64.wrap ((lim : Int) - 1) = ((lim - 1 : Nat) : Int) := decI (by omega) (by omega)
          refine ⟨_, cP, ?_⟩
          conv => whnf
          by_cases hh : C.2 = .decreasing
          · refine iteT (by rw [hh]; rfl) ?_
            conv => whnf
            refine InlS.exact hcl rfl (fun K2 hK2 => f38_ok h0 (breakPatterns dk ak bk) ak bk rfl rfl (by omega) (by omega) (by omega) K2 hK2) ?_
            conv => whnf
            obtain ⟨e2, epv, eht⟩ := rd_dec (lt := ltInt) (d := dk) (a := ak) (b := bk) (limit := lim) (wb := false) (wp := wp) (by rw [hc]; exact hh)
            rw [hc] at epv
            have e2 : (rd ltInt dk ak bk lim false wp).d2 = (reverseRange (breakPatterns dk ak bk) ak bk) := e2
            rw [e2] at s2
            have ePT : IntKind.i64.wrap (IntKind.i64.wrap ((bk : Int) - 1) - IntKind.i64.wrap (((C.1 : Nat) : Int) - (ak : Int))) = (((bk - 1) - (C.1 - ak) : Nat) : Int) := by rw [decI (by omega) (by omega), wr_i64 (n := ((C.1 : Nat) : Int) - (ak : Int)) (by omega) (by omega), wr_i64 (by omega) (by omega)]; omega
            have epi := rd_pi_no (lt := ltInt) (d := dk) (a := ak) (b := bk) (limit := lim) (wb := false) (wp := wp) rfl
            rw [e2] at epi
            have hpi2 : (rd ltInt dk ak bk lim false wp).pi.2 = false := by rw [epi]
            have hpi1 : (rd ltInt dk ak bk lim false wp).pi.1 = (reverseRange (breakPatterns dk ak bk) ak bk) := by rw [epi]
            rw [hpi1] at s3 B3
            rw [epv] at hpv
            conv => whnf
            refine iteC (fun k1 => ?_) (fun k1 => ?_)
            · have k2 : (ak : Int) > 0 := of_decide_eq_true k1
              have k3 : 0 < ak := by omega
              have ew : IntKind.i64.wrap ((ak : Int) - 1) = ((ak - 1 : Nat) : Int) := decI (by omega) (by omega)
              have g1 := gQ (d := ((reverseRange (breakPatterns dk ak bk) ak bk))) (i := (ak - 1)) (by omega) (e := IntKind.i64.wrap ((ak : Int) - 1)) ew
              have t1 : (IntKind.i64.wrap ((ak : Int) - 1)).toNat = (ak - 1) := by rw [ew]; rfl
              have n1 := gN (d := ((reverseRange (breakPatterns dk ak bk) ak bk))) (i := (ak - 1)) (by omega) (e := (IntKind.i64.wrap ((ak : Int) - 1)).toNat) t1
              have g2 := gQ (d := ((reverseRange (breakPatterns dk ak bk) ak bk))) (i := ((bk - 1) - (C.1 - ak))) (by omega) (e := IntKind.i64.wrap (IntKind.i64.wrap ((bk : Int) - 1) - IntKind.i64.wrap (((C.1 : Nat) : Int) - (ak : Int)))) ePT
              have t2 : (IntKind.i64.wrap (IntKind.i64.wrap ((bk : Int) - 1) - IntKind.i64.wrap (((C.1 : Nat) : Int) - (ak : Int)))).toNat = ((bk - 1) - (C.1 - ak)) := by rw [ePT]; rfl
              have n2 := gN (d := ((reverseRange (breakPatterns dk ak bk) ak bk))) (i := ((bk - 1) - (C.1 - ak))) (by omega) (e := (IntKind.i64.wrap (IntKind.i64.wrap ((bk : Int) - 1) - IntKind.i64.wrap (((C.1 : Nat) : Int) - (ak : Int)))).toNat) t2
              have c1 := f28_ok ((reverseRange (breakPatterns dk ak bk) ak bk))[ak - 1]! ((reverseRange (breakPatterns dk ak bk) ak bk))[(bk - 1) - (C.1 - ak)]!
              conv => whnf
              iterate 4 (try (conv => arg 2; repeat (first | rw [g1] | rw [n1] | rw [g2] | rw [n2] | (whnf; arg 2))
                              conv => whnf))
              refine ⟨_, c1, ?_⟩
              conv => whnf
              refine iteC (fun k4 => ?_) (fun k4 => ?_)
              · have h87 : (decide (ak > 0) && !ltInt ((reverseRange (breakPatterns dk ak bk) ak bk))[ak - 1]! ((reverseRange (breakPatterns dk ak bk) ak bk))[(bk - 1) - (C.1 - ak)]!) = false := by rw [k4]; simp
                obtain ⟨mid, ap, d4, hx⟩ : ∃ mid ap d4, partition ltInt ((reverseRange (breakPatterns dk ak bk) ak bk)) ak bk ((bk - 1) - (C.1 - ak)) = (mid, ap, d4) := ⟨_, _, _, rfl⟩
                obtain ⟨r1, r2, r3, r4, r5, r6, r7⟩ := round_part swo_ltInt (partition_holds _) hpv.1 hpv.2 (show bk ≤ ((reverseRange (breakPatterns dk ak bk) ak bk)).size by omega) B3 hx
                have em1 : IntKind.i64.wrap ((mid : Int) - (ak : Int)) = ((mid - ak : Nat) : Int) := by rw [wr_i64 (by omega) (by omega)]; omega
                have em2 : IntKind.i64.wrap ((bk : Int) - (mid : Int)) = ((bk - mid : Nat) : Int) := by rw [wr_i64 (by omega) (by omega)]; omega
                have e8 : IntKind.i64.wrap ((IntKind.i64.wrap ((bk : Int) - (ak : Int))).tdiv 8) = (((bk - ak) / 8 : Nat) : Int) := by
                  rw [eL, show ((bk - ak : Nat) : Int).tdiv 8 = (((bk - ak) / 8 : Nat) : Int) from by rw [Int.tdiv_eq_ediv_of_nonneg (by omega)]; omega]
                  exact wr_i64 (by omega) (by omega)
                conv => whnf
                refine InlS.exact (D := d4) (r := .tup [.p (.i .i64 ((mid : Nat) : Int)), .p (.b ap)]) hcl rfl (fun K2 hK2 => f41_ok h0 ((reverseRange (breakPatterns dk ak bk) ak bk)) ak bk ((bk - 1) - (C.1 - ak)) rfl rfl ePT hpv (by omega) (by omega) K2 (by rw [hx]; exact hK2)) ?_
                conv => whnf
                refine Fork.mk ?_
                conv => whnf
                refine iteC (fun h3 => ?_) (fun h3 => ?_)
                · have h4 := of_decide_eq_true h3
                  rw [em1, em2] at h4
                  have h5 : mid - ak < bk - mid := by omega
                  have hp := pdq_left (lt := ltInt) (d := dk) (a := ak) (b := bk) (limit := lim) (wb := false) (wp := wp) h12 hl0 hpi2 (by rw [hpi1, epv]; exact h87) (by rw [hpi1, epv, hx]; exact ⟨r1, r2⟩) (by rw [hpi1, epv, hx]; exact h5)
                  rw [hpi1, epv, hx, hlm] at hp
                  obtain ⟨pL, sL⟩ := pdq_sorts ltInt swo_ltInt d4 ak mid (lim - 1) true true (by omega) (by omega) r4
                  conv => whnf
                  refine Fork.mk ?_
                  conv => whnf
                  refine ih d4 ak mid (lim - 1) rfl rfl eLm (by omega) (by omega) (by omega) (by omega) (by omega) r4 _ ?_
                  conv => whnf
                  exact ⟨⟨mid + 1, bk, lim - 1, decide (mid - ak ≥ (bk - ak) / 8), ap, pdq ltInt d4 ak mid (lim - 1) true true⟩, ⟨by dsimp only; omega, by dsimp only; omega, by dsimp only; omega, by dsimp only; omega, by dsimp only; rw [pL.1, r3, s3, hds], (r6 _ pL sL).1, by dsimp only; rw [← hR]; exact hp.symm⟩, by dsimp only; omega, rfl, ⟨rfl, avI (incI (by omega)), rfl, avI eLm, congrArg (fun x => AV.p (.b x)) (by rw [em1, e8]; exact decide_eq_decide.2 ⟨fun h => by omega, fun h => by omega⟩), rfl, trivial⟩⟩
                · have h4 := of_decide_eq_false h3
                  rw [em1, em2] at h4
                  have h5 : ¬ mid - ak < bk - mid := by omega
                  have hp := pdq_right (lt := ltInt) (d := dk) (a := ak) (b := bk) (limit := lim) (wb := false) (wp := wp) h12 hl0 hpi2 (by rw [hpi1, epv]; exact h87) (by rw [hpi1, epv, hx]; exact ⟨r1, r2⟩) (by rw [hpi1, epv, hx]; exact h5)
                  rw [hpi1, epv, hx, hlm] at hp
                  obtain ⟨pL, sL⟩ := pdq_sorts ltInt swo_ltInt d4 (mid + 1) bk (lim - 1) true true (by omega) (by omega) r5
                  conv => whnf
                  refine Fork.mk ?_
                  conv => whnf
                  refine ih d4 (mid + 1) bk (lim - 1) (incI (by omega)) rfl eLm (by omega) (by omega) (by omega) (by omega) (by omega) r5 _ ?_
                  conv => whnf
                  exact ⟨⟨ak, mid, lim - 1, decide (bk - mid ≥ (bk - ak) / 8), ap, pdq ltInt d4 (mid + 1) bk (lim - 1) true true⟩, ⟨by dsimp only; omega, by dsimp only; omega, by dsimp only; omega, by dsimp only; omega, by dsimp only; rw [pL.1, r3, s3, hds], (r7 _ pL sL).1, by dsimp only; rw [← hR]; exact hp.symm⟩, by dsimp only; omega, rfl, ⟨rfl, rfl, rfl, avI eLm, congrArg (fun x => AV.p (.b x)) (by rw [em2, e8]; exact decide_eq_decide.2 ⟨fun h => by omega, fun h => by omega⟩), rfl, trivial⟩⟩
              · have h87 : (decide (ak > 0) && !ltInt ((reverseRange (breakPatterns dk ak bk) ak bk))[ak - 1]! ((reverseRange (breakPatterns dk ak bk) ak bk))[(bk - 1) - (C.1 - ak)]!) = true := by rw [k4, decide_eq_true k3]; rfl
                obtain ⟨mid, d4, hx⟩ : ∃ mid d4, partitionEqual ltInt ((reverseRange (breakPatterns dk ak bk) ak bk)) ak bk ((bk - 1) - (C.1 - ak)) = (mid, d4) := ⟨_, _, rfl⟩
                obtain ⟨r1, r2, r3, r4, _⟩ := round_eq swo_ltInt (partitionEqual_holds _) k3 hpv.1 hpv.2 (show bk ≤ ((reverseRange (breakPatterns dk ak bk) ak bk)).size by omega) B3 k4 hx
                have hp := pdq_eq (lt := ltInt) (d := dk) (a := ak) (b := bk) (limit := lim) (wb := false) (wp := wp) h12 hl0 hpi2 (by rw [hpi1, epv]; exact h87) (by rw [hpi1, epv, hx]; exact ⟨r1, r2⟩)
                rw [hpi1, epv, hx, hlm] at hp
                conv => whnf
                refine InlS.exact (D := d4) (r := .p (.i .i64 ((mid : Nat) : Int))) hcl rfl (fun K2 hK2 => f40_ok h0 ((reverseRange (breakPatterns dk ak bk) ak bk)) ak bk ((bk - 1) - (C.1 - ak)) rfl rfl ePT hpv (by omega) (by omega) K2 (by rw [hx]; exact hK2)) ?_
                conv => whnf
                exact ⟨⟨mid, bk, lim - 1, false, wp, d4⟩, ⟨by dsimp only; omega, by dsimp only; omega, by dsimp only; omega, by dsimp only; omega, by dsimp only; rw [r3, s3, hds], r4, by dsimp only; rw [← hR]; exact hp.symm⟩, by dsimp only; omega, rfl, ⟨rfl, rfl, rfl, avI eLm, rfl, rfl, trivial⟩⟩
            · have k2 : ¬ (ak : Int) > 0 := of_decide_eq_false k1
              have h87 : (decide (ak > 0) && !ltInt ((reverseRange (breakPatterns dk ak bk) ak bk))[ak - 1]! ((reverseRange (breakPatterns dk ak bk) ak bk))[(bk - 1) - (C.1 - ak)]!) = false := by rw [decide_eq_false (show ¬ ak > 0 by omega)]; rfl
              obtain ⟨mid, ap, d4, hx⟩ : ∃ mid ap d4, partition ltInt ((reverseRange (breakPatterns dk ak bk) ak bk)) ak bk ((bk - 1) - (C.1 - ak)) = (mid, ap, d4) := ⟨_, _, _, rfl⟩
              obtain ⟨r1, r2, r3, r4, r5, r6, r7⟩ := round_part swo_ltInt (partition_holds _) hpv.1 hpv.2 (show bk ≤ ((reverseRange (breakPatterns dk ak bk) ak bk)).size by omega) B3 hx
              have em1 : IntKind.i64.wrap ((mid : Int) - (ak : Int)) = ((mid - ak : Nat) : Int) := by rw [wr_i64 (by omega) (by omega)]; omega
              have em2 : IntKind.i64.wrap ((bk : Int) - (mid : Int)) = ((bk - mid : Nat) : Int) := by rw [wr_i64 (by omega) (by omega)]; omega
              have e8 : IntKind.i64.wrap ((IntKind.i64.wrap ((bk : Int) - (ak : Int))).tdiv 8) = (((bk - ak) / 8 : Nat) : Int) := by
                rw [eL, show ((bk - ak : Nat) : Int).tdiv 8 = (((bk - ak) / 8 : Nat) : Int) from by rw [Int.tdiv_eq_ediv_of_nonneg (by omega)]; omega]
                exact wr_i64 (by omega) (by omega)
              conv => whnf
              refine InlS.exact (D := d4) (r := .tup [.p (.i .i64 ((mid : Nat) : Int)), .p (.b ap)]) hcl rfl (fun K2 hK2 => f41_ok h0 ((reverseRange (breakPatterns dk ak bk) ak bk)) ak bk ((bk - 1) - (C.1 - ak)) rfl rfl ePT hpv (by omega) (by omega) K2 (by rw [hx]; exact hK2)) ?_
              conv => whnf
              refine Fork.mk ?_
              conv => whnf
              refine iteC (fun h3 => ?_) (fun h3 => ?_)
              · have h4 := of_decide_eq_true h3
                rw [em1, em2] at h4
                have h5 : mid - ak < bk - mid := by omega
                have hp := pdq_left (lt := ltInt) (d := dk) (a := ak) (b := bk) (limit := lim) (wb := false) (wp := wp) h12 hl0 hpi2 (by rw [hpi1, epv]; exact h87) (by rw [hpi1, epv, hx]; exact ⟨r1, r2⟩) (by rw [hpi1, epv, hx]; exact h5)
                rw [hpi1, epv, hx, hlm] at hp
                obtain ⟨pL, sL⟩ := pdq_sorts ltInt swo_ltInt d4 ak mid (lim - 1) true true (by omega) (by omega) r4
                conv => whnf
                refine Fork.mk ?_
                conv => whnf
                refine ih d4 ak mid (lim - 1) rfl rfl eLm (by omega) (by omega) (by omega) (by omega) (by omega) r4 _ ?_
                conv => whnf
                exact ⟨⟨mid + 1, bk, lim - 1, decide (mid - ak ≥ (bk - ak) / 8), ap, pdq ltInt d4 ak mid (lim - 1) true true⟩, ⟨by dsimp only; omega, by dsimp only; omega, by dsimp only; omega, by dsimp only; omega, by dsimp only; rw [pL.1, r3, s3, hds], (r6 _ pL sL).1, by dsimp only; rw [← hR]; exact hp.symm⟩, by dsimp only; omega, rfl, ⟨rfl, avI (incI (by omega)), rfl, avI eLm, congrArg (fun x => AV.p (.b x)) (by rw [em1, e8]; exact decide_eq_decide.2 ⟨fun h => by omega, fun h => by omega⟩), rfl, trivial⟩⟩
              · have h4 := of_decide_eq_false h3
                rw [em1, em2] at h4
                have h5 : ¬ mid - ak < bk - mid := by omega
                have hp := pdq_right (lt := ltInt) (d := dk) (a := ak) (b := bk) (limit := lim) (wb := false) (wp := wp) h12 hl0 hpi2 (by rw [hpi1, epv]; exact h87) (by rw [hpi1, epv, hx]; exact ⟨r1, r2⟩) (by rw [hpi1, epv, hx]; exact h5)
                rw [hpi1, epv, hx, hlm] at hp
                obtain ⟨pL, sL⟩ := pdq_sorts ltInt swo_ltInt d4 (mid + 1) bk (lim - 1) true true (by omega) (by omega) r5
                conv => whnf
                refine Fork.mk ?_
                conv => whnf
                refine ih d4 (mid + 1) bk (lim - 1) (incI (by omega)) rfl eLm (by omega) (by omega) (by omega) (by omega) (by omega) r5 _ ?_
                conv => whnf
                exact ⟨⟨ak, mid, lim - 1, decide (bk - mid ≥ (bk - ak) / 8), ap, pdq ltInt d4 (mid + 1) bk (lim - 1) true true⟩, ⟨by dsimp only; omega, by dsimp only; omega, by dsimp only; omega, by dsimp only; omega, by dsimp only; rw [pL.1, r3, s3, hds], (r7 _ pL sL).1, by dsimp only; rw [← hR]; exact hp.symm⟩, by dsimp only; omega, rfl, ⟨rfl, rfl, rfl, avI eLm, congrArg (fun x => AV.p (.b x)) (by rw [em2, e8]; exact decide_eq_decide.2 ⟨fun h => by omega, fun h => by omega⟩), rfl, trivial⟩⟩
          · refine iteF (by simpa using fun e => hh (hint2 e)) ?_
            obtain ⟨e2, epv, eht⟩ := rd_not (lt := ltInt) (d := dk) (a := ak) (b := bk) (limit := lim) (wb := false) (wp := wp) (by rw [hc]; exact hh)
            rw [hc] at epv eht
            have e2 : (rd ltInt dk ak bk lim false wp).d2 = (breakPatterns dk ak bk) := e2
            rw [e2] at s2
            have epi := rd_pi_no (lt := ltInt) (d := dk) (a := ak) (b := bk) (limit := lim) (wb := false) (wp := wp) rfl
            rw [e2] at epi
            have hpi2 : (rd ltInt dk ak bk lim false wp).pi.2 = false := by rw [epi]
            have hpi1 : (rd ltInt dk ak bk lim false wp).pi.1 = (breakPatterns dk ak bk) := by rw [epi]
            rw [hpi1] at s3 B3
            rw [epv] at hpv
            conv => whnf
            refine iteC (fun k1 => ?_) (fun k1 => ?_)
            · have k2 : (ak : Int) > 0 := of_decide_eq_true k1
              have k3 : 0 < ak := by omega
              have ew : IntKind.i64.wrap ((ak : Int) - 1) = ((ak - 1 : Nat) : Int) := decI (by omega) (by omega)
              have g1 := gQ (d := ((breakPatterns dk ak bk))) (i := (ak - 1)) (by omega) (e := IntKind.i64.wrap ((ak : Int) - 1)) ew
              have t1 : (IntKind.i64.wrap ((ak : Int) - 1)).toNat = (ak - 1) := by rw [ew]; rfl
              have n1 := gN (d := ((breakPatterns dk ak bk))) (i := (ak - 1)) (by omega) (e := (IntKind.i64.wrap ((ak : Int) - 1)).toNat) t1
              have g2 := gQ (d := ((breakPatterns dk ak bk))) (i := (C.1)) (by omega) (e := ((C.1 : Nat) : Int)) rfl
              have t2 : (((C.1 : Nat) : Int)).toNat = (C.1) := rfl
              have n2 := gN (d := ((breakPatterns dk ak bk))) (i := (C.1)) (by omega) (e := (((C.1 : Nat) : Int)).toNat) t2
              have c1 := f28_ok ((breakPatterns dk ak bk))[ak - 1]! ((breakPatterns dk ak bk))[C.1]!
              conv => whnf
              iterate 4 (try (conv => arg 2; repeat (first | rw [g1] | rw [n1] | rw [g2] | rw [n2] | (whnf; arg 2))
                              conv => whnf))
              refine ⟨_, c1, ?_⟩
              conv => whnf
              refine iteC (fun k4 => ?_) (fun k4 => ?_)
              · have h87 : (decide (ak > 0) && !ltInt ((breakPatterns dk ak bk))[ak - 1]! ((breakPatterns dk ak bk))[C.1]!) = false := by rw [k4]; simp
                obtain ⟨mid, ap, d4, hx⟩ : ∃ mid ap d4, partition ltInt ((breakPatterns dk ak bk)) ak bk (C.1) = (mid, ap, d4) := ⟨_, _, _, rfl⟩
                obtain ⟨r1, r2, r3, r4, r5, r6, r7⟩ := round_part swo_ltInt (partition_holds _) hpv.1 hpv.2 (show bk ≤ ((breakPatterns dk ak bk)).size by omega) B3 hx
                have em1 : IntKind.i64.wrap ((mid : Int) - (ak : Int)) = ((mid - ak : Nat) : Int) := by rw [wr_i64 (by omega) (by omega)]; omega
                have em2 : IntKind.i64.wrap ((bk : Int) - (mid : Int)) = ((bk - mid : Nat) : Int) := by rw [wr_i64 (by omega) (by omega)]; omega
                have e8 : IntKind.i64.wrap ((IntKind.i64.wrap ((bk : Int) - (ak : Int))).tdiv 8) = (((bk - ak) / 8 : Nat) : Int) := by
                  rw [eL, show ((bk - ak : Nat) : Int).tdiv 8 = (((bk - ak) / 8 : Nat) : Int) from by rw [Int.tdiv_eq_ediv_of_nonneg (by omega)]; omega]
                  exact wr_i64 (by omega) (by omega)
                conv => whnf
                refine InlS.exact (D := d4) (r := .tup [.p (.i .i64 ((mid : Nat) : Int)), .p (.b ap)]) hcl rfl (fun K2 hK2 => f41_ok h0 ((breakPatterns dk ak bk)) ak bk (C.1) rfl rfl rfl hpv (by omega) (by omega) K2 (by rw [hx]; exact hK2)) ?_
                conv => whnf
                refine Fork.mk ?_
                conv => whnf
                refine iteC (fun h3 => ?_) (fun h3 => ?_)
                · have h4 := of_decide_eq_true h3
                  rw [em1, em2] at h4
                  have h5 : mid - ak < bk - mid := by omega
                  have hp := pdq_left (lt := ltInt) (d := dk) (a := ak) (b := bk) (limit := lim) (wb := false) (wp := wp) h12 hl0 hpi2 (by rw [hpi1, epv]; exact h87) (by rw [hpi1, epv, hx]; exact ⟨r1, r2⟩) (by rw [hpi1, epv, hx]; exact h5)
                  rw [hpi1, epv, hx, hlm] at hp
                  obtain ⟨pL, sL⟩ := pdq_sorts ltInt swo_ltInt d4 ak mid (lim - 1) true true (by omega) (by omega) r4
                  conv => whnf
                  refine Fork.mk ?_
                  conv => whnf
                  refine ih d4 ak mid (lim - 1) rfl rfl eLm (by omega) (by omega) (by omega) (by omega) (by omega) r4 _ ?_
                  conv => whnf
                  exact ⟨⟨mid + 1, bk, lim - 1, decide (mid - ak ≥ (bk - ak) / 8), ap, pdq ltInt d4 ak mid (lim - 1) true true⟩, ⟨by dsimp only; omega, by dsimp only; omega, by dsimp only; omega, by dsimp only; omega, by dsimp only; rw [pL.1, r3, s3, hds], (r6 _ pL sL).1, by dsimp only; rw [← hR]; exact hp.symm⟩, by dsimp only; omega, rfl, ⟨rfl, avI (incI (by omega)), rfl, avI eLm, congrArg (fun x => AV.p (.b x)) (by rw [em1, e8]; exact decide_eq_decide.2 ⟨fun h => by omega, fun h => by omega⟩), rfl, trivial⟩⟩
                · have h4 := of_decide_eq_false h3
                  rw [em1, em2] at h4
                  have h5 : ¬ mid - ak < bk - mid := by omega
                  have hp := pdq_right (lt := ltInt) (d := dk) (a := ak) (b := bk) (limit := lim) (wb := false) (wp := wp) h12 hl0 hpi2 (by rw [hpi1, epv]; exact h87) (by rw [hpi1, epv, hx]; exact ⟨r1, r2⟩) (by rw [hpi1, epv, hx]; exact h5)
                  rw [hpi1, epv, hx, hlm] at hp
                  obtain ⟨pL, sL⟩ := pdq_sorts ltInt swo_ltInt d4 (mid + 1) bk (lim - 1) true true (by omega) (by omega) r5
                  conv => whnf
                  refine Fork.mk ?_
                  conv => whnf
                  refine ih d4 (mid + 1) bk (lim - 1) (incI (by omega)) rfl eLm (by omega) (by omega) (by omega) (by omega) (by omega) r5 _ ?_
                  conv => whnf
                  exact ⟨⟨ak, mid, lim - 1, decide (bk - mid ≥ (bk - ak) / 8), ap, pdq ltInt d4 (mid + 1) bk (lim - 1) true true⟩, ⟨by dsimp only; omega, by dsimp only; omega, by dsimp only; omega, by dsimp only; omega, by dsimp only; rw [pL.1, r3, s3, hds], (r7 _ pL sL).1, by dsimp only; rw [← hR]; exact hp.symm⟩, by dsimp only; omega, rfl, ⟨rfl, rfl, rfl, avI eLm, congrArg (fun x => AV.p (.b x)) (by rw [em2, e8]; exact decide_eq_decide.2 ⟨fun h => by omega, fun h => by omega⟩), rfl, trivial⟩⟩
              · have h87 : (decide (ak > 0) && !ltInt ((breakPatterns dk ak bk))[ak - 1]! ((breakPatterns dk ak bk))[C.1]!) = true := by rw [k4, decide_eq_true k3]; rfl
                obtain ⟨mid, d4, hx⟩ : ∃ mid d4, partitionEqual ltInt ((breakPatterns dk ak bk)) ak bk (C.1) = (mid, d4) := ⟨_, _, rfl⟩
                obtain ⟨r1, r2, r3, r4, _⟩ := round_eq swo_ltInt (partitionEqual_holds _) k3 hpv.1 hpv.2 (show bk ≤ ((breakPatterns dk ak bk)).size by omega) B3 k4 hx
                have hp := pdq_eq (lt := ltInt) (d := dk) (a := ak) (b := bk) (limit := lim) (wb := false) (wp := wp) h12 hl0 hpi2 (by rw [hpi1, epv]; exact h87) (by rw [hpi1, epv, hx]; exact ⟨r1, r2⟩)
                rw [hpi1, epv, hx, hlm] at hp
                conv => whnf
                refine InlS.exact (D := d4) (r := .p (.i .i64 ((mid : Nat) : Int))) hcl rfl (fun K2 hK2 => f40_ok h0 ((breakPatterns dk ak bk)) ak bk (C.1) rfl rfl rfl hpv (by omega) (by omega) K2 (by rw [hx]; exact hK2)) ?_
                conv => whnf
                exact ⟨⟨mid, bk, lim - 1, false, wp, d4⟩, ⟨by dsimp only; omega, by dsimp only; omega, by dsimp only; omega, by dsimp only; omega, by dsimp only; rw [r3, s3, hds], r4, by dsimp only; rw [← hR]; exact hp.symm⟩, by dsimp only; omega, rfl, ⟨rfl, rfl, rfl, avI eLm, rfl, rfl, trivial⟩⟩
            · have k2 : ¬ (ak : Int) > 0 := of_decide_eq_false k1
              have h87 : (decide (ak > 0) && !ltInt ((breakPatterns dk ak bk))[ak - 1]! ((breakPatterns dk ak bk))[C.1]!) = false := by rw [decide_eq_false (show ¬ ak > 0 by omega)]; rfl
              obtain ⟨mid, ap, d4, hx⟩ : ∃ mid ap d4, partition ltInt ((breakPatterns dk ak bk)) ak bk (C.1) = (mid, ap, d4) := ⟨_, _, _, rfl⟩
              obtain ⟨r1, r2, r3, r4, r5, r6, r7⟩ := round_part swo_ltInt (partition_holds _) hpv.1 hpv.2 (show bk ≤ ((breakPatterns dk ak bk)).size by omega) B3 hx
              have em1 : IntKind.i64.wrap ((mid : Int) - (ak : Int)) = ((mid - ak : Nat) : Int) := by rw [wr_i64 (by omega) (by omega)]; omega
              have em2 : IntKind.i64.wrap ((bk : Int) - (mid : Int)) = ((bk - mid : Nat) : Int) := by rw [wr_i64 (by omega) (by omega)]; omega
              have e8 : IntKind.i64.wrap ((IntKind.i64.wrap ((bk : Int) - (ak : Int))).tdiv 8) = (((bk - ak) / 8 : Nat) : Int) := by
                rw [eL, show ((bk - ak : Nat) : Int).tdiv 8 = (((bk - ak) / 8 : Nat) : Int) from by rw [Int.tdiv_eq_ediv_of_nonneg (by omega)]; omega]
                exact wr_i64 (by omega) (by omega)
              conv => whnf
              refine InlS.exact (D := d4) (r := .tup [.p (.i .i64 ((mid : Nat) : Int)), .p (.b ap)]) hcl rfl (fun K2 hK2 => f41_ok h0 ((breakPatterns dk ak bk)) ak bk (C.1) rfl rfl rfl hpv (by omega) (by omega) K2 (by rw [hx]; exact hK2)) ?_
              conv => whnf
              refine Fork.mk ?_
              conv => whnf
              refine iteC (fun h3 => ?_) (fun h3 => ?_)
              · have h4 := of_decide_eq_true h3
                rw [em1, em2] at h4
                have h5 : mid - ak < bk - mid := by omega
                have hp := pdq_left (lt := ltInt) (d := dk) (a := ak) (b := bk) (limit := lim) (wb := false) (wp := wp) h12 hl0 hpi2 (by rw [hpi1, epv]; exact h87) (by rw [hpi1, epv, hx]; exact ⟨r1, r2⟩) (by rw [hpi1, epv, hx]; exact h5)
                rw [hpi1, epv, hx, hlm] at hp
                obtain ⟨pL, sL⟩ := pdq_sorts ltInt swo_ltInt d4 ak mid (lim - 1) true true (by omega) (by omega) r4
                conv => whnf
                refine Fork.mk ?_
                conv => whnf
                refine ih d4 ak mid (lim - 1) rfl rfl eLm (by omega) (by omega) (by omega) (by omega) (by omega) r4 _ ?_
                conv => whnf
                exact ⟨⟨mid + 1, bk, lim - 1, decide (mid - ak ≥ (bk - ak) / 8), ap, pdq ltInt d4 ak mid (lim - 1) true true⟩, ⟨by dsimp only; omega, by dsimp only; omega, by dsimp only; omega, by dsimp only; omega, by dsimp only; rw [pL.1, r3, s3, hds], (r6 _ pL sL).1, by dsimp only; rw [← hR]; exact hp.symm⟩, by dsimp only; omega, rfl, ⟨rfl, avI (incI (by omega)), rfl, avI eLm, congrArg (fun x => AV.p (.b x)) (by rw [em1, e8]; exact decide_eq_decide.2 ⟨fun h => by omega, fun h => by omega⟩), rfl, trivial⟩⟩
              · have h4 := of_decide_eq_false h3
                rw [em1, em2] at h4
                have h5 : ¬ mid - ak < bk - mid := by omega
                have hp := pdq_right (lt := ltInt) (d := dk) (a := ak) (b := bk) (limit := lim) (wb := false) (wp := wp) h12 hl0 hpi2 (by rw [hpi1, epv]; exact h87) (by rw [hpi1, epv, hx]; exact ⟨r1, r2⟩) (by rw [hpi1, epv, hx]; exact h5)
                rw [hpi1, epv, hx, hlm] at hp
                obtain ⟨pL, sL⟩ := pdq_sorts ltInt swo_ltInt d4 (mid + 1) bk (lim - 1) true true (by omega) (by omega) r5
                conv => whnf
                refine Fork.mk ?_
                conv => whnf
                refine ih d4 (mid + 1) bk (lim - 1) (incI (by omega)) rfl eLm (by omega) (by omega) (by omega) (by omega) (by omega) r5 _ ?_
                conv => whnf
                exact ⟨⟨ak, mid, lim - 1, decide (bk - mid ≥ (bk - ak) / 8), ap, pdq ltInt d4 (mid + 1) bk (lim - 1) true true⟩, ⟨by dsimp only; omega, by dsimp only; omega, by dsimp only; omega, by dsimp only; omega, by dsimp only; rw [pL.1, r3, s3, hds], (r7 _ pL sL).1, by dsimp only; rw [← hR]; exact hp.symm⟩, by dsimp only; omega, rfl, ⟨rfl, rfl, rfl, avI eLm, congrArg (fun x => AV.p (.b x)) (by rw [em2, e8]; exact decide_eq_decide.2 ⟨fun h => by omega, fun h => by omega⟩), rfl, trivial⟩⟩
        | true =>
          cases wp with
          | false =>
            have s1 : dk.size = dk.size := s1
            have hlm : (rd ltInt dk ak bk lim true false).lim = lim := rfl
            obtain ⟨C, hC⟩ : ∃ C, C = choosePivot ltInt dk ak bk := ⟨_, rfl⟩
            have hc : (rd ltInt dk ak bk lim true false).c = C := hC.symm
            rw [hc] at hc1
            have cP := f37_ok dk ak bk (by omega) (by omega) (by omega)
            rw [← hC] at cP
            conv => whnf
            refine ⟨_, cP, ?_⟩
            conv => whnf
            by_cases hh : C.2 = .decreasing
            · refine iteT (by rw [hh]; rfl) ?_
              conv => whnf
              refine InlS.exact hcl rfl (fun K2 hK2 => f38_ok h0 dk ak bk rfl rfl (by omega) (by omega) (by omega) K2 hK2) ?_
              conv => whnf
              obtain ⟨e2, epv, eht⟩ := rd_dec (lt := ltInt) (d := dk) (a := ak) (b := bk) (limit := lim) (wb := true) (wp := false) (by rw [hc]; exact hh)
              rw [hc] at epv
              have e2 : (rd ltInt dk ak bk lim true false).d2 = (reverseRange dk ak bk) := e2
              rw [e2] at s2
              have ePT : IntKind.i64.wrap (IntKind.i64.wrap ((bk : Int) - 1) - IntKind.i64.wrap (((C.1 : Nat) : Int) - (ak : Int))) = (((bk - 1) - (C.1 - ak) : Nat) : Int) := by rw [decI (by omega) (by omega), wr_i64 (n := ((C.1 : Nat) : Int) - (ak : Int)) (by omega) (by omega), wr_i64 (by omega) (by omega)]; omega
              have epi := rd_pi_no (lt := ltInt) (d := dk) (a := ak) (b := bk) (limit := lim) (wb := true) (wp := false) rfl
              rw [e2] at epi
              have hpi2 : (rd ltInt dk ak bk lim true false).pi.2 = false := by rw [epi]
              have hpi1 : (rd ltInt dk ak bk lim true false).pi.1 = (reverseRange dk ak bk) := by rw [epi]
              rw [hpi1] at s3 B3
              rw [epv] at hpv
              conv => whnf
              refine iteC (fun k1 => ?_) (fun k1 => ?_)
              · have k2 : (ak : Int) > 0 := of_decide_eq_true k1
                have k3 : 0 < ak := by omega
                have ew : IntKind.i64.wrap ((ak : Int) - 1) = ((ak - 1 : Nat) : Int) := decI (by omega) (by omega)
                have g1 := gQ (d := ((reverseRange dk ak bk))) (i := (ak - 1)) (by omega) (e := IntKind.i64.wrap ((ak : Int) - 1)) ew
                have t1 : (IntKind.i64.wrap ((ak : Int) - 1)).toNat = (ak - 1) := by rw [ew]; rfl
                have n1 := gN (d := ((reverseRange dk ak bk))) (i := (ak - 1)) (by omega) (e := (IntKind.i64.wrap ((ak : Int) - 1)).toNat) t1
                have g2 := gQ (d := ((reverseRange dk ak bk))) (i := ((bk - 1) - (C.1 - ak))) (by omega) (e := IntKind.i64.wrap (IntKind.i64.wrap ((bk : Int) - 1) - IntKind.i64.wrap (((C.1 : Nat) : Int) - (ak : Int)))) ePT
                have t2 : (IntKind.i64.wrap (IntKind.i64.wrap ((bk : Int) - 1) - IntKind.i64.wrap (((C.1 : Nat) : Int) - (ak : Int)))).toNat = ((bk - 1) - (C.1 - ak)) := by rw [ePT]; rfl
                have n2 := gN (d := ((reverseRange dk ak bk))) (i := ((bk - 1) - (C.1 - ak))) (by omega) (e := (IntKind.i64.wrap (IntKind.i64.wrap ((bk : Int) - 1) - IntKind.i64.wrap (((C.1 : Nat) : Int) - (ak : Int)))).toNat) t2
                have c1 := f28_ok ((reverseRange dk ak bk))[ak - 1]! ((reverseRange dk ak bk))[(bk - 1) - (C.1 - ak)]!
                conv => whnf
                iterate 4 (try (conv => arg 2; repeat (first | rw [g1] | rw [n1] | rw [g2] | rw [n2] | (whnf; arg 2))
                                conv => whnf))
                refine ⟨_, c1, ?_⟩
                conv => whnf
                refine iteC (fun k4 => ?_) (fun k4 => ?_)
                · have h87 : (decide (ak > 0) && !ltInt ((reverseRange dk ak bk))[ak - 1]! ((reverseRange dk ak bk))[(bk - 1) - (C.1 - ak)]!) = false := by rw [k4]; simp
                  obtain ⟨mid, ap, d4, hx⟩ : ∃ mid ap d4, partition ltInt ((reverseRange dk ak bk)) ak bk ((bk - 1) - (C.1 - ak)) = (mid, ap, d4) := ⟨_, _, _, rfl⟩
                  obtain ⟨r1, r2, r3, r4, r5, r6, r7⟩ := round_part swo_ltInt (partition_holds _) hpv.1 hpv.2 (show bk ≤ ((reverseRange dk ak bk)).size by omega) B3 hx
                  have em1 : IntKind.i64.wrap ((mid : Int) - (ak : Int)) = ((mid - ak : Nat) : Int) := by rw [wr_i64 (by omega) (by omega)]; omega
                  have em2 : IntKind.i64.wrap ((bk : Int) - (mid : Int)) = ((bk - mid : Nat) : Int) := by rw [wr_i64 (by omega) (by omega)]; omega
                  have e8 : IntKind.i64.wrap ((IntKind.i64.wrap ((bk : Int) - (ak : Int))).tdiv 8) = (((bk - ak) / 8 : Nat) : Int) := by
                    rw [eL, show ((bk - ak : Nat) : Int).tdiv 8 = (((bk - ak) / 8 : Nat) : Int) from by rw [Int.tdiv_eq_ediv_of_nonneg (by omega)]; omega]
                    exact wr_i64 (by omega) (by omega)
                  conv => whnf
                  refine InlS.exact (D := d4) (r := .tup [.p (.i .i64 ((mid : Nat) : Int)), .p (.b ap)]) hcl rfl (fun K2 hK2 => f41_ok h0 ((reverseRange dk ak bk)) ak bk ((bk - 1) - (C.1 - ak)) rfl rfl ePT hpv (by omega) (by omega) K2 (by rw [hx]; exact hK2)) ?_
                  conv => whnf
                  refine Fork.mk ?_
                  conv => whnf
                  refine iteC (fun h3 => ?_) (fun h3 => ?_)
                  · have h4 := of_decide_eq_true h3
                    rw [em1, em2] at h4
                    have h5 : mid - ak < bk - mid := by omega
                    have hp := pdq_left (lt := ltInt) (d := dk) (a := ak) (b := bk) (limit := lim) (wb := true) (wp := false) h12 hl0 hpi2 (by rw [hpi1, epv]; exact h87) (by rw [hpi1, epv, hx]; exact ⟨r1, r2⟩) (by rw [hpi1, epv, hx]; exact h5)
                    rw [hpi1, epv, hx, hlm] at hp
                    obtain ⟨pL, sL⟩ := pdq_sorts ltInt swo_ltInt d4 ak mid (lim) true true (by omega) (by omega) r4
                    conv => whnf
                    refine Fork.mk ?_
                    conv => whnf
                    refine ih d4 ak mid (lim) rfl rfl rfl (by omega) (by omega) (by omega) (by omega) (by omega) r4 _ ?_
                    conv => whnf
                    exact ⟨⟨mid + 1, bk, lim, decide (mid - ak ≥ (bk - ak) / 8), ap, pdq ltInt d4 ak mid (lim) true true⟩, ⟨by dsimp only; omega, by dsimp only; omega, by dsimp only; omega, by dsimp only; omega, by dsimp only; rw [pL.1, r3, s3, hds], (r6 _ pL sL).1, by dsimp only; rw [← hR]; exact hp.symm⟩, by dsimp only; omega, rfl, ⟨rfl, avI (incI (by omega)), rfl, avI rfl, congrArg (fun x => AV.p (.b x)) (by rw [em1, e8]; exact decide_eq_decide.2 ⟨fun h => by omega, fun h => by omega⟩), rfl, trivial⟩⟩
                  · have h4 := of_decide_eq_false h3
                    rw [em1, em2] at h4
                    have h5 : ¬ mid - ak < bk - mid := by omega
                    have hp := pdq_right (lt := ltInt) (d := dk) (a := ak) (b := bk) (limit := lim) (wb := true) (wp := false) h12 hl0 hpi2 (by rw [hpi1, epv]; exact h87) (by rw [hpi1, epv, hx]; exact ⟨r1, r2⟩) (by rw [hpi1, epv, hx]; exact h5)
                    rw [hpi1, epv, hx, hlm] at hp
                    obtain ⟨pL, sL⟩ := pdq_sorts ltInt swo_ltInt d4 (mid + 1) bk (lim) true true (by omega) (by omega) r5
                    conv => whnf
                    refine Fork.mk ?_
                    conv => whnf
                    refine ih d4 (mid + 1) bk (lim) (incI (by omega)) rfl rfl (by omega) (by omega) (by omega) (by omega) (by omega) r5 _ ?_
                    conv => whnf
                    exact ⟨⟨ak, mid, lim, decide (bk - mid ≥ (bk - ak) / 8), ap, pdq ltInt d4 (mid + 1) bk (lim) true true⟩, ⟨by dsimp only; omega, by dsimp only; omega, by dsimp only; omega, by dsimp only; omega, by dsimp only; rw [pL.1, r3, s3, hds], (r7 _ pL sL).1, by dsimp only; rw [← hR]; exact hp.symm⟩, by dsimp only; omega, rfl, ⟨rfl, rfl, rfl, avI rfl, congrArg (fun x => AV.p (.b x)) (by rw [em2, e8]; exact decide_eq_decide.2 ⟨fun h => by omega, fun h => by omega⟩), rfl, trivial⟩⟩
                · have h87 : (decide (ak > 0) && !ltInt ((reverseRange dk ak bk))[ak - 1]! ((reverseRange dk ak bk))[(bk - 1) - (C.1 - ak)]!) = true := by rw [k4, decide_eq_true k3]; rfl
                  obtain ⟨mid, d4, hx⟩ : ∃ mid d4, partitionEqual ltInt ((reverseRange dk ak bk)) ak bk ((bk - 1) - (C.1 - ak)) = (mid, d4) := ⟨_, _, rfl⟩
                  obtain ⟨r1, r2, r3, r4, _⟩ := round_eq swo_ltInt (partitionEqual_holds _) k3 hpv.1 hpv.2 (show bk ≤ ((reverseRange dk ak bk)).size by omega) B3 k4 hx
                  have hp := pdq_eq (lt := ltInt) (d := dk) (a := ak) (b := bk) (limit := lim) (wb := true) (wp := false) h12 hl0 hpi2 (by rw [hpi1, epv]; exact h87) (by rw [hpi1, epv, hx]; exact ⟨r1, r2⟩)
                  rw [hpi1, epv, hx, hlm] at hp
                  conv => whnf
                  refine InlS.exact (D := d4) (r := .p (.i .i64 ((mid : Nat) : Int))) hcl rfl (fun K2 hK2 => f40_ok h0 ((reverseRange dk ak bk)) ak bk ((bk - 1) - (C.1 - ak)) rfl rfl ePT hpv (by omega) (by omega) K2 (by rw [hx]; exact hK2)) ?_
                  conv => whnf
                  exact ⟨⟨mid, bk, lim, true, false, d4⟩, ⟨by dsimp only; omega, by dsimp only; omega, by dsimp only; omega, by dsimp only; omega, by dsimp only; rw [r3, s3, hds], r4, by dsimp only; rw [← hR]; exact hp.symm⟩, by dsimp only; omega, rfl, ⟨rfl, rfl, rfl, avI rfl, rfl, rfl, trivial⟩⟩
              · have k2 : ¬ (ak : Int) > 0 := of_decide_eq_false k1
                have h87 : (decide (ak > 0) && !ltInt ((reverseRange dk ak bk))[ak - 1]! ((reverseRange dk ak bk))[(bk - 1) - (C.1 - ak)]!) = false := by rw [decide_eq_false (show ¬ ak > 0 by omega)]; rfl
                obtain ⟨mid, ap, d4, hx⟩ : ∃ mid ap d4, partition ltInt ((reverseRange dk ak bk)) ak bk ((bk - 1) - (C.1 - ak)) = (mid, ap, d4) := ⟨_, _, _, rfl⟩
                obtain ⟨r1, r2, r3, r4, r5, r6, r7⟩ := round_part swo_ltInt (partition_holds _) hpv.1 hpv.2 (show bk ≤ ((reverseRange dk ak bk)).size by omega) B3 hx
                have em1 : IntKind.i64.wrap ((mid : Int) - (ak : Int)) = ((mid - ak : Nat) : Int) := by rw [wr_i64 (by omega) (by omega)]; omega
                have em2 : IntKind.i64.wrap ((bk : Int) - (mid : Int)) = ((bk - mid : Nat) : Int) := by rw [wr_i64 (by omega) (by omega)]; omega
                have e8 : IntKind.i64.wrap ((IntKind.i64.wrap ((bk : Int) - (ak : Int))).tdiv 8) = (((bk - ak) / 8 : Nat) : Int) := by
                  rw [eL, show ((bk - ak : Nat) : Int).tdiv 8 = (((bk - ak) / 8 : Nat) : Int) from by rw [Int.tdiv_eq_ediv_of_nonneg (by omega)]; omega]
                  exact wr_i64 (by omega) (by omega)
                conv => whnf
                refine InlS.exact (D := d4) (r := .tup [.p (.i .i64 ((mid : Nat) : Int)), .p (.b ap)]) hcl rfl (fun K2 hK2 => f41_ok h0 ((reverseRange dk ak bk)) ak bk ((bk - 1) - (C.1 - ak)) rfl rfl ePT hpv (by omega) (by omega) K2 (by rw [hx]; exact hK2)) ?_
                conv => whnf
                refine Fork.mk ?_
                conv => whnf
                refine iteC (fun h3 => ?_) (fun h3 => ?_)
                · have h4 := of_decide_eq_true h3
                  rw [em1, em2] at h4
                  have h5 : mid - ak < bk - mid := by omega
                  have hp := pdq_left (lt := ltInt) (d := dk) (a := ak) (b := bk) (limit := lim) (wb := true) (wp := false) h12 hl0 hpi2 (by rw [hpi1, epv]; exact h87) (by rw [hpi1, epv, hx]; exact ⟨r1, r2⟩) (by rw [hpi1, epv, hx]; exact h5)
                  rw [hpi1, epv, hx, hlm] at hp
                  obtain ⟨pL, sL⟩ := pdq_sorts ltInt swo_ltInt d4 ak mid (lim) true true (by omega) (by omega) r4
                  conv => whnf
                  refine Fork.mk ?_
                  conv => whnf
                  refine ih d4 ak mid (lim) rfl rfl rfl (by omega) (by omega) (by omega) (by omega) (by omega) r4 _ ?_
                  conv => whnf
                  exact ⟨⟨mid + 1, bk, lim, decide (mid - ak ≥ (bk - ak) / 8), ap, pdq ltInt d4 ak mid (lim) true true⟩, ⟨by dsimp only; omega, by dsimp only; omega, by dsimp only; omega, by dsimp only; omega, by dsimp only; rw [pL.1, r3, s3, hds], (r6 _ pL sL).1, by dsimp only; rw [← hR]; exact hp.symm⟩, by dsimp only; omega, rfl, ⟨rfl, avI (incI (by omega)), rfl, avI rfl, congrArg (fun x => AV.p (.b x)) (by rw [em1, e8]; exact decide_eq_decide.2 ⟨fun h => by omega, fun h => by omega⟩), rfl, trivial⟩⟩
                · have h4 := of_decide_eq_false h3
                  rw [em1, em2] at h4
                  have h5 : ¬ mid - ak < bk - mid := by omega
                  have hp := pdq_right (lt := ltInt) (d := dk) (a := ak) (b := bk) (limit := lim) (wb := true) (wp := false) h12 hl0 hpi2 (by rw [hpi1, epv]; exact h87) (by rw [hpi1, epv, hx]; exact ⟨r1, r2⟩) (by rw [hpi1, epv, hx]; exact h5)
                  rw [hpi1, epv, hx, hlm] at hp
                  obtain ⟨pL, sL⟩ := pdq_sorts ltInt swo_ltInt d4 (mid + 1) bk (lim) true true (by omega) (by omega) r5
                  conv => whnf
                  refine Fork.mk ?_
                  conv => whnf
                  refine ih d4 (mid + 1) bk (lim) (incI (by omega)) rfl rfl (by omega) (by omega) (by omega) (by omega) (by omega) r5 _ ?_
                  conv => whnf
                  exact ⟨⟨ak, mid, lim, decide (bk - mid ≥ (bk - ak) / 8), ap, pdq ltInt d4 (mid + 1) bk (lim) true true⟩, ⟨by dsimp only; omega, by dsimp only; omega, by dsimp only; omega, by dsimp only; omega, by dsimp only; rw [pL.1, r3, s3, hds], (r7 _ pL sL).1, by dsimp only; rw [← hR]; exact hp.symm⟩, by dsimp only; omega, rfl, ⟨rfl, rfl, rfl, avI rfl, congrArg (fun x => AV.p (.b x)) (by rw [em2, e8]; exact decide_eq_decide.2 ⟨fun h => by omega, fun h => by omega⟩), rfl, trivial⟩⟩
            · refine iteF (by simpa using fun e => hh (hint2 e)) ?_
              obtain ⟨e2, epv, eht⟩ := rd_not (lt := ltInt) (d := dk) (a := ak) (b := bk) (limit := lim) (wb := true) (wp := false) (by rw [hc]; exact hh)
              rw [hc] at epv eht
              have e2 : (rd ltInt dk ak bk lim true false).d2 = dk := e2
              rw [e2] at s2
              have epi := rd_pi_no (lt := ltInt) (d := dk) (a := ak) (b := bk) (limit := lim) (wb := true) (wp := false) rfl
              rw [e2] at epi
              have hpi2 : (rd ltInt dk ak bk lim true false).pi.2 = false := by rw [epi]
              have hpi1 : (rd ltInt dk ak bk lim true false).pi.1 = dk := by rw [epi]
              rw [hpi1] at s3 B3
              rw [epv] at hpv
              conv => whnf
              refine iteC (fun k1 => ?_) (fun k1 => ?_)
              · have k2 : (ak : Int) > 0 := of_decide_eq_true k1
                have k3 : 0 < ak := by omega
                have ew : IntKind.i64.wrap ((ak : Int) - 1) = ((ak - 1 : Nat) : Int) := decI (by omega) (by omega)
                have g1 := gQ (d := (dk)) (i := (ak - 1)) (by omega) (e := IntKind.i64.wrap ((ak : Int) - 1)) ew
                have t1 : (IntKind.i64.wrap ((ak : Int) - 1)).toNat = (ak - 1) := by rw [ew]; rfl
                have n1 := gN (d := (dk)) (i := (ak - 1)) (by omega) (e := (IntKind.i64.wrap ((ak : Int) - 1)).toNat) t1
                have g2 := gQ (d := (dk)) (i := (C.1)) (by omega) (e := ((C.1 : Nat) : Int)) rfl
                have t2 : (((C.1 : Nat) : Int)).toNat = (C.1) := rfl
                have n2 := gN (d := (dk)) (i := (C.1)) (by omega) (e := (((C.1 : Nat) : Int)).toNat) t2
                have c1 := f28_ok (dk)[ak - 1]! (dk)[C.1]!
                conv => whnf
                iterate 4 (try (conv => arg 2; repeat (first | rw [g1] | rw [n1] | rw [g2] | rw [n2] | (whnf; arg 2))
                                conv => whnf))
                refine ⟨_, c1, ?_⟩
                conv => whnf
                refine iteC (fun k4 => ?_) (fun k4 => ?_)
                · have h87 : (decide (ak > 0) && !ltInt (dk)[ak - 1]! (dk)[C.1]!) = false := by rw [k4]; simp
                  obtain ⟨mid, ap, d4, hx⟩ : ∃ mid ap d4, partition ltInt (dk) ak bk (C.1) = (mid, ap, d4) := ⟨_, _, _, rfl⟩
                  obtain ⟨r1, r2, r3, r4, r5, r6, r7⟩ := round_part swo_ltInt (partition_holds _) hpv.1 hpv.2 (show bk ≤ (dk).size by omega) B3 hx
                  have em1 : IntKind.i64.wrap ((mid : Int) - (ak : Int)) = ((mid - ak : Nat) : Int) := by rw [wr_i64 (by omega) (by omega)]; omega
                  have em2 : IntKind.i64.wrap ((bk : Int) - (mid : Int)) = ((bk - mid : Nat) : Int) := by rw [wr_i64 (by omega) (by omega)]; omega
                  have e8 : IntKind.i64.wrap ((IntKind.i64.wrap ((bk : Int) - (ak : Int))).tdiv 8) = (((bk - ak) / 8 : Nat) : Int) := by
                    rw [eL, show ((bk - ak : Nat) : Int).tdiv 8 = (((bk - ak) / 8 : Nat) : Int) from by rw [Int.tdiv_eq_ediv_of_nonneg (by omega)]; omega]
                    exact wr_i64 (by omega) (by omega)
                  conv => whnf
                  refine InlS.exact (D := d4) (r := .tup [.p (.i .i64 ((mid : Nat) : Int)), .p (.b ap)]) hcl rfl (fun K2 hK2 => f41_ok h0 (dk) ak bk (C.1) rfl rfl rfl hpv (by omega) (by omega) K2 (by rw [hx]; exact hK2)) ?_
                  conv => whnf
                  refine Fork.mk ?_
                  conv => whnf
                  refine iteC (fun h3 => ?_) (fun h3 => ?_)
                  · have h4 := of_decide_eq_true h3
                    rw [em1, em2] at h4
                    have h5 : mid - ak < bk - mid := by omega
                    have hp := pdq_left (lt := ltInt) (d := dk) (a := ak) (b := bk) (limit := lim) (wb := true) (wp := false) h12 hl0 hpi2 (by rw [hpi1, epv]; exact h87) (by rw [hpi1, epv, hx]; exact ⟨r1, r2⟩) (by rw [hpi1, epv, hx]; exact h5)
                    rw [hpi1, epv, hx, hlm] at hp
                    obtain ⟨pL, sL⟩ := pdq_sorts ltInt swo_ltInt d4 ak mid (lim) true true (by omega) (by omega) r4
                    conv => whnf
                    refine Fork.mk ?_
                    conv => whnf
                    refine ih d4 ak mid (lim) rfl rfl rfl (by omega) (by omega) (by omega) (by omega) (by omega) r4 _ ?_
                    conv => whnf
                    exact ⟨⟨mid + 1, bk, lim, decide (mid - ak ≥ (bk - ak) / 8), ap, pdq ltInt d4 ak mid (lim) true true⟩, ⟨by dsimp only; omega, by dsimp only; omega, by dsimp only; omega, by dsimp only; omega, by dsimp only; rw [pL.1, r3, s3, hds], (r6 _ pL sL).1, by dsimp only; rw [← hR]; exact hp.symm⟩, by dsimp only; omega, rfl, ⟨rfl, avI (incI (by omega)), rfl, avI rfl, congrArg (fun x => AV.p (.b x)) (by rw [em1, e8]; exact decide_eq_decide.2 ⟨fun h => by omega, fun h => by omega⟩), rfl, trivial⟩⟩
                  · have h4 := of_decide_eq_false h3
                    rw [em1, em2] at h4
                    have h5 : ¬ mid - ak < bk - mid := by omega
                    have hp := pdq_right (lt := ltInt) (d := dk) (a := ak) (b := bk) (limit := lim) (wb := true) (wp := false) h12 hl0 hpi2 (by rw [hpi1, epv]; exact h87) (by rw [hpi1, epv, hx]; exact ⟨r1, r2⟩) (by rw [hpi1, epv, hx]; exact h5)
                    rw [hpi1, epv, hx, hlm] at hp
                    obtain ⟨pL, sL⟩ := pdq_sorts ltInt swo_ltInt d4 (mid + 1) bk (lim) true true (by omega) (by omega) r5
                    conv => whnf
                    refine Fork.mk ?_
                    conv => whnf
                    refine ih d4 (mid + 1) bk (lim) (incI (by omega)) rfl rfl (by omega) (by omega) (by omega) (by omega) (by omega) r5 _ ?_
                    conv => whnf
                    exact ⟨⟨ak, mid, lim, decide (bk - mid ≥ (bk - ak) / 8), ap, pdq ltInt d4 (mid + 1) bk (lim) true true⟩, ⟨by dsimp only; omega, by dsimp only; omega, by dsimp only; omega, by dsimp only; omega, by dsimp only; rw [pL.1, r3, s3, hds], (r7 _ pL sL).1, by dsimp only; rw [← hR]; exact hp.symm⟩, by dsimp only; omega, rfl, ⟨rfl, rfl, rfl, avI rfl, congrArg (fun x => AV.p (.b x)) (by rw [em2, e8]; exact decide_eq_decide.2 ⟨fun h => by omega, fun h => by omega⟩), rfl, trivial⟩⟩
                · have h87 : (decide (ak > 0) && !ltInt (dk)[ak - 1]! (dk)[C.1]!) = true := by rw [k4, decide_eq_true k3]; rfl
                  obtain ⟨mid, d4, hx⟩ : ∃ mid d4, partitionEqual ltInt (dk) ak bk (C.1) = (mid, d4) := ⟨_, _, rfl⟩
                  obtain ⟨r1, r2, r3, r4, _⟩ := round_eq swo_ltInt (partitionEqual_holds _) k3 hpv.1 hpv.2 (show bk ≤ (dk).size by omega) B3 k4 hx
                  have hp := pdq_eq (lt := ltInt) (d := dk) (a := ak) (b := bk) (limit := lim) (wb := true) (wp := false) h12 hl0 hpi2 (by rw [hpi1, epv]; exact h87) (by rw [hpi1, epv, hx]; exact ⟨r1, r2⟩)
                  rw [hpi1, epv, hx, hlm] at hp
                  conv => whnf
                  refine InlS.exact (D := d4) (r := .p (.i .i64 ((mid : Nat) : Int))) hcl rfl (fun K2 hK2 => f40_ok h0 (dk) ak bk (C.1) rfl rfl rfl hpv (by omega) (by omega) K2 (by rw [hx]; exact hK2)) ?_
                  conv => whnf
                  exact ⟨⟨mid, bk, lim, true, false, d4⟩, ⟨by dsimp only; omega, by dsimp only; omega, by dsimp only; omega, by dsimp only; omega, by dsimp only; rw [r3, s3, hds], r4, by dsimp only; rw [← hR]; exact hp.symm⟩, by dsimp only; omega, rfl, ⟨rfl, rfl, rfl, avI rfl, rfl, rfl, trivial⟩⟩
              · have k2 : ¬ (ak : Int) > 0 := of_decide_eq_false k1
                have h87 : (decide (ak > 0) && !ltInt (dk)[ak - 1]! (dk)[C.1]!) = false := by rw [decide_eq_false (show ¬ ak > 0 by omega)]; rfl
                obtain ⟨mid, ap, d4, hx⟩ : ∃ mid ap d4, partition ltInt (dk) ak bk (C.1) = (mid, ap, d4) := ⟨_, _, _, rfl⟩
                obtain ⟨r1, r2, r3, r4, r5, r6, r7⟩ := round_part swo_ltInt (partition_holds _) hpv.1 hpv.2 (show bk ≤ (dk).size by omega) B3 hx
                have em1 : IntKind.i64.wrap ((mid : Int) - (ak : Int)) = ((mid - ak : Nat) : Int) := by rw [wr_i64 (by omega) (by omega)]; omega
                have em2 : IntKind.i64.wrap ((bk : Int) - (mid : Int)) = ((bk - mid : Nat) : Int) := by rw [wr_i64 (by omega) (by omega)]; omega
                have e8 : IntKind.i64.wrap ((IntKind.i64.wrap ((bk : Int) - (ak : Int))).tdiv 8) = (((bk - ak) / 8 : Nat) : Int) := by
                  rw [eL, show ((bk - ak : Nat) : Int).tdiv 8 = (((bk - ak) / 8 : Nat) : Int) from by rw [Int.tdiv_eq_ediv_of_nonneg (by omega)]; omega]
                  exact wr_i64 (by omega) (by omega)
                conv => whnf
                refine InlS.exact (D := d4) (r := .tup [.p (.i .i64 ((mid : Nat) : Int)), .p (.b ap)]) hcl rfl (fun K2 hK2 => f41_ok h0 (dk) ak bk (C.1) rfl rfl rfl hpv (by omega) (by omega) K2 (by rw [hx]; exact hK2)) ?_
                conv => whnf
                refine Fork.mk ?_
                conv => whnf
                refine iteC (fun h3 => ?_) (fun h3 => ?_)
                · have h4 := of_decide_eq_true h3
                  rw [em1, em2] at h4
                  have h5 : mid - ak < bk - mid := by omega
                  have hp := pdq_left (lt := ltInt) (d := dk) (a := ak) (b := bk) (limit := lim) (wb := true) (wp := false) h12 hl0 hpi2 (by rw [hpi1, epv]; exact h87) (by rw [hpi1, epv, hx]; exact ⟨r1, r2⟩) (by rw [hpi1, epv, hx]; exact h5)
                  rw [hpi1, epv, hx, hlm] at hp
                  obtain ⟨pL, sL⟩ := pdq_sorts ltInt swo_ltInt d4 ak mid (lim) true true (by omega) (by omega) r4
                  conv => whnf
                  refine Fork.mk ?_
                  conv => whnf
                  refine ih d4 ak mid (lim) rfl rfl rfl (by omega) (by omega) (by omega) (by omega) (by omega) r4 _ ?_
                  conv => whnf
                  exact ⟨⟨mid + 1, bk, lim, decide (mid - ak ≥ (bk - ak) / 8), ap, pdq ltInt d4 ak mid (lim) true true⟩, ⟨by dsimp only; omega, by dsimp only; omega, by dsimp only; omega, by dsimp only; omega, by dsimp only; rw [pL.1, r3, s3, hds], (r6 _ pL sL).1, by dsimp only; rw [← hR]; exact hp.symm⟩, by dsimp only; omega, rfl, ⟨rfl, avI (incI (by omega)), rfl, avI rfl, congrArg (fun x => AV.p (.b x)) (by rw [em1, e8]; exact decide_eq_decide.2 ⟨fun h => by omega, fun h => by omega⟩), rfl, trivial⟩⟩
                · have h4 := of_decide_eq_false h3
                  rw [em1, em2] at h4
                  have h5 : ¬ mid - ak < bk - mid := by omega
                  have hp := pdq_right (lt := ltInt) (d := dk) (a := ak) (b := bk) (limit := lim) (wb := true) (wp := false) h12 hl0 hpi2 (by rw [hpi1, epv]; exact h87) (by rw [hpi1, epv, hx]; exact ⟨r1, r2⟩) (by rw [hpi1, epv, hx]; exact h5)
                  rw [hpi1, epv, hx, hlm] at hp
                  obtain ⟨pL, sL⟩ := pdq_sorts ltInt swo_ltInt d4 (mid + 1) bk (lim) true true (by omega) (by omega) r5
                  conv => whnf
                  refine Fork.mk ?_
                  conv => whnf
                  refine ih d4 (mid + 1) bk (lim) (incI (by omega)) rfl rfl (by omega) (by omega) (by omega) (by omega) (by omega) r5 _ ?_
                  conv => whnf
                  exact ⟨⟨ak, mid, lim, decide (bk - mid ≥ (bk - ak) / 8), ap, pdq ltInt d4 (mid + 1) bk (lim) true true⟩, ⟨by dsimp only; omega, by dsimp only; omega, by dsimp only; omega, by dsimp only; omega, by dsimp only; rw [pL.1, r3, s3, hds], (r7 _ pL sL).1, by dsimp only; rw [← hR]; exact hp.symm⟩, by dsimp only; omega, rfl, ⟨rfl, rfl, rfl, avI rfl, congrArg (fun x => AV.p (.b x)) (by rw [em2, e8]; exact decide_eq_decide.2 ⟨fun h => by omega, fun h => by omega⟩), rfl, trivial⟩⟩
          | true =>
            have s1 : dk.size = dk.size := s1
            have hlm : (rd ltInt dk ak bk lim true true).lim = lim := rfl
            obtain ⟨C, hC⟩ : ∃ C, C = choosePivot ltInt dk ak bk := ⟨_, rfl⟩
            have hc : (rd ltInt dk ak bk lim true true).c = C := hC.symm
            rw [hc] at hc1
            have cP := f37_ok dk ak bk (by omega) (by omega) (by omega)
            rw [← hC] at cP
            conv => whnf
            refine ⟨_, cP, ?_⟩
            conv => whnf
            by_cases hh : C.2 = .decreasing
            · refine iteT (by rw [hh]; rfl) ?_
              conv => whnf
              refine InlS.exact hcl rfl (fun K2 hK2 => f38_ok h0 dk ak bk rfl rfl (by omega) (by omega) (by omega) K2 hK2) ?_
              conv => whnf
              obtain ⟨e2, epv, eht⟩ := rd_dec (lt := ltInt) (d := dk) (a := ak) (b := bk) (limit := lim) (wb := true) (wp := true) (by rw [hc]; exact hh)
              rw [hc] at epv
              have e2 : (rd ltInt dk ak bk lim true true).d2 = (reverseRange dk ak bk) := e2
              rw [e2] at s2
              have ePT : IntKind.i64.wrap (IntKind.i64.wrap ((bk : Int) - 1) - IntKind.i64.wrap (((C.1 : Nat) : Int) - (ak : Int))) = (((bk - 1) - (C.1 - ak) : Nat) : Int) := by rw [decI (by omega) (by omega), wr_i64 (n := ((C.1 : Nat) : Int) - (ak : Int)) (by omega) (by omega), wr_i64 (by omega) (by omega)]; omega
              refine iteT rfl ?_
              have epi := rd_pi_yes (lt := ltInt) (d := dk) (a := ak) (b := bk) (limit := lim) (wb := true) (wp := true) (by rw [eht]; rfl)
              rw [e2] at epi
              obtain ⟨Q, hQ⟩ : ∃ Q, Q = partialInsertionSort ltInt (reverseRange dk ak bk) ak bk := ⟨_, rfl⟩
              rw [← hQ] at epi
              conv => whnf
              refine InlS.exact (D := Q.1) (r := .p (.b Q.2)) hcl rfl (fun K2 hK2 => f39_ok h0 (reverseRange dk ak bk) ak bk rfl rfl (by omega) (by omega) (by omega) K2 (by rw [← hQ]; exact hK2)) ?_
              conv => whnf
              refine iteC (fun q2 => ?_) (fun q2 => ?_)
              · have hpi2 : (rd ltInt dk ak bk lim true true).pi.2 = true := by rw [epi]; exact q2
                conv => whnf
                rw [← hR, pdq_done h12 hl0 hpi2, epi] at hK
                exact hK
              · have hpi2 : (rd ltInt dk ak bk lim true true).pi.2 = false := by rw [epi]; exact q2
                have hpi1 : (rd ltInt dk ak bk lim true true).pi.1 = Q.1 := by rw [epi]
                rw [hpi1] at s3 B3
                rw [epv] at hpv
                conv => whnf
                refine iteC (fun k1 => ?_) (fun k1 => ?_)
                · have k2 : (ak : Int) > 0 := of_decide_eq_true k1
                  have k3 : 0 < ak := by omega
                  have ew : IntKind.i64.wrap ((ak : Int) - 1) = ((ak - 1 : Nat) : Int) := decI (by omega) (by omega)
                  have g1 := gQ (d := (Q.1)) (i := (ak - 1)) (by omega) (e := IntKind.i64.wrap ((ak : Int) - 1)) ew
                  have t1 : (IntKind.i64.wrap ((ak : Int) - 1)).toNat = (ak - 1) := by rw [ew]; rfl
                  have n1 := gN (d := (Q.1)) (i := (ak - 1)) (by omega) (e := (IntKind.i64.wrap ((ak : Int) - 1)).toNat) t1
                  have g2 := gQ (d := (Q.1)) (i := ((bk - 1) - (C.1 - ak))) (by omega) (e := IntKind.i64.wrap (IntKind.i64.wrap ((bk : Int) - 1) - IntKind.i64.wrap (((C.1 : Nat) : Int) - (ak : Int)))) ePT
                  have t2 : (IntKind.i64.wrap (IntKind.i64.wrap ((bk : Int) - 1) - IntKind.i64.wrap (((C.1 : Nat) : Int) - (ak : Int)))).toNat = ((bk - 1) - (C.1 - ak)) := by rw [ePT]; rfl
                  have n2 := gN (d := (Q.1)) (i := ((bk - 1) - (C.1 - ak))) (by omega) (e := (IntKind.i64.wrap (IntKind.i64.wrap ((bk : Int) - 1) - IntKind.i64.wrap (((C.1 : Nat) : Int) - (ak : Int)))).toNat) t2
                  have c1 := f28_ok (Q.1)[ak - 1]! (Q.1)[(bk - 1) - (C.1 - ak)]!
                  conv => whnf
                  iterate 4 (try (conv => arg 2; repeat (first | rw [g1] | rw [n1] | rw [g2] | rw [n2] | (whnf; arg 2))
                                  conv => whnf))
                  refine ⟨_, c1, ?_⟩
                  conv => whnf
                  refine iteC (fun k4 => ?_) (fun k4 => ?_)
                  · have h87 : (decide (ak > 0) && !ltInt (Q.1)[ak - 1]! (Q.1)[(bk - 1) - (C.1 - ak)]!) = false := by rw [k4]; simp
                    obtain ⟨mid, ap, d4, hx⟩ : ∃ mid ap d4, partition ltInt (Q.1) ak bk ((bk - 1) - (C.1 - ak)) = (mid, ap, d4) := ⟨_, _, _, rfl⟩
                    obtain ⟨r1, r2, r3, r4, r5, r6, r7⟩ := round_part swo_ltInt (partition_holds _) hpv.1 hpv.2 (show bk ≤ (Q.1).size by omega) B3 hx
                    have em1 : IntKind.i64.wrap ((mid : Int) - (ak : Int)) = ((mid - ak : Nat) : Int) := by rw [wr_i64 (by omega) (by omega)]; omega
                    have em2 : IntKind.i64.wrap ((bk : Int) - (mid : Int)) = ((bk - mid : Nat) : Int) := by rw [wr_i64 (by omega) (by omega)]; omega
                    have e8 : IntKind.i64.wrap ((IntKind.i64.wrap ((bk : Int) - (ak : Int))).tdiv 8) = (((bk - ak) / 8 : Nat) : Int) := by
                      rw [eL, show ((bk - ak : Nat) : Int).tdiv 8 = (((bk - ak) / 8 : Nat) : Int) from by rw [Int.tdiv_eq_ediv_of_nonneg (by omega)]; omega]
                      exact wr_i64 (by omega) (by omega)
                    conv => whnf
                    refine InlS.exact (D := d4) (r := .tup [.p (.i .i64 ((mid : Nat) : Int)), .p (.b ap)]) hcl rfl (fun K2 hK2 => f41_ok h0 (Q.1) ak bk ((bk - 1) - (C.1 - ak)) rfl rfl ePT hpv (by omega) (by omega) K2 (by rw [hx]; exact hK2)) ?_
                    conv => whnf
                    refine Fork.mk ?_
                    conv => whnf
                    refine iteC (fun h3 => ?_) (fun h3 => ?_)
                    · have h4 := of_decide_eq_true h3
                      rw [em1, em2] at h4
                      have h5 : mid - ak < bk - mid := by omega
                      have hp := pdq_left (lt := ltInt) (d := dk) (a := ak) (b := bk) (limit := lim) (wb := true) (wp := true) h12 hl0 hpi2 (by rw [hpi1, epv]; exact h87) (by rw [hpi1, epv, hx]; exact ⟨r1, r2⟩) (by rw [hpi1, epv, hx]; exact h5)
                      rw [hpi1, epv, hx, hlm] at hp
                      obtain ⟨pL, sL⟩ := pdq_sorts ltInt swo_ltInt d4 ak mid (lim) true true (by omega) (by omega) r4
                      conv => whnf
                      refine Fork.mk ?_
                      conv => whnf
                      refine ih d4 ak mid (lim) rfl rfl rfl (by omega) (by omega) (by omega) (by omega) (by omega) r4 _ ?_
                      conv => whnf
                      exact ⟨⟨mid + 1, bk, lim, decide (mid - ak ≥ (bk - ak) / 8), ap, pdq ltInt d4 ak mid (lim) true true⟩, ⟨by dsimp only; omega, by dsimp only; omega, by dsimp only; omega, by dsimp only; omega, by dsimp only; rw [pL.1, r3, s3, hds], (r6 _ pL sL).1, by dsimp only; rw [← hR]; exact hp.symm⟩, by dsimp only; omega, rfl, ⟨rfl, avI (incI (by omega)), rfl, avI rfl, congrArg (fun x => AV.p (.b x)) (by rw [em1, e8]; exact decide_eq_decide.2 ⟨fun h => by omega, fun h => by omega⟩), rfl, trivial⟩⟩
                    · have h4 := of_decide_eq_false h3
                      rw [em1, em2] at h4
                      have h5 : ¬ mid - ak < bk - mid := by omega
                      have hp := pdq_right (lt := ltInt) (d := dk) (a := ak) (b := bk) (limit := lim) (wb := true) (wp := true) h12 hl0 hpi2 (by rw [hpi1, epv]; exact h87) (by rw [hpi1, epv, hx]; exact ⟨r1, r2⟩) (by rw [hpi1, epv, hx]; exact h5)
                      rw [hpi1, epv, hx, hlm] at hp
                      obtain ⟨pL, sL⟩ := pdq_sorts ltInt swo_ltInt d4 (mid + 1) bk (lim) true true (by omega) (by omega) r5
                      conv => whnf
                      refine Fork.mk ?_
                      conv => whnf
                      refine ih d4 (mid + 1) bk (lim) (incI (by omega)) rfl rfl (by omega) (by omega) (by omega) (by omega) (by omega) r5 _ ?_
                      conv => whnf
                      exact ⟨⟨ak, mid, lim, decide (bk - mid ≥ (bk - ak) / 8), ap, pdq ltInt d4 (mid + 1) bk (lim) true true⟩, ⟨by dsimp only; omega, by dsimp only; omega, by dsimp only; omega, by dsimp only; omega, by dsimp only; rw [pL.1, r3, s3, hds], (r7 _ pL sL).1, by dsimp only; rw [← hR]; exact hp.symm⟩, by dsimp only; omega, rfl, ⟨rfl, rfl, rfl, avI rfl, congrArg (fun x => AV.p (.b x)) (by rw [em2, e8]; exact decide_eq_decide.2 ⟨fun h => by omega, fun h => by omega⟩), rfl, trivial⟩⟩
                  · have h87 : (decide (ak > 0) && !ltInt (Q.1)[ak - 1]! (Q.1)[(bk - 1) - (C.1 - ak)]!) = true := by rw [k4, decide_eq_true k3]; rfl
                    obtain ⟨mid, d4, hx⟩ : ∃ mid d4, partitionEqual ltInt (Q.1) ak bk ((bk - 1) - (C.1 - ak)) = (mid, d4) := ⟨_, _, rfl⟩
                    obtain ⟨r1, r2, r3, r4, _⟩ := round_eq swo_ltInt (partitionEqual_holds _) k3 hpv.1 hpv.2 (show bk ≤ (Q.1).size by omega) B3 k4 hx
                    have hp := pdq_eq (lt := ltInt) (d := dk) (a := ak) (b := bk) (limit := lim) (wb := true) (wp := true) h12 hl0 hpi2 (by rw [hpi1, epv]; exact h87) (by rw [hpi1, epv, hx]; exact ⟨r1, r2⟩)
                    rw [hpi1, epv, hx, hlm] at hp
                    conv => whnf
                    refine InlS.exact (D := d4) (r := .p (.i .i64 ((mid : Nat) : Int))) hcl rfl (fun K2 hK2 => f40_ok h0 (Q.1) ak bk ((bk - 1) - (C.1 - ak)) rfl rfl ePT hpv (by omega) (by omega) K2 (by rw [hx]; exact hK2)) ?_
                    conv => whnf
                    exact ⟨⟨mid, bk, lim, true, true, d4⟩, ⟨by dsimp only; omega, by dsimp only; omega, by dsimp only; omega, by dsimp only; omega, by dsimp only; rw [r3, s3, hds], r4, by dsimp only; rw [← hR]; exact hp.symm⟩, by dsimp only; omega, rfl, ⟨rfl, rfl, rfl, avI rfl, rfl, rfl, trivial⟩⟩
                · have k2 : ¬ (ak : Int) > 0 := of_decide_eq_false k1
                  have h87 : (decide (ak > 0) && !ltInt (Q.1)[ak - 1]! (Q.1)[(bk - 1) - (C.1 - ak)]!) = false := by rw [decide_eq_false (show ¬ ak > 0 by omega)]; rfl
                  obtain ⟨mid, ap, d4, hx⟩ : ∃ mid ap d4, partition ltInt (Q.1) ak bk ((bk - 1) - (C.1 - ak)) = (mid, ap, d4) := ⟨_, _, _, rfl⟩
                  obtain ⟨r1, r2, r3, r4, r5, r6, r7⟩ := round_part swo_ltInt (partition_holds _) hpv.1 hpv.2 (show bk ≤ (Q.1).size by omega) B3 hx
                  have em1 : IntKind.i64.wrap ((mid : Int) - (ak : Int)) = ((mid - ak : Nat) : Int) := by rw [wr_i64 (by omega) (by omega)]; omega
                  have em2 : IntKind.i64.wrap ((bk : Int) - (mid : Int)) = ((bk - mid : Nat) : Int) := by rw [wr_i64 (by omega) (by omega)]; omega
                  have e8 : IntKind.i64.wrap ((IntKind.i64.wrap ((bk : Int) - (ak : Int))).tdiv 8) = (((bk - ak) / 8 : Nat) : Int) := by
                    rw [eL, show ((bk - ak : Nat) : Int).tdiv 8 = (((bk - ak) / 8 : Nat) : Int) from by rw [Int.tdiv_eq_ediv_of_nonneg (by omega)]; omega]
                    exact wr_i64 (by omega) (by omega)
                  conv => whnf
                  refine InlS.exact (D := d4) (r := .tup [.p (.i .i64 ((mid : Nat) : Int)), .p (.b ap)]) hcl rfl (fun K2 hK2 => f41_ok h0 (Q.1) ak bk ((bk - 1) - (C.1 - ak)) rfl rfl ePT hpv (by omega) (by omega) K2 (by rw [hx]; exact hK2)) ?_
                  conv => whnf
                  refine Fork.mk ?_
                  conv => whnf
                  refine iteC (fun h3 => ?_) (fun h3 => ?_)
                  · have h4 := of_decide_eq_true h3
                    rw [em1, em2] at h4
                    have h5 : mid - ak < bk - mid := by omega
                    have hp := pdq_left (lt := ltInt) (d := dk) (a := ak) (b := bk) (limit := lim) (wb := true) (wp := true) h12 hl0 hpi2 (by rw [hpi1, epv]; exact h87) (by rw [hpi1, epv, hx]; exact ⟨r1, r2⟩) (by rw [hpi1, epv, hx]; exact h5)
                    rw [hpi1, epv, hx, hlm] at hp
                    obtain ⟨pL, sL⟩ := pdq_sorts ltInt swo_ltInt d4 ak mid (lim) true true (by omega) (by omega) r4
                    conv => whnf
                    refine Fork.mk ?_
                    conv => whnf
                    refine ih d4 ak mid (lim) rfl rfl rfl (by omega) (by omega) (by omega) (by omega) (by omega) r4 _ ?_
                    conv => whnf
                    exact ⟨⟨mid + 1, bk, lim, decide (mid - ak ≥ (bk - ak) / 8), ap, pdq ltInt d4 ak mid (lim) true true⟩, ⟨by dsimp only; omega, by dsimp only; omega, by dsimp only; omega, by dsimp only; omega, by dsimp only; rw [pL.1, r3, s3, hds], (r6 _ pL sL).1, by dsimp only; rw [← hR]; exact hp.symm⟩, by dsimp only; omega, rfl, ⟨rfl, avI (incI (by omega)), rfl, avI rfl, congrArg (fun x => AV.p (.b x)) (by rw [em1, e8]; exact decide_eq_decide.2 ⟨fun h => by omega, fun h => by omega⟩), rfl, trivial⟩⟩
                  · have h4 := of_decide_eq_false h3
                    rw [em1, em2] at h4
                    have h5 : ¬ mid - ak < bk - mid := by omega
                    have hp := pdq_right (lt := ltInt) (d := dk) (a := ak) (b := bk) (limit := lim) (wb := true) (wp := true) h12 hl0 hpi2 (by rw [hpi1, epv]; exact h87) (by rw [hpi1, epv, hx]; exact ⟨r1, r2⟩) (by rw [hpi1, epv, hx]; exact h5)
                    rw [hpi1, epv, hx, hlm] at hp
                    obtain ⟨pL, sL⟩ := pdq_sorts ltInt swo_ltInt d4 (mid + 1) bk (lim) true true (by omega) (by omega) r5
                    conv => whnf
                    refine Fork.mk ?_
                    conv => whnf
                    refine ih d4 (mid + 1) bk (lim) (incI (by omega)) rfl rfl (by omega) (by omega) (by omega) (by omega) (by omega) r5 _ ?_
                    conv => whnf
                    exact ⟨⟨ak, mid, lim, decide (bk - mid ≥ (bk - ak) / 8), ap, pdq ltInt d4 (mid + 1) bk (lim) true true⟩, ⟨by dsimp only; omega, by dsimp only; omega, by dsimp only; omega, by dsimp only; omega, by dsimp only; rw [pL.1, r3, s3, hds], (r7 _ pL sL).1, by dsimp only; rw [← hR]; exact hp.symm⟩, by dsimp only; omega, rfl, ⟨rfl, rfl, rfl, avI rfl, congrArg (fun x => AV.p (.b x)) (by rw [em2, e8]; exact decide_eq_decide.2 ⟨fun h => by omega, fun h => by omega⟩), rfl, trivial⟩⟩
            · refine iteF (by simpa using fun e => hh (hint2 e)) ?_
              obtain ⟨e2, epv, eht⟩ := rd_not (lt := ltInt) (d := dk) (a := ak) (b := bk) (limit := lim) (wb := true) (wp := true) (by rw [hc]; exact hh)
              rw [hc] at epv eht
              have e2 : (rd ltInt dk ak bk lim true true).d2 = dk := e2
              rw [e2] at s2
              conv => whnf
              by_cases hi : C.2 = .increasing
              · refine iteT (by rw [hi]; rfl) ?_
                have epi := rd_pi_yes (lt := ltInt) (d := dk) (a := ak) (b := bk) (limit := lim) (wb := true) (wp := true) (by rw [eht, hi]; rfl)
                rw [e2] at epi
                obtain ⟨Q, hQ⟩ : ∃ Q, Q = partialInsertionSort ltInt dk ak bk := ⟨_, rfl⟩
                rw [← hQ] at epi
                conv => whnf
                refine InlS.exact (D := Q.1) (r := .p (.b Q.2)) hcl rfl (fun K2 hK2 => f39_ok h0 dk ak bk rfl rfl (by omega) (by omega) (by omega) K2 (by rw [← hQ]; exact hK2)) ?_
                conv => whnf
                refine iteC (fun q2 => ?_) (fun q2 => ?_)
                · have hpi2 : (rd ltInt dk ak bk lim true true).pi.2 = true := by rw [epi]; exact q2
                  conv => whnf
                  rw [← hR, pdq_done h12 hl0 hpi2, epi] at hK
                  exact hK
                · have hpi2 : (rd ltInt dk ak bk lim true true).pi.2 = false := by rw [epi]; exact q2
                  have hpi1 : (rd ltInt dk ak bk lim true true).pi.1 = Q.1 := by rw [epi]
                  rw [hpi1] at s3 B3
                  rw [epv] at hpv
                  conv => whnf
                  refine iteC (fun k1 => ?_) (fun k1 => ?_)
                  · have k2 : (ak : Int) > 0 := of_decide_eq_true k1
                    have k3 : 0 < ak := by omega
                    have ew : IntKind.i64.wrap ((ak : Int) - 1) = ((ak - 1 : Nat) : Int) := decI (by omega) (by omega)
                    have g1 := gQ (d := (Q.1)) (i := (ak - 1)) (by omega) (e := IntKind.i64.wrap ((ak : Int) - 1)) ew
                    have t1 : (IntKind.i64.wrap ((ak : Int) - 1)).toNat = (ak - 1) := by rw [ew]; rfl
                    have n1 := gN (d := (Q.1)) (i := (ak - 1)) (by omega) (e := (IntKind.i64.wrap ((ak : Int) - 1)).toNat) t1
                    have g2 := gQ (d := (Q.1)) (i := (C.1)) (by omega) (e := ((C.1 : Nat) : Int)) rfl
                    have t2 : (((C.1 : Nat) : Int)).toNat = (C.1) := rfl
                    have n2 := gN (d := (Q.1)) (i := (C.1)) (by omega) (e := (((C.1 : Nat) : Int)).toNat) t2
                    have c1 := f28_ok (Q.1)[ak - 1]! (Q.1)[C.1]!
                    conv => whnf
                    iterate 4 (try (conv => arg 2; repeat (first | rw [g1] | rw [n1] | rw [g2] | rw [n2] | (whnf; arg 2))
                                    conv => whnf))
                    refine ⟨_, c1, ?_⟩
                    conv => whnf
                    refine iteC (fun k4 => ?_) (fun k4 => ?_)
                    · have h87 : (decide (ak > 0) && !ltInt (Q.1)[ak - 1]! (Q.1)[C.1]!) = false := by rw [k4]; simp
                      obtain ⟨mid, ap, d4, hx⟩ : ∃ mid ap d4, partition ltInt (Q.1) ak bk (C.1) = (mid, ap, d4) := ⟨_, _, _, rfl⟩
                      obtain ⟨r1, r2, r3, r4, r5, r6, r7⟩ := round_part swo_ltInt (partition_holds _) hpv.1 hpv.2 (show bk ≤ (Q.1).size by omega) B3 hx
                      have em1 : IntKind.i64.wrap ((mid : Int) - (ak : Int)) = ((mid - ak : Nat) : Int) := by rw [wr_i64 (by omega) (by omega)]; omega
                      have em2 : IntKind.i64.wrap ((bk : Int) - (mid : Int)) = ((bk - mid : Nat) : Int) := by rw [wr_i64 (by omega) (by omega)]; omega
                      have e8 : IntKind.i64.wrap ((IntKind.i64.wrap ((bk : Int) - (ak : Int))).tdiv 8) = (((bk - ak) / 8 : Nat) : Int) := by
                        rw [eL, show ((bk - ak : Nat) : Int).tdiv 8 = (((bk - ak) / 8 : Nat) : Int) from by rw [Int.tdiv_eq_ediv_of_nonneg (by omega)]; omega]
                        exact wr_i64 (by omega) (by omega)
                      conv => whnf
                      refine InlS.exact (D := d4) (r := .tup [.p (.i .i64 ((mid : Nat) : Int)), .p (.b ap)]) hcl rfl (fun K2 hK2 => f41_ok h0 (Q.1) ak bk (C.1) rfl rfl rfl hpv (by omega) (by omega) K2 (by rw [hx]; exact hK2)) ?_
                      conv => whnf
                      refine Fork.mk ?_
                      conv => whnf
                      refine iteC (fun h3 => ?_) (fun h3 => ?_)
                      · have h4 := of_decide_eq_true h3
                        rw [em1, em2] at h4
                        have h5 : mid - ak < bk - mid := by omega
                        have hp := pdq_left (lt := ltInt) (d := dk) (a := ak) (b := bk) (limit := lim) (wb := true) (wp := true) h12 hl0 hpi2 (by rw [hpi1, epv]; exact h87) (by rw [hpi1, epv, hx]; exact ⟨r1, r2⟩) (by rw [hpi1, epv, hx]; exact h5)
                        rw [hpi1, epv, hx, hlm] at hp
                        obtain ⟨pL, sL⟩ := pdq_sorts ltInt swo_ltInt d4 ak mid (lim) true true (by omega) (by omega) r4
                        conv => whnf
                        refine Fork.mk ?_
                        conv => whnf
                        refine ih d4 ak mid (lim) rfl rfl rfl (by omega) (by omega) (by omega) (by omega) (by omega) r4 _ ?_
                        conv => whnf
                        exact ⟨⟨mid + 1, bk, lim, decide (mid - ak ≥ (bk - ak) / 8), ap, pdq ltInt d4 ak mid (lim) true true⟩, ⟨by dsimp only; omega, by dsimp only; omega, by dsimp only; omega, by dsimp only; omega, by dsimp only; rw [pL.1, r3, s3, hds], (r6 _ pL sL).1, by dsimp only; rw [← hR]; exact hp.symm⟩, by dsimp only; omega, rfl, ⟨rfl, avI (incI (by omega)), rfl, avI rfl, congrArg (fun x => AV.p (.b x)) (by rw [em1, e8]; exact decide_eq_decide.2 ⟨fun h => by omega, fun h => by omega⟩), rfl, trivial⟩⟩
                      · have h4 := of_decide_eq_false h3
                        rw [em1, em2] at h4
                        have h5 : ¬ mid - ak < bk - mid := by omega
                        have hp := pdq_right (lt := ltInt) (d := dk) (a := ak) (b := bk) (limit := lim) (wb := true) (wp := true) h12 hl0 hpi2 (by rw [hpi1, epv]; exact h87) (by rw [hpi1, epv, hx]; exact ⟨r1, r2⟩) (by rw [hpi1, epv, hx]; exact h5)
                        rw [hpi1, epv, hx, hlm] at hp
                        obtain ⟨pL, sL⟩ := pdq_sorts ltInt swo_ltInt d4 (mid + 1) bk (lim) true true (by omega) (by omega) r5
                        conv => whnf
                        refine Fork.mk ?_
                        conv => whnf
                        refine ih d4 (mid + 1) bk (lim) (incI (by omega)) rfl rfl (by omega) (by omega) (by omega) (by omega) (by omega) r5 _ ?_
                        conv => whnf
                        exact ⟨⟨ak, mid, lim, decide (bk - mid ≥ (bk - ak) / 8), ap, pdq ltInt d4 (mid + 1) bk (lim) true true⟩, ⟨by dsimp only; omega, by dsimp only; omega, by dsimp only; omega, by dsimp only; omega, by dsimp only; rw [pL.1, r3, s3, hds], (r7 _ pL sL).1, by dsimp only; rw [← hR]; exact hp.symm⟩, by dsimp only; omega, rfl, ⟨rfl, rfl, rfl, avI rfl, congrArg (fun x => AV.p (.b x)) (by rw [em2, e8]; exact decide_eq_decide.2 ⟨fun h => by omega, fun h => by omega⟩), rfl, trivial⟩⟩
                    · have h87 : (decide (ak > 0) && !ltInt (Q.1)[ak - 1]! (Q.1)[C.1]!) = true := by rw [k4, decide_eq_true k3]; rfl
                      obtain ⟨mid, d4, hx⟩ : ∃ mid d4, partitionEqual ltInt (Q.1) ak bk (C.1) = (mid, d4) := ⟨_, _, rfl⟩
                      obtain ⟨r1, r2, r3, r4, _⟩ := round_eq swo_ltInt (partitionEqual_holds _) k3 hpv.1 hpv.2 (show bk ≤ (Q.1).size by omega) B3 k4 hx
                      have hp := pdq_eq (lt := ltInt) (d := dk) (a := ak) (b := bk) (limit := lim) (wb := true) (wp := true) h12 hl0 hpi2 (by rw [hpi1, epv]; exact h87) (by rw [hpi1, epv, hx]; exact ⟨r1, r2⟩)
                      rw [hpi1, epv, hx, hlm] at hp
                      conv => whnf
                      refine InlS.exact (D := d4) (r := .p (.i .i64 ((mid : Nat) : Int))) hcl rfl (fun K2 hK2 => f40_ok h0 (Q.1) ak bk (C.1) rfl rfl rfl hpv (by omega) (by omega) K2 (by rw [hx]; exact hK2)) ?_
                      conv => whnf
                      exact ⟨⟨mid, bk, lim, true, true, d4⟩, ⟨by dsimp only; omega, by dsimp only; omega, by dsimp only; omega, by dsimp only; omega, by dsimp only; rw [r3, s3, hds], r4, by dsimp only; rw [← hR]; exact hp.symm⟩, by dsimp only; omega, rfl, ⟨rfl, rfl, rfl, avI rfl, rfl, rfl, trivial⟩⟩
                  · have k2 : ¬ (ak : Int) > 0 := of_decide_eq_false k1
                    have h87 : (decide (ak > 0) && !ltInt (Q.1)[ak - 1]! (Q.1)[C.1]!) = false := by rw [decide_eq_false (show ¬ ak > 0 by omega)]; rfl
                    obtain ⟨mid, ap, d4, hx⟩ : ∃ mid ap d4, partition ltInt (Q.1) ak bk (C.1) = (mid, ap, d4) := ⟨_, _, _, rfl⟩
                    obtain ⟨r1, r2, r3, r4, r5, r6, r7⟩ := round_part swo_ltInt (partition_holds _) hpv.1 hpv.2 (show bk ≤ (Q.1).size by omega) B3 hx
                    have em1 : IntKind.i64.wrap ((mid : Int) - (ak : Int)) = ((mid - ak : Nat) : Int) := by rw [wr_i64 (by omega) (by omega)]; omega
                    have em2 : IntKind.i64.wrap ((bk : Int) - (mid : Int)) = ((bk - mid : Nat) : Int) := by rw [wr_i64 (by omega) (by omega)]; omega
                    have e8 : IntKind.i64.wrap ((IntKind.i64.wrap ((bk : Int) - (ak : Int))).tdiv 8) = (((bk - ak) / 8 : Nat) : Int) := by
                      rw [eL, show ((bk - ak : Nat) : Int).tdiv 8 = (((bk - ak) / 8 : Nat) : Int) from by rw [Int.tdiv_eq_ediv_of_nonneg (by omega)]; omega]
                      exact wr_i64 (by omega) (by omega)
                    conv => whnf
                    refine InlS.exact (D := d4) (r := .tup [.p (.i .i64 ((mid : Nat) : Int)), .p (.b ap)]) hcl rfl (fun K2 hK2 => f41_ok h0 (Q.1) ak bk (C.1) rfl rfl rfl hpv (by omega) (by omega) K2 (by rw [hx]; exact hK2)) ?_
                    conv => whnf
                    refine Fork.mk ?_
                    conv => whnf
                    refine iteC (fun h3 => ?_) (fun h3 => ?_)
                    · have h4 := of_decide_eq_true h3
                      rw [em1, em2] at h4
                      have h5 : mid - ak < bk - mid := by omega
                      have hp := pdq_left (lt := ltInt) (d := dk) (a := ak) (b := bk) (limit := lim) (wb := true) (wp := true) h12 hl0 hpi2 (by rw [hpi1, epv]; exact h87) (by rw [hpi1, epv, hx]; exact ⟨r1, r2⟩) (by rw [hpi1, epv, hx]; exact h5)
                      rw [hpi1, epv, hx, hlm] at hp
                      obtain ⟨pL, sL⟩ := pdq_sorts ltInt swo_ltInt d4 ak mid (lim) true true (by omega) (by omega) r4
                      conv => whnf
                      refine Fork.mk ?_
                      conv => whnf
                      refine ih d4 ak mid (lim) rfl rfl rfl (by omega) (by omega) (by omega) (by omega) (by omega) r4 _ ?_
                      conv => whnf
                      exact ⟨⟨mid + 1, bk, lim, decide (mid - ak ≥ (bk - ak) / 8), ap, pdq ltInt d4 ak mid (lim) true true⟩, ⟨by dsimp only; omega, by dsimp only; omega, by dsimp only; omega, by dsimp only; omega, by dsimp only; rw [pL.1, r3, s3, hds], (r6 _ pL sL).1, by dsimp only; rw [← hR]; exact hp.symm⟩, by dsimp only; omega, rfl, ⟨rfl, avI (incI (by omega)), rfl, avI rfl, congrArg (fun x => AV.p (.b x)) (by rw [em1, e8]; exact decide_eq_decide.2 ⟨fun h => by omega, fun h => by omega⟩), rfl, trivial⟩⟩
                    · have h4 := of_decide_eq_false h3
                      rw [em1, em2] at h4
                      have h5 : ¬ mid - ak < bk - mid := by omega
                      have hp := pdq_right (lt := ltInt) (d := dk) (a := ak) (b := bk) (limit := lim) (wb := true) (wp := true) h12 hl0 hpi2 (by rw [hpi1, epv]; exact h87) (by rw [hpi1, epv, hx]; exact ⟨r1, r2⟩) (by rw [hpi1, epv, hx]; exact h5)
                      rw [hpi1, epv, hx, hlm] at hp
                      obtain ⟨pL, sL⟩ := pdq_sorts ltInt swo_ltInt d4 (mid + 1) bk (lim) true true (by omega) (by omega) r5
                      conv => whnf
                      refine Fork.mk ?_
                      conv => whnf
                      refine ih d4 (mid + 1) bk (lim) (incI (by omega)) rfl rfl (by omega) (by omega) (by omega) (by omega) (by omega) r5 _ ?_
                      conv => whnf
                      exact ⟨⟨ak, mid, lim, decide (bk - mid ≥ (bk - ak) / 8), ap, pdq ltInt d4 (mid + 1) bk (lim) true true⟩, ⟨by dsimp only; omega, by dsimp only; omega, by dsimp only; omega, by dsimp only; omega, by dsimp only; rw [pL.1, r3, s3, hds], (r7 _ pL sL).1, by dsimp only; rw [← hR]; exact hp.symm⟩, by dsimp only; omega, rfl, ⟨rfl, rfl, rfl, avI rfl, congrArg (fun x => AV.p (.b x)) (by rw [em2, e8]; exact decide_eq_decide.2 ⟨fun h => by omega, fun h => by omega⟩), rfl, trivial⟩⟩
              · refine iteF (by simpa using fun e => hi (hint1 e)) ?_
                have epi := rd_pi_no (lt := ltInt) (d := dk) (a := ak) (b := bk) (limit := lim) (wb := true) (wp := true) (by rw [eht]; simp [hi])
                rw [e2] at epi
                have hpi2 : (rd ltInt dk ak bk lim true true).pi.2 = false := by rw [epi]
                have hpi1 : (rd ltInt dk ak bk lim true true).pi.1 = dk := by rw [epi]
                rw [hpi1] at s3 B3
                rw [epv] at hpv
                conv => whnf
                refine iteC (fun k1 => ?_) (fun k1 => ?_)
                · have k2 : (ak : Int) > 0 := of_decide_eq_true k1
                  have k3 : 0 < ak := by omega
                  have ew : IntKind.i64.wrap ((ak : Int) - 1) = ((ak - 1 : Nat) : Int) := decI (by omega) (by omega)
                  have g1 := gQ (d := (dk)) (i := (ak - 1)) (by omega) (e := IntKind.i64.wrap ((ak : Int) - 1)) ew
                  have t1 : (IntKind.i64.wrap ((ak : Int) - 1)).toNat = (ak - 1) := by rw [ew]; rfl
                  have n1 := gN (d := (dk)) (i := (ak - 1)) (by omega) (e := (IntKind.i64.wrap ((ak : Int) - 1)).toNat) t1
                  have g2 := gQ (d := (dk)) (i := (C.1)) (by omega) (e := ((C.1 : Nat) : Int)) rfl
                  have t2 : (((C.1 : Nat) : Int)).toNat = (C.1) := rfl
                  have n2 := gN (d := (dk)) (i := (C.1)) (by omega) (e := (((C.1 : Nat) : Int)).toNat) t2
                  have c1 := f28_ok (dk)[ak - 1]! (dk)[C.1]!
                  conv => whnf
                  iterate 4 (try (conv => arg 2; repeat (first | rw [g1] | rw [n1] | rw [g2] | rw [n2] | (whnf; arg 2))
                                  conv => whnf))
                  refine ⟨_, c1, ?_⟩
                  conv => whnf
                  refine iteC (fun k4 => ?_) (fun k4 => ?_)
                  · have h87 : (decide (ak > 0) && !ltInt (dk)[ak - 1]! (dk)[C.1]!) = false := by rw [k4]; simp
                    obtain ⟨mid, ap, d4, hx⟩ : ∃ mid ap d4, partition ltInt (dk) ak bk (C.1) = (mid, ap, d4) := ⟨_, _, _, rfl⟩
                    obtain ⟨r1, r2, r3, r4, r5, r6, r7⟩ := round_part swo_ltInt (partition_holds _) hpv.1 hpv.2 (show bk ≤ (dk).size by omega) B3 hx
                    have em1 : IntKind.i64.wrap ((mid : Int) - (ak : Int)) = ((mid - ak : Nat) : Int) := by rw [wr_i64 (by omega) (by omega)]; omega
                    have em2 : IntKind.i64.wrap ((bk : Int) - (mid : Int)) = ((bk - mid : Nat) : Int) := by rw [wr_i64 (by omega) (by omega)]; omega
                    have e8 : IntKind.i64.wrap ((IntKind.i64.wrap ((bk : Int) - (ak : Int))).tdiv 8) = (((bk - ak) / 8 : Nat) : Int) := by
                      rw [eL, show ((bk - ak : Nat) : Int).tdiv 8 = (((bk - ak) / 8 : Nat) : Int) from by rw [Int.tdiv_eq_ediv_of_nonneg (by omega)]; omega]
                      exact wr_i64 (by omega) (by omega)
                    conv => whnf
                    refine InlS.exact (D := d4) (r := .tup [.p (.i .i64 ((mid : Nat) : Int)), .p (.b ap)]) hcl rfl (fun K2 hK2 => f41_ok h0 (dk) ak bk (C.1) rfl rfl rfl hpv (by omega) (by omega) K2 (by rw [hx]; exact hK2)) ?_
                    conv => whnf
                    refine Fork.mk ?_
                    conv => whnf
                    refine iteC (fun h3 => ?_) (fun h3 => ?_)
                    · have h4 := of_decide_eq_true h3
                      rw [em1, em2] at h4
                      have h5 : mid - ak < bk - mid := by omega
                      have hp := pdq_left (lt := ltInt) (d := dk) (a := ak) (b := bk) (limit := lim) (wb := true) (wp := true) h12 hl0 hpi2 (by rw [hpi1, epv]; exact h87) (by rw [hpi1, epv, hx]; exact ⟨r1, r2⟩) (by rw [hpi1, epv, hx]; exact h5)
                      rw [hpi1, epv, hx, hlm] at hp
                      obtain ⟨pL, sL⟩ := pdq_sorts ltInt swo_ltInt d4 ak mid (lim) true true (by omega) (by omega) r4
                      conv => whnf
                      refine Fork.mk ?_
                      conv => whnf
                      refine ih d4 ak mid (lim) rfl rfl rfl (by omega) (by omega) (by omega) (by omega) (by omega) r4 _ ?_
                      conv => whnf
                      exact ⟨⟨mid + 1, bk, lim, decide (mid - ak ≥ (bk - ak) / 8), ap, pdq ltInt d4 ak mid (lim) true true⟩, ⟨by dsimp only; omega, by dsimp only; omega, by dsimp only; omega, by dsimp only; omega, by dsimp only; rw [pL.1, r3, s3, hds], (r6 _ pL sL).1, by dsimp only; rw [← hR]; exact hp.symm⟩, by dsimp only; omega, rfl, ⟨rfl, avI (incI (by omega)), rfl, avI rfl, congrArg (fun x => AV.p (.b x)) (by rw [em1, e8]; exact decide_eq_decide.2 ⟨fun h => by omega, fun h => by omega⟩), rfl, trivial⟩⟩
                    · have h4 := of_decide_eq_false h3
                      rw [em1, em2] at h4
                      have h5 : ¬ mid - ak < bk - mid := by omega
                      have hp := pdq_right (lt := ltInt) (d := dk) (a := ak) (b := bk) (limit := lim) (wb := true) (wp := true) h12 hl0 hpi2 (by rw [hpi1, epv]; exact h87) (by rw [hpi1, epv, hx]; exact ⟨r1, r2⟩) (by rw [hpi1, epv, hx]; exact h5)
                      rw [hpi1, epv, hx, hlm] at hp
                      obtain ⟨pL, sL⟩ := pdq_sorts ltInt swo_ltInt d4 (mid + 1) bk (lim) true true (by omega) (by omega) r5
                      conv => whnf
                      refine Fork.mk ?_
                      conv => whnf
                      refine ih d4 (mid + 1) bk (lim) (incI (by omega)) rfl rfl (by omega) (by omega) (by omega) (by omega) (by omega) r5 _ ?_
                      conv => whnf
                      exact ⟨⟨ak, mid, lim, decide (bk - mid ≥ (bk - ak) / 8), ap, pdq ltInt d4 (mid + 1) bk (lim) true true⟩, ⟨by dsimp only; omega, by dsimp only; omega, by dsimp only; omega, by dsimp only; omega, by dsimp only; rw [pL.1, r3, s3, hds], (r7 _ pL sL).1, by dsimp only; rw [← hR]; exact hp.symm⟩, by dsimp only; omega, rfl, ⟨rfl, rfl, rfl, avI rfl, congrArg (fun x => AV.p (.b x)) (by rw [em2, e8]; exact decide_eq_decide.2 ⟨fun h => by omega, fun h => by omega⟩), rfl, trivial⟩⟩
                  · have h87 : (decide (ak > 0) && !ltInt (dk)[ak - 1]! (dk)[C.1]!) = true := by rw [k4, decide_eq_true k3]; rfl
                    obtain ⟨mid, d4, hx⟩ : ∃ mid d4, partitionEqual ltInt (dk) ak bk (C.1) = (mid, d4) := ⟨_, _, rfl⟩
                    obtain ⟨r1, r2, r3, r4, _⟩ := round_eq swo_ltInt (partitionEqual_holds _) k3 hpv.1 hpv.2 (show bk ≤ (dk).size by omega) B3 k4 hx
                    have hp := pdq_eq (lt := ltInt) (d := dk) (a := ak) (b := bk) (limit := lim) (wb := true) (wp := true) h12 hl0 hpi2 (by rw [hpi1, epv]; exact h87) (by rw [hpi1, epv, hx]; exact ⟨r1, r2⟩)
                    rw [hpi1, epv, hx, hlm] at hp
                    conv => whnf
                    refine InlS.exact (D := d4) (r := .p (.i .i64 ((mid : Nat) : Int))) hcl rfl (fun K2 hK2 => f40_ok h0 (dk) ak bk (C.1) rfl rfl rfl hpv (by omega) (by omega) K2 (by rw [hx]; exact hK2)) ?_
                    conv => whnf
                    exact ⟨⟨mid, bk, lim, true, true, d4⟩, ⟨by dsimp only; omega, by dsimp only; omega, by dsimp only; omega, by dsimp only; omega, by dsimp only; rw [r3, s3, hds], r4, by dsimp only; rw [← hR]; exact hp.symm⟩, by dsimp only; omega, rfl, ⟨rfl, rfl, rfl, avI rfl, rfl, rfl, trivial⟩⟩
                · have k2 : ¬ (ak : Int) > 0 := of_decide_eq_false k1
                  have h87 : (decide (ak > 0) && !ltInt (dk)[ak - 1]! (dk)[C.1]!) = false := by rw [decide_eq_false (show ¬ ak > 0 by omega)]; rfl
                  obtain ⟨mid, ap, d4, hx⟩ : ∃ mid ap d4, partition ltInt (dk) ak bk (C.1) = (mid, ap, d4) := ⟨_, _, _, rfl⟩
                  obtain ⟨r1, r2, r3, r4, r5, r6, r7⟩ := round_part swo_ltInt (partition_holds _) hpv.1 hpv.2 (show bk ≤ (dk).size by omega) B3 hx
                  have em1 : IntKind.i64.wrap ((mid : Int) - (ak : Int)) = ((mid - ak : Nat) : Int) := by rw [wr_i64 (by omega) (by omega)]; omega
                  have em2 : IntKind.i64.wrap ((bk : Int) - (mid : Int)) = ((bk - mid : Nat) : Int) := by rw [wr_i64 (by omega) (by omega)]; omega
                  have e8 : IntKind.i64.wrap ((IntKind.i64.wrap ((bk : Int) - (ak : Int))).tdiv 8) = (((bk - ak) / 8 : Nat) : Int) := by
                    rw [eL, show ((bk - ak : Nat) : Int).tdiv 8 = (((bk - ak) / 8 : Nat) : Int) from by rw [Int.tdiv_eq_ediv_of_nonneg (by omega)]; omega]
                    exact wr_i64 (by omega) (by omega)
                  conv => whnf
                  refine InlS.exact (D := d4) (r := .tup [.p (.i .i64 ((mid : Nat) : Int)), .p (.b ap)]) hcl rfl (fun K2 hK2 => f41_ok h0 (dk) ak bk (C.1) rfl rfl rfl hpv (by omega) (by omega) K2 (by rw [hx]; exact hK2)) ?_
                  conv => whnf
                  refine Fork.mk ?_
                  conv => whnf
                  refine iteC (fun h3 => ?_) (fun h3 => ?_)
                  · have h4 := of_decide_eq_true h3
                    rw [em1, em2] at h4
                    have h5 : mid - ak < bk - mid := by omega
                    have hp := pdq_left (lt := ltInt) (d := dk) (a := ak) (b := bk) (limit := lim) (wb := true) (wp := true) h12 hl0 hpi2 (by rw [hpi1, epv]; exact h87) (by rw [hpi1, epv, hx]; exact ⟨r1, r2⟩) (by rw [hpi1, epv, hx]; exact h5)
                    rw [hpi1, epv, hx, hlm] at hp
                    obtain ⟨pL, sL⟩ := pdq_sorts ltInt swo_ltInt d4 ak mid (lim) true true (by omega) (by omega) r4
                    conv => whnf
                    refine Fork.mk ?_
                    conv => whnf
                    refine ih d4 ak mid (lim) rfl rfl rfl (by omega) (by omega) (by omega) (by omega) (by omega) r4 _ ?_
                    conv => whnf
                    exact ⟨⟨mid + 1, bk, lim, decide (mid - ak ≥ (bk - ak) / 8), ap, pdq ltInt d4 ak mid (lim) true true⟩, ⟨by dsimp only; omega, by dsimp only; omega, by dsimp only; omega, by dsimp only; omega, by dsimp only; rw [pL.1, r3, s3, hds], (r6 _ pL sL).1, by dsimp only; rw [← hR]; exact hp.symm⟩, by dsimp only; omega, rfl, ⟨rfl, avI (incI (by omega)), rfl, avI rfl, congrArg (fun x => AV.p (.b x)) (by rw [em1, e8]; exact decide_eq_decide.2 ⟨fun h => by omega, fun h => by omega⟩), rfl, trivial⟩⟩
                  · have h4 := of_decide_eq_false h3
                    rw [em1, em2] at h4
                    have h5 : ¬ mid - ak < bk - mid := by omega
                    have hp := pdq_right (lt := ltInt) (d := dk) (a := ak) (b := bk) (limit := lim) (wb := true) (wp := true) h12 hl0 hpi2 (by rw [hpi1, epv]; exact h87) (by rw [hpi1, epv, hx]; exact ⟨r1, r2⟩) (by rw [hpi1, epv, hx]; exact h5)
                    rw [hpi1, epv, hx, hlm] at hp
                    obtain ⟨pL, sL⟩ := pdq_sorts ltInt swo_ltInt d4 (mid + 1) bk (lim) true true (by omega) (by omega) r5
                    conv => whnf
                    refine Fork.mk ?_
                    conv => whnf
                    refine ih d4 (mid + 1) bk (lim) (incI (by omega)) rfl rfl (by omega) (by omega) (by omega) (by omega) (by omega) r5 _ ?_
                    conv => whnf
                    exact ⟨⟨ak, mid, lim, decide (bk - mid ≥ (bk - ak) / 8), ap, pdq ltInt d4 (mid + 1) bk (lim) true true⟩, ⟨by dsimp only; omega, by dsimp only; omega, by dsimp only; omega, by dsimp only; omega, by dsimp only; rw [pL.1, r3, s3, hds], (r7 _ pL sL).1, by dsimp only; rw [← hR]; exact hp.symm⟩, by dsimp only; omega, rfl, ⟨rfl, rfl, rfl, avI rfl, congrArg (fun x => AV.p (.b x)) (by rw [em2, e8]; exact decide_eq_decide.2 ⟨fun h => by omega, fun h => by omega⟩), rfl, trivial⟩⟩
end Go.Proofs.Ytgjebgplbkjkhaa.AM
