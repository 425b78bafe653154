/- The library's sort: partial insertion. -/
import Derived.Test.YtgjebgplbkjkhaaSrtE
namespace Go.Proofs.Ytgjebgplbkjkhaa.AM
open Go Go.Proofs Go.Sort
set_option maxRecDepth 100000

theorem scanS_go {d : Array Int} {b i : Nat} (h : i < b) (hl : ltInt d[i]! d[i - 1]! = false) : scanSorted ltInt d b i = scanSorted ltInt d b (i + 1) := by rw [scanSorted, if_pos (by simp [h, hl])]
theorem scanS_stop {d : Array Int} {b i : Nat} (h : ¬ i < b ∨ ltInt d[i]! d[i - 1]! = true) : scanSorted ltInt d b i = i := by
  rw [scanSorted, if_neg]
  intro hc
  rw [Bool.and_eq_true, decide_eq_true_eq] at hc
  rcases h with h | h
  · exact h hc.1
  · rw [h] at hc; exact Bool.false_ne_true hc.2
theorem shD_go {d : Array Int} {j : Nat} (h : 1 ≤ j) (hl : ltInt d[j]! d[j - 1]! = true) : shiftDown ltInt j d = shiftDown ltInt (j - 1) (swp d j (j - 1)) := by
  obtain ⟨k, rfl⟩ : ∃ k, j = k + 1 := ⟨j - 1, by omega⟩
  rw [Nat.add_sub_cancel] at *
  rw [shiftDown, if_neg (by simp [hl])]
theorem shD_stop {d : Array Int} {j : Nat} (hl : ltInt d[j]! d[j - 1]! = false) : shiftDown ltInt j d = d := by
  cases j with
  | zero => rfl
  | succ j => rw [Nat.add_sub_cancel] at hl; rw [shiftDown, if_pos (by simp [hl])]
theorem shD_zero {d : Array Int} {j : Nat} (h : ¬ 1 ≤ j) : shiftDown ltInt j d = d := by
  obtain rfl : j = 0 := by omega
  rfl
theorem shU_go {d : Array Int} {b j : Nat} (h : j < b) (hl : ltInt d[j]! d[j - 1]! = true) : shiftUp ltInt b j d = shiftUp ltInt b (j + 1) (swp d j (j - 1)) := by
  rw [shiftUp, if_pos h, if_neg (by simp [hl])]
theorem shU_stop {d : Array Int} {b j : Nat} (h : ¬ j < b ∨ ltInt d[j]! d[j - 1]! = false) : shiftUp ltInt b j d = d := by
  rw [shiftUp]
  split
  · rename_i h1
    rcases h with h | h
    · exact absurd h1 h
    · rw [if_pos (by simp [h])]
  · rfl
theorem par_full {d : Array Int} {a b s i v : Nat} (hv : scanSorted ltInt d b i = v) (h : v = b) : partialIns ltInt a b (s + 1) i d = (d, true) := by rw [partialIns_succ, if_pos (hv.trans h)]
theorem par_short {d : Array Int} {a b s i v : Nat} (hv : scanSorted ltInt d b i = v) (h : v ≠ b) (h2 : b - a < 50) : partialIns ltInt a b (s + 1) i d = (d, false) := by rw [partialIns_succ, if_neg (by rw [hv]; exact h), if_pos h2]
theorem par_go {d : Array Int} {a b s i v : Nat} (hv : scanSorted ltInt d b i = v) (h : v ≠ b) (h2 : ¬ b - a < 50) : partialIns ltInt a b (s + 1) i d = partialIns ltInt a b s v (fixUp ltInt b v (fixDown ltInt a v (swp d v (v - 1)))) := by
  subst hv
  rw [partialIns_succ, if_neg h, if_neg h2]
set_option maxHeartbeats 16000000 in
theorem f39_ok (h0 : Heap) (d : Array Int) (a b : Nat) {xa xb : Int} (ea : xa = (a : Int)) (eb : xb = (b : Int)) (hab : a < b) (hb : b ≤ d.size) (hs : d.size < 1000000) (K : AV → Heap → Prop)
    (hK : ∀ h1, Ext 208 h0 h1 → K (.p (.b (partialInsertionSort ltInt d a b).2)) ((208, qb ((partialInsertionSort ltInt d a b).1)) :: h1)) :
    InlS Try.prog X 39 [.own 208, .p (.i .i64 xa), .p (.i .i64 xb)] ((208, qb d) :: h0) K := by
  subst ea eb
  refine InlS.intro (I := []) hX hm 1000 Try.func39 rfl rfl (by kernel_rfl) rfl ?_
  conv => whnf
  refine LoopJ.introT (I := []) (base' := 1000) hX hm (by kernel_rfl) (σ := StQ) (fun s => [(0, .own 208), (1, .p (.i .i64 ((a : Nat) : Int))), (2, .p (.i .i64 ((b : Nat) : Int))), (7, .p (.i .i64 ((s.i : Nat) : Int))), (8, .p (.i .i64 ((s.j : Nat) : Int)))]) (fun s => (208, qb s.d) :: s.h)
    (fun s => a + 1 ≤ s.i ∧ s.i ≤ b ∧ s.j ≤ 5 ∧ s.d.size = d.size ∧ Ext 208 h0 s.h ∧ partialIns ltInt a b (5 - s.j) s.i s.d = partialInsertionSort ltInt d a b) (fun s => 5 - s.j) ⟨a + 1, 0, d, h0⟩
    ⟨Nat.le_refl _, hab, by dsimp only; omega, rfl, Ext.refl _ _, rfl⟩ rfl ⟨rfl, rfl, rfl, avI (incI (by omega)), rfl, trivial⟩ ?_
  intro s ⟨hi1, hi2, hj, hsz, hE, hR⟩
  conv => whnf
  refine iteC (fun h1 => ?_) (fun h1 => ?_)
  · have h2 := of_decide_eq_true h1
    obtain ⟨k, hk⟩ : ∃ k, 5 - s.j = k + 1 := ⟨4 - s.j, by omega⟩
    conv => whnf
    refine LoopJ.introX (I := []) (base' := 1000) hX hm (by kernel_rfl) 2 (σ := Nat) (fun v => [(0, .own 208), (1, .p (.i .i64 ((a : Nat) : Int))), (2, .p (.i .i64 ((b : Nat) : Int))), (7, .p (.i .i64 ((v : Nat) : Int))), (8, .p (.i .i64 ((s.j : Nat) : Int)))]) (fun v => (208, qb s.d) :: s.h)
      (fun v => s.i ≤ v ∧ v ≤ b ∧ scanSorted ltInt s.d b v = scanSorted ltInt s.d b s.i) (fun v => s.i ≤ v ∧ v ≤ b ∧ scanSorted ltInt s.d b s.i = v) (fun v => b - v) s.i
      ⟨Nat.le_refl _, hi2, rfl⟩ rfl ⟨rfl, rfl, rfl, rfl, rfl, trivial⟩ ?_ ?_
    · intro v ⟨v1, v2, v3⟩
      conv => whnf
      refine iteC (fun l1 => ?_) (fun l1 => ?_)
      · have l2 := of_decide_eq_true l1
        have l3 : v < b := by omega
        have ep : IntKind.i64.wrap ((v : Int) - 1) = ((v - 1 : Nat) : Int) := decI (by omega) (by omega)
        have g1 := gQ (d := s.d) (i := v) (by omega) (e := (v : Int)) rfl
        have t1 : ((v : Int)).toNat = v := rfl
        have n1 := gN (d := s.d) (i := v) (by omega) (e := ((v : Int)).toNat) t1
        have g2 := gQ (d := s.d) (i := v - 1) (by omega) (e := IntKind.i64.wrap ((v : Int) - 1)) ep
        have t2 : (IntKind.i64.wrap ((v : Int) - 1)).toNat = v - 1 := by rw [ep]; rfl
        have n2 := gN (d := s.d) (i := v - 1) (by omega) (e := (IntKind.i64.wrap ((v : Int) - 1)).toNat) t2
        have c1 := f28_ok s.d[v]! s.d[v - 1]!
        conv => whnf
        iterate 4 (try (conv => arg 2; repeat (first | rw [g1] | rw [n1] | rw [g2] | rw [n2] | (whnf; arg 2))
                        conv => whnf))
        refine ⟨_, c1, ?_⟩
        conv => whnf
        refine iteC (fun l4 => ?_) (fun l4 => ?_)
        · rw [scanS_stop (.inr l4)] at v3
          conv => whnf
          exact ⟨v, ⟨v1, v2, v3.symm⟩, rfl, ⟨rfl, rfl, rfl, rfl, rfl, trivial⟩⟩
        · rw [scanS_go l3 l4] at v3
          conv => whnf
          exact ⟨v + 1, ⟨by omega, by omega, v3⟩, by dsimp only; omega, rfl, ⟨rfl, rfl, rfl, avI (incI (by omega)), rfl, trivial⟩⟩
      · have l2 := of_decide_eq_false l1
        rw [scanS_stop (.inl (by omega))] at v3
        conv => whnf
        exact ⟨v, ⟨v1, v2, v3.symm⟩, rfl, ⟨rfl, rfl, rfl, rfl, rfl, trivial⟩⟩
    · intro v ⟨v1, v2, v3⟩
      conv => whnf
      refine iteC (fun f1 => ?_) (fun f1 => ?_)
      · have f2 : v = b := by
          have f2 : (v : Int) = b := by simpa using f1
          omega
        rw [hk, par_full v3 f2] at hR
        conv => whnf
        rw [← hR] at hK
        exact hK s.h hE
      · have f2 : v ≠ b := by
          have f2 : ¬ (v : Int) = b := by simpa using f1
          omega
        have ea : IntKind.i64.wrap ((b : Int) - (a : Int)) = ((b - a : Nat) : Int) := by rw [wr_i64 (by omega) (by omega)]; omega
        conv => whnf
        refine iteC (fun f3 => ?_) (fun f3 => ?_)
        · have f4 := of_decide_eq_true f3
          rw [ea] at f4
          rw [hk, par_short v3 f2 (by omega)] at hR
          conv => whnf
          rw [← hR] at hK
          exact hK s.h hE
        · have f4 := of_decide_eq_false f3
          rw [ea] at f4
          rw [hk, par_go v3 f2 (by omega)] at hR
          have ep : IntKind.i64.wrap ((v : Int) - 1) = ((v - 1 : Nat) : Int) := decI (by omega) (by omega)
          have g1 := gQ (d := s.d) (i := v) (by omega) (e := (v : Int)) rfl
          have t1 : ((v : Int)).toNat = v := rfl
          have n1 := gN (d := s.d) (i := v) (by omega) (e := ((v : Int)).toNat) t1
          have g2 := gQ (d := s.d) (i := v - 1) (by omega) (e := IntKind.i64.wrap ((v : Int) - 1)) ep
          have t2 : (IntKind.i64.wrap ((v : Int) - 1)).toNat = v - 1 := by rw [ep]; rfl
          have n2 := gN (d := s.d) (i := v - 1) (by omega) (e := (IntKind.i64.wrap ((v : Int) - 1)).toNat) t2
          have gs := gS (d := s.d) (i := v - 1) (k := v) (x := s.d[v - 1]!) t1 (by omega) (e := IntKind.i64.wrap ((v : Int) - 1)) ep
          have ns := nS (d := s.d) (i := v - 1) (k := v) (x := s.d[v - 1]!) t1 (by omega) (e := (IntKind.i64.wrap ((v : Int) - 1)).toNat) t2
          conv => whnf
          iterate 8 (try (conv => arg 2; repeat (first | rw [g1] | rw [n1] | rw [g2] | rw [n2] | rw [gs] | rw [ns] | (whnf; arg 2))
                          conv => whnf))
          refine iteC (fun g3 => ?_) (fun g3 => ?_)
          · have g4 := of_decide_eq_true g3
            have g5 : v - a ≥ 2 := by rw [wr_i64 (by omega) (by omega)] at g4; omega
            conv => whnf
            refine LoopJ.introX (I := []) (base' := 1000) hX hm (by kernel_rfl) 4 (σ := StQ) (fun y => [(0, .own 208), (1, .p (.i .i64 ((a : Nat) : Int))), (2, .p (.i .i64 ((b : Nat) : Int))), (7, .p (.i .i64 ((v : Nat) : Int))), (8, .p (.i .i64 ((s.j : Nat) : Int))), (9, .p (.i .i64 ((y.i : Nat) : Int)))]) (fun y => (208, qb y.d) :: y.h)
              (fun y => y.i ≤ v - 1 ∧ y.d.size = d.size ∧ Ext 208 h0 y.h ∧ shiftDown ltInt y.i y.d = shiftDown ltInt (v - 1) (swp s.d v (v - 1))) (fun y => y.d.size = d.size ∧ Ext 208 h0 y.h ∧ y.d = shiftDown ltInt (v - 1) (swp s.d v (v - 1))) (fun y => y.i) ⟨v - 1, 0, swp s.d v (v - 1), _⟩
              ⟨Nat.le_refl _, by rw [size_swp]; exact hsz, hE.cons.cons, rfl⟩ (heapQ (swpZ t1 t2 rfl rfl)) ⟨rfl, rfl, rfl, rfl, rfl, avI (decI (by omega) (by omega)), trivial⟩ ?_ ?_
            · intro y ⟨y1, y2, y3, y4⟩
              conv => whnf
              refine iteC (fun l1 => ?_) (fun l1 => ?_)
              · have l2 := of_decide_eq_true l1
                have l3 : 1 ≤ y.i := by omega
                have ep : IntKind.i64.wrap ((y.i : Int) - 1) = ((y.i - 1 : Nat) : Int) := decI (by omega) (by omega)
                have g1 := gQ (d := y.d) (i := y.i) (by omega) (e := (y.i : Int)) rfl
                have t1 : ((y.i : Int)).toNat = y.i := rfl
                have n1 := gN (d := y.d) (i := y.i) (by omega) (e := ((y.i : Int)).toNat) t1
                have g2 := gQ (d := y.d) (i := y.i - 1) (by omega) (e := IntKind.i64.wrap ((y.i : Int) - 1)) ep
                have t2 : (IntKind.i64.wrap ((y.i : Int) - 1)).toNat = y.i - 1 := by rw [ep]; rfl
                have n2 := gN (d := y.d) (i := y.i - 1) (by omega) (e := (IntKind.i64.wrap ((y.i : Int) - 1)).toNat) t2
                have c1 := f28_ok y.d[y.i]! y.d[y.i - 1]!
                conv => whnf
                iterate 4 (try (conv => arg 2; repeat (first | rw [g1] | rw [n1] | rw [g2] | rw [n2] | (whnf; arg 2))
                                conv => whnf))
                refine ⟨_, c1, ?_⟩
                conv => whnf
                refine iteC (fun l4 => ?_) (fun l4 => ?_)
                · rw [shD_go l3 l4] at y4
                  have g1 := gQ (d := y.d) (i := y.i) (by omega) (e := (y.i : Int)) rfl
                  have t1 : ((y.i : Int)).toNat = y.i := rfl
                  have n1 := gN (d := y.d) (i := y.i) (by omega) (e := ((y.i : Int)).toNat) t1
                  have g2 := gQ (d := y.d) (i := y.i - 1) (by omega) (e := IntKind.i64.wrap ((y.i : Int) - 1)) ep
                  have t2 : (IntKind.i64.wrap ((y.i : Int) - 1)).toNat = y.i - 1 := by rw [ep]; rfl
                  have n2 := gN (d := y.d) (i := y.i - 1) (by omega) (e := (IntKind.i64.wrap ((y.i : Int) - 1)).toNat) t2
                  have gs := gS (d := y.d) (i := y.i - 1) (k := y.i) (x := y.d[y.i - 1]!) t1 (by omega) (e := IntKind.i64.wrap ((y.i : Int) - 1)) ep
                  have ns := nS (d := y.d) (i := y.i - 1) (k := y.i) (x := y.d[y.i - 1]!) t1 (by omega) (e := (IntKind.i64.wrap ((y.i : Int) - 1)).toNat) t2
                  conv => whnf
                  iterate 8 (try (conv => arg 2; repeat (first | rw [g1] | rw [n1] | rw [g2] | rw [n2] | rw [gs] | rw [ns] | (whnf; arg 2))
                                  conv => whnf))
                  exact ⟨⟨y.i - 1, 0, swp y.d y.i (y.i - 1), _⟩, ⟨by dsimp only; omega, by rw [size_swp]; exact y2, y3.cons.cons, y4⟩, by dsimp only; omega, heapQ (swpZ t1 t2 rfl rfl), ⟨rfl, rfl, rfl, rfl, rfl, avI ep, trivial⟩⟩
                · rw [shD_stop l4] at y4
                  conv => whnf
                  exact ⟨y, ⟨y2, y3, y4⟩, rfl, ⟨rfl, rfl, rfl, rfl, rfl, rfl, trivial⟩⟩
              · have l2 := of_decide_eq_false l1
                rw [shD_zero (by omega)] at y4
                conv => whnf
                exact ⟨y, ⟨y2, y3, y4⟩, rfl, ⟨rfl, rfl, rfl, rfl, rfl, rfl, trivial⟩⟩
            · intro y ⟨y2, y3, y4⟩
              conv => whnf
              refine iteC (fun k1 => ?_) (fun k1 => ?_)
              · have k2 := of_decide_eq_true k1
                have k3 : b - v ≥ 2 := by rw [wr_i64 (by omega) (by omega)] at k2; omega
                have hfd : fixDown ltInt a v (swp s.d v (v - 1)) = y.d := (show fixDown ltInt a v (swp s.d v (v - 1)) = shiftDown ltInt (v - 1) (swp s.d v (v - 1)) from if_pos g5).trans y4.symm
                rw [hfd, show fixUp ltInt b v (y.d) = shiftUp ltInt b (v + 1) (y.d) from if_pos k3] at hR
                conv => whnf
                refine LoopJ.introX (I := []) (base' := 1000) hX hm (by kernel_rfl) 6 (σ := StQ) (fun z => [(0, .own 208), (1, .p (.i .i64 ((a : Nat) : Int))), (2, .p (.i .i64 ((b : Nat) : Int))), (7, .p (.i .i64 ((v : Nat) : Int))), (8, .p (.i .i64 ((s.j : Nat) : Int))), (10, .p (.i .i64 ((z.i : Nat) : Int)))]) (fun z => (208, qb z.d) :: z.h)
                  (fun z => v + 1 ≤ z.i ∧ z.i ≤ b ∧ z.d.size = d.size ∧ Ext 208 h0 z.h ∧ shiftUp ltInt b z.i z.d = shiftUp ltInt b (v + 1) (y.d)) (fun z => z.d.size = d.size ∧ Ext 208 h0 z.h ∧ z.d = shiftUp ltInt b (v + 1) (y.d)) (fun z => b - z.i) ⟨v + 1, 0, y.d, _⟩
                  ⟨Nat.le_refl _, by dsimp only; omega, y2, y3, rfl⟩ (rfl) ⟨rfl, rfl, rfl, rfl, rfl, avI (incI (by omega)), trivial⟩ ?_ ?_
                · intro z ⟨z1, z2, z3, z4, z5⟩
                  conv => whnf
                  refine iteC (fun l1 => ?_) (fun l1 => ?_)
                  · have l2 := of_decide_eq_true l1
                    have l3 : z.i < b := by omega
                    have ep : IntKind.i64.wrap ((z.i : Int) - 1) = ((z.i - 1 : Nat) : Int) := decI (by omega) (by omega)
                    have g1 := gQ (d := z.d) (i := z.i) (by omega) (e := (z.i : Int)) rfl
                    have t1 : ((z.i : Int)).toNat = z.i := rfl
                    have n1 := gN (d := z.d) (i := z.i) (by omega) (e := ((z.i : Int)).toNat) t1
                    have g2 := gQ (d := z.d) (i := z.i - 1) (by omega) (e := IntKind.i64.wrap ((z.i : Int) - 1)) ep
                    have t2 : (IntKind.i64.wrap ((z.i : Int) - 1)).toNat = z.i - 1 := by rw [ep]; rfl
                    have n2 := gN (d := z.d) (i := z.i - 1) (by omega) (e := (IntKind.i64.wrap ((z.i : Int) - 1)).toNat) t2
                    have c1 := f28_ok z.d[z.i]! z.d[z.i - 1]!
                    conv => whnf
                    iterate 4 (try (conv => arg 2; repeat (first | rw [g1] | rw [n1] | rw [g2] | rw [n2] | (whnf; arg 2))
                                    conv => whnf))
                    refine ⟨_, c1, ?_⟩
                    conv => whnf
                    refine iteC (fun l4 => ?_) (fun l4 => ?_)
                    · rw [shU_go l3 l4] at z5
                      have g1 := gQ (d := z.d) (i := z.i) (by omega) (e := (z.i : Int)) rfl
                      have t1 : ((z.i : Int)).toNat = z.i := rfl
                      have n1 := gN (d := z.d) (i := z.i) (by omega) (e := ((z.i : Int)).toNat) t1
                      have g2 := gQ (d := z.d) (i := z.i - 1) (by omega) (e := IntKind.i64.wrap ((z.i : Int) - 1)) ep
                      have t2 : (IntKind.i64.wrap ((z.i : Int) - 1)).toNat = z.i - 1 := by rw [ep]; rfl
                      have n2 := gN (d := z.d) (i := z.i - 1) (by omega) (e := (IntKind.i64.wrap ((z.i : Int) - 1)).toNat) t2
                      have gs := gS (d := z.d) (i := z.i - 1) (k := z.i) (x := z.d[z.i - 1]!) t1 (by omega) (e := IntKind.i64.wrap ((z.i : Int) - 1)) ep
                      have ns := nS (d := z.d) (i := z.i - 1) (k := z.i) (x := z.d[z.i - 1]!) t1 (by omega) (e := (IntKind.i64.wrap ((z.i : Int) - 1)).toNat) t2
                      conv => whnf
                      iterate 8 (try (conv => arg 2; repeat (first | rw [g1] | rw [n1] | rw [g2] | rw [n2] | rw [gs] | rw [ns] | (whnf; arg 2))
                                      conv => whnf))
                      exact ⟨⟨z.i + 1, 0, swp z.d z.i (z.i - 1), _⟩, ⟨by dsimp only; omega, by dsimp only; omega, by rw [size_swp]; exact z3, z4.cons.cons, z5⟩, by dsimp only; omega, heapQ (swpZ t1 t2 rfl rfl), ⟨rfl, rfl, rfl, rfl, rfl, avI (incI (by omega)), trivial⟩⟩
                    · rw [shU_stop (.inr l4)] at z5
                      conv => whnf
                      exact ⟨z, ⟨z3, z4, z5⟩, rfl, ⟨rfl, rfl, rfl, rfl, rfl, rfl, trivial⟩⟩
                  · have l2 := of_decide_eq_false l1
                    rw [shU_stop (.inl (by omega))] at z5
                    conv => whnf
                    exact ⟨z, ⟨z3, z4, z5⟩, rfl, ⟨rfl, rfl, rfl, rfl, rfl, rfl, trivial⟩⟩
                · intro z ⟨z3, z4, z5⟩
                  rw [← z5] at hR
                  conv => whnf
                  refine ⟨⟨v, s.j + 1, z.d, _⟩, ⟨by dsimp only; omega, by dsimp only; omega, by dsimp only; omega, z3, z4, by dsimp only; rw [show 5 - (s.j + 1) = k from by omega]; exact hR⟩, by dsimp only; omega, rfl, ⟨rfl, rfl, rfl, rfl, avI (incI (by omega)), trivial⟩⟩
              · have k2 := of_decide_eq_false k1
                have k3 : ¬ b - v ≥ 2 := by rw [wr_i64 (by omega) (by omega)] at k2; omega
                have hfd : fixDown ltInt a v (swp s.d v (v - 1)) = y.d := (show fixDown ltInt a v (swp s.d v (v - 1)) = shiftDown ltInt (v - 1) (swp s.d v (v - 1)) from if_pos g5).trans y4.symm
                rw [hfd, show fixUp ltInt b v (y.d) = y.d from if_neg k3] at hR
                conv => whnf
                refine ⟨⟨v, s.j + 1, y.d, _⟩, ⟨by dsimp only; omega, by dsimp only; omega, by dsimp only; omega, y2, y3, by dsimp only; rw [show 5 - (s.j + 1) = k from by omega]; exact hR⟩, by dsimp only; omega, rfl, ⟨rfl, rfl, rfl, rfl, avI (incI (by omega)), trivial⟩⟩
          · have g4 := of_decide_eq_false g3
            have g5 : ¬ v - a ≥ 2 := by rw [wr_i64 (by omega) (by omega)] at g4; omega
            conv => whnf
            refine iteC (fun k1 => ?_) (fun k1 => ?_)
            · have k2 := of_decide_eq_true k1
              have k3 : b - v ≥ 2 := by rw [wr_i64 (by omega) (by omega)] at k2; omega
              have hfd : fixDown ltInt a v (swp s.d v (v - 1)) = swp s.d v (v - 1) := if_neg g5
              rw [hfd, show fixUp ltInt b v (swp s.d v (v - 1)) = shiftUp ltInt b (v + 1) (swp s.d v (v - 1)) from if_pos k3] at hR
              conv => whnf
              refine LoopJ.introX (I := []) (base' := 1000) hX hm (by kernel_rfl) 6 (σ := StQ) (fun z => [(0, .own 208), (1, .p (.i .i64 ((a : Nat) : Int))), (2, .p (.i .i64 ((b : Nat) : Int))), (7, .p (.i .i64 ((v : Nat) : Int))), (8, .p (.i .i64 ((s.j : Nat) : Int))), (10, .p (.i .i64 ((z.i : Nat) : Int)))]) (fun z => (208, qb z.d) :: z.h)
                (fun z => v + 1 ≤ z.i ∧ z.i ≤ b ∧ z.d.size = d.size ∧ Ext 208 h0 z.h ∧ shiftUp ltInt b z.i z.d = shiftUp ltInt b (v + 1) (swp s.d v (v - 1))) (fun z => z.d.size = d.size ∧ Ext 208 h0 z.h ∧ z.d = shiftUp ltInt b (v + 1) (swp s.d v (v - 1))) (fun z => b - z.i) ⟨v + 1, 0, swp s.d v (v - 1), _⟩
                ⟨Nat.le_refl _, by dsimp only; omega, by rw [size_swp]; exact hsz, hE.cons.cons, rfl⟩ (heapQ (swpZ t1 t2 rfl rfl)) ⟨rfl, rfl, rfl, rfl, rfl, avI (incI (by omega)), trivial⟩ ?_ ?_
              · intro z ⟨z1, z2, z3, z4, z5⟩
                conv => whnf
                refine iteC (fun l1 => ?_) (fun l1 => ?_)
                · have l2 := of_decide_eq_true l1
                  have l3 : z.i < b := by omega
                  have ep : IntKind.i64.wrap ((z.i : Int) - 1) = ((z.i - 1 : Nat) : Int) := decI (by omega) (by omega)
                  have g1 := gQ (d := z.d) (i := z.i) (by omega) (e := (z.i : Int)) rfl
                  have t1 : ((z.i : Int)).toNat = z.i := rfl
                  have n1 := gN (d := z.d) (i := z.i) (by omega) (e := ((z.i : Int)).toNat) t1
                  have g2 := gQ (d := z.d) (i := z.i - 1) (by omega) (e := IntKind.i64.wrap ((z.i : Int) - 1)) ep
                  have t2 : (IntKind.i64.wrap ((z.i : Int) - 1)).toNat = z.i - 1 := by rw [ep]; rfl
                  have n2 := gN (d := z.d) (i := z.i - 1) (by omega) (e := (IntKind.i64.wrap ((z.i : Int) - 1)).toNat) t2
                  have c1 := f28_ok z.d[z.i]! z.d[z.i - 1]!
                  conv => whnf
                  iterate 4 (try (conv => arg 2; repeat (first | rw [g1] | rw [n1] | rw [g2] | rw [n2] | (whnf; arg 2))
                                  conv => whnf))
                  refine ⟨_, c1, ?_⟩
                  conv => whnf
                  refine iteC (fun l4 => ?_) (fun l4 => ?_)
                  · rw [shU_go l3 l4] at z5
                    have g1 := gQ (d := z.d) (i := z.i) (by omega) (e := (z.i : Int)) rfl
                    have t1 : ((z.i : Int)).toNat = z.i := rfl
                    have n1 := gN (d := z.d) (i := z.i) (by omega) (e := ((z.i : Int)).toNat) t1
                    have g2 := gQ (d := z.d) (i := z.i - 1) (by omega) (e := IntKind.i64.wrap ((z.i : Int) - 1)) ep
                    have t2 : (IntKind.i64.wrap ((z.i : Int) - 1)).toNat = z.i - 1 := by rw [ep]; rfl
                    have n2 := gN (d := z.d) (i := z.i - 1) (by omega) (e := (IntKind.i64.wrap ((z.i : Int) - 1)).toNat) t2
                    have gs := gS (d := z.d) (i := z.i - 1) (k := z.i) (x := z.d[z.i - 1]!) t1 (by omega) (e := IntKind.i64.wrap ((z.i : Int) - 1)) ep
                    have ns := nS (d := z.d) (i := z.i - 1) (k := z.i) (x := z.d[z.i - 1]!) t1 (by omega) (e := (IntKind.i64.wrap ((z.i : Int) - 1)).toNat) t2
                    conv => whnf
                    iterate 8 (try (conv => arg 2; repeat (first | rw [g1] | rw [n1] | rw [g2] | rw [n2] | rw [gs] | rw [ns] | (whnf; arg 2))
                                    conv => whnf))
                    exact ⟨⟨z.i + 1, 0, swp z.d z.i (z.i - 1), _⟩, ⟨by dsimp only; omega, by dsimp only; omega, by rw [size_swp]; exact z3, z4.cons.cons, z5⟩, by dsimp only; omega, heapQ (swpZ t1 t2 rfl rfl), ⟨rfl, rfl, rfl, rfl, rfl, avI (incI (by omega)), trivial⟩⟩
                  · rw [shU_stop (.inr l4)] at z5
                    conv => whnf
                    exact ⟨z, ⟨z3, z4, z5⟩, rfl, ⟨rfl, rfl, rfl, rfl, rfl, rfl, trivial⟩⟩
                · have l2 := of_decide_eq_false l1
                  rw [shU_stop (.inl (by omega))] at z5
                  conv => whnf
                  exact ⟨z, ⟨z3, z4, z5⟩, rfl, ⟨rfl, rfl, rfl, rfl, rfl, rfl, trivial⟩⟩
              · intro z ⟨z3, z4, z5⟩
                rw [← z5] at hR
                conv => whnf
                refine ⟨⟨v, s.j + 1, z.d, _⟩, ⟨by dsimp only; omega, by dsimp only; omega, by dsimp only; omega, z3, z4, by dsimp only; rw [show 5 - (s.j + 1) = k from by omega]; exact hR⟩, by dsimp only; omega, rfl, ⟨rfl, rfl, rfl, rfl, avI (incI (by omega)), trivial⟩⟩
            · have k2 := of_decide_eq_false k1
              have k3 : ¬ b - v ≥ 2 := by rw [wr_i64 (by omega) (by omega)] at k2; omega
              have hfd : fixDown ltInt a v (swp s.d v (v - 1)) = swp s.d v (v - 1) := if_neg g5
              rw [hfd, show fixUp ltInt b v (swp s.d v (v - 1)) = swp s.d v (v - 1) from if_neg k3] at hR
              conv => whnf
              refine ⟨⟨v, s.j + 1, swp s.d v (v - 1), _⟩, ⟨by dsimp only; omega, by dsimp only; omega, by dsimp only; omega, by rw [size_swp]; exact hsz, hE.cons.cons, by dsimp only; rw [show 5 - (s.j + 1) = k from by omega]; exact hR⟩, by dsimp only; omega, heapQ (swpZ t1 t2 rfl rfl), ⟨rfl, rfl, rfl, rfl, avI (incI (by omega)), trivial⟩⟩
  · have h2 := of_decide_eq_false h1
    rw [show 5 - s.j = 0 from by omega] at hR
    have hR : (s.d, false) = partialInsertionSort ltInt d a b := hR
    conv => whnf
    rw [← hR] at hK
    exact hK s.h hE
end Go.Proofs.Ytgjebgplbkjkhaa.AM
