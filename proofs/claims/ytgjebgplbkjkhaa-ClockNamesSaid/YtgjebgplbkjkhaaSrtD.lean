/- The library's sort: reversing; the heap. -/
import Derived.Test.YtgjebgplbkjkhaaSrtC
namespace Go.Proofs.Ytgjebgplbkjkhaa.AM
open Go Go.Proofs Go.Sort
set_option maxRecDepth 100000

structure StQ where
  i : Nat
  j : Nat
  d : Array Int
  h : Heap
theorem decI {n : Nat} (h : 1 ≤ n) (h2 : n < 1000000000) : IntKind.i64.wrap ((n : Int) - 1) = ((n - 1 : Nat) : Int) := by rw [wr_i64 (by omega) (by omega)]; omega
theorem incI {n : Nat} (h2 : n < 1000000000) : IntKind.i64.wrap ((n : Int) + 1) = ((n + 1 : Nat) : Int) := by rw [wr_i64 (by omega) (by omega)]; omega
theorem avI {x y : Int} (h : x = y) : AV.p (.i .i64 x) = AV.p (.i .i64 y) := by rw [h]
theorem revL_go {i j : Nat} {d : Array Int} (h : i < j) : reverseLoop i j d = reverseLoop (i + 1) (j - 1) (swp d i j) := by rw [reverseLoop, if_pos h]
theorem revL_stop {i j : Nat} {d : Array Int} (h : ¬ i < j) : reverseLoop i j d = d := by rw [reverseLoop, if_neg h]
set_option maxHeartbeats 4000000 in
theorem f38_ok (h0 : Heap) (d : Array Int) (a b : Nat) {xa xb : Int} (ea : xa = (a : Int)) (eb : xb = (b : Int)) (hab : a < b) (hb : b ≤ d.size) (hs : d.size < 1000000) (K : AV → Heap → Prop)
    (hK : ∀ h1, Ext 208 h0 h1 → K (.tup []) ((208, qb (reverseRange d a b)) :: h1)) :
    InlS Try.prog X 38 [.own 208, .p (.i .i64 xa), .p (.i .i64 xb)] ((208, qb d) :: h0) K := by
  subst ea eb
  refine InlS.intro (I := []) hX hm 1000 Try.func38 rfl rfl (by kernel_rfl) rfl ?_
  conv => whnf
  refine LoopJ.introT (I := []) (base' := 1000) hX hm (by kernel_rfl) (σ := StQ) (fun s => [(0, .own 208), (6, .p (.i .i64 s.i)), (7, .p (.i .i64 s.j))]) (fun s => (208, qb s.d) :: s.h)
    (fun s => s.i ≤ d.size ∧ s.j < d.size ∧ s.d.size = d.size ∧ Ext 208 h0 s.h ∧ reverseLoop s.i s.j s.d = reverseRange d a b) (fun s => s.j - s.i) ⟨a, b - 1, d, h0⟩
    ⟨by dsimp only; omega, by dsimp only; omega, rfl, Ext.refl _ _, rfl⟩ rfl ⟨rfl, rfl, avI (decI (by omega) (by omega)), trivial⟩ ?_
  intro s ⟨hi, hj, hsz, hE, hR⟩
  conv => whnf
  refine iteC (fun h => ?_) (fun h => ?_)
  · have h1 := of_decide_eq_true h
    have hij : s.i < s.j := by omega
    rw [revL_go hij] at hR
    have g1 := gQ (d := s.d) (i := s.i) (by omega) (e := (s.i : Int)) rfl
    have t1 : ((s.i : Int)).toNat = s.i := rfl
    have n1 := gN (d := s.d) (i := s.i) (by omega) (e := ((s.i : Int)).toNat) t1
    have g2 := gQ (d := s.d) (i := s.j) (by omega) (e := (s.j : Int)) rfl
    have t2 : ((s.j : Int)).toNat = s.j := rfl
    have n2 := gN (d := s.d) (i := s.j) (by omega) (e := ((s.j : Int)).toNat) t2
    have gs := gS (d := s.d) (i := s.j) (k := s.i) (x := s.d[s.j]!) t1 (by omega) (e := (s.j : Int)) rfl
    have ns := nS (d := s.d) (i := s.j) (k := s.i) (x := s.d[s.j]!) t1 (by omega) (e := ((s.j : Int)).toNat) t2
    conv => whnf
    iterate 8 (try (conv => arg 2; repeat (first | rw [g1] | rw [n1] | rw [g2] | rw [n2] | rw [gs] | rw [ns] | (whnf; arg 2))
                    conv => whnf))
    refine ⟨⟨s.i + 1, s.j - 1, swp s.d s.i s.j, _⟩, ⟨by dsimp only; omega, by dsimp only; omega, by rw [size_swp]; exact hsz, hE.cons.cons, hR⟩, by dsimp only; omega, heapQ (swpZ t1 t2 rfl rfl), ⟨rfl, avI (incI (by omega)), avI (decI (by omega) (by omega)), trivial⟩⟩
  · have h1 := of_decide_eq_false h
    rw [revL_stop (by omega)] at hR
    have hk := hK s.h hE
    rw [← hR] at hk
    exact hk
theorem sift_stop {hi first r : Nat} {d : Array Int} (h : hi ≤ 2 * r + 1) : siftDown ltInt hi first r d = d := by rw [siftDown, dif_pos h]
theorem sift_R {hi first r : Nat} {d : Array Int} (h : 2 * r + 1 + 1 < hi) (hl : ltInt d[first + (2 * r + 1)]! d[first + (2 * r + 1) + 1]! = true) :
    siftDown ltInt hi first r d = if !ltInt d[first + r]! d[first + (2 * r + 2)]! then d else siftDown ltInt hi first (2 * r + 2) (swp d (first + r) (first + (2 * r + 2))) := by
  rw [siftDown, dif_neg (by omega), if_pos (by simp [hl, h])]
  split
  · rfl
  · first | rfl | rw [dif_pos (by omega)]
theorem sift_L {hi first r : Nat} {d : Array Int} (h1 : 2 * r + 1 < hi) (h : 2 * r + 1 + 1 < hi → ltInt d[first + (2 * r + 1)]! d[first + (2 * r + 1) + 1]! = false) :
    siftDown ltInt hi first r d = if !ltInt d[first + r]! d[first + (2 * r + 1)]! then d else siftDown ltInt hi first (2 * r + 1) (swp d (first + r) (first + (2 * r + 1))) := by
  rw [siftDown, dif_neg (by omega), if_neg]
  intro hc
  rw [Bool.and_eq_true, decide_eq_true_eq] at hc
  rw [h hc.1] at hc
  exact Bool.false_ne_true hc.2
theorem sift_size (hi first : Nat) : ∀ (k r : Nat) (d : Array Int), hi - r ≤ k → (siftDown ltInt hi first r d).size = d.size := by
  intro k
  induction k with
  | zero => intro r d h; rw [sift_stop (by omega)]
  | succ k ih =>
    intro r d h
    by_cases h1 : hi ≤ 2 * r + 1
    · rw [sift_stop h1]
    · by_cases h2 : 2 * r + 1 + 1 < hi ∧ ltInt d[first + (2 * r + 1)]! d[first + (2 * r + 1) + 1]! = true
      · rw [sift_R h2.1 h2.2]
        split
        · rfl
        · rw [ih _ _ (by omega), size_swp]
      · rw [sift_L (by omega) (fun h3 => by
          cases h4 : ltInt d[first + (2 * r + 1)]! d[first + (2 * r + 1) + 1]! with
          | false => rfl
          | true => exact absurd ⟨h3, h4⟩ h2)]
        split
        · rfl
        · rw [ih _ _ (by omega), size_swp]
set_option maxHeartbeats 8000000 in
theorem f44_ok (h0 : Heap) (d : Array Int) (lo hi first : Nat) {xlo xhi xfirst : Int} (elo : xlo = (lo : Int)) (ehi : xhi = (hi : Int)) (efirst : xfirst = (first : Int)) (hb : first + hi ≤ d.size) (hs : d.size < 1000000) (hl : lo < 1000000) (K : AV → Heap → Prop)
    (hK : ∀ h1, Ext 208 h0 h1 → K (.tup []) ((208, qb (siftDown ltInt hi first lo d)) :: h1)) :
    InlS Try.prog X 44 [.own 208, .p (.i .i64 xlo), .p (.i .i64 xhi), .p (.i .i64 xfirst)] ((208, qb d) :: h0) K := by
  subst elo ehi efirst
  refine InlS.intro (I := []) hX hm 1000 Try.func44 rfl rfl (by kernel_rfl) rfl ?_
  conv => whnf
  refine LoopJ.introT (I := []) (base' := 1000) hX hm (by kernel_rfl) (σ := StQ) (fun s => [(0, .own 208), (2, .p (.i .i64 hi)), (3, .p (.i .i64 first)), (8, .p (.i .i64 s.i))]) (fun s => (208, qb s.d) :: s.h)
    (fun s => s.i < 1000000 ∧ s.d.size = d.size ∧ Ext 208 h0 s.h ∧ siftDown ltInt hi first s.i s.d = siftDown ltInt hi first lo d) (fun s => hi - s.i) ⟨lo, 0, d, h0⟩
    ⟨hl, rfl, Ext.refl _ _, rfl⟩ rfl ⟨rfl, rfl, rfl, rfl, trivial⟩ ?_
  intro s ⟨hi1, hsz, hE, hR⟩
  have ec : IntKind.i64.wrap (IntKind.i64.wrap (2 * (s.i : Int)) + 1) = ((2 * s.i + 1 : Nat) : Int) := by rw [wr_i64 (n := 2 * (s.i : Int)) (by omega) (by omega), wr_i64 (by omega) (by omega)]; omega
  have ed : IntKind.i64.wrap (IntKind.i64.wrap (IntKind.i64.wrap (2 * (s.i : Int)) + 1) + 1) = ((2 * s.i + 2 : Nat) : Int) := by rw [ec, wr_i64 (by omega) (by omega)]; omega
  conv => whnf
  refine iteC (fun h1 => ?_) (fun h1 => ?_)
  · have h2 := of_decide_eq_true h1
    rw [sift_stop (by omega)] at hR
    have hk := hK s.h hE
    rw [← hR] at hk
    exact hk
  · have h2 := of_decide_eq_false h1
    have hc : 2 * s.i + 1 < hi := by omega
    conv => whnf
    refine iteC (fun h3 => ?_) (fun h3 => ?_)
    · have h4 := of_decide_eq_true h3
      have hc2 : 2 * s.i + 1 + 1 < hi := by omega
      have ea : IntKind.i64.wrap ((first : Int) + IntKind.i64.wrap (IntKind.i64.wrap (2 * (s.i : Int)) + 1)) = ((first + (2 * s.i + 1) : Nat) : Int) := by rw [ec, wr_i64 (by omega) (by omega)]; omega
      have eb : IntKind.i64.wrap (IntKind.i64.wrap ((first : Int) + IntKind.i64.wrap (IntKind.i64.wrap (2 * (s.i : Int)) + 1)) + 1) = ((first + (2 * s.i + 1) + 1 : Nat) : Int) := by rw [ea, wr_i64 (by omega) (by omega)]; omega
      have g3 := gQ (d := s.d) (i := first + (2 * s.i + 1)) (by omega) (e := IntKind.i64.wrap ((first : Int) + IntKind.i64.wrap (IntKind.i64.wrap (2 * (s.i : Int)) + 1))) ea
      have t3 : (IntKind.i64.wrap ((first : Int) + IntKind.i64.wrap (IntKind.i64.wrap (2 * (s.i : Int)) + 1))).toNat = first + (2 * s.i + 1) := by rw [ea]; rfl
      have n3 := gN (d := s.d) (i := first + (2 * s.i + 1)) (by omega) (e := (IntKind.i64.wrap ((first : Int) + IntKind.i64.wrap (IntKind.i64.wrap (2 * (s.i : Int)) + 1))).toNat) t3
      have g4 := gQ (d := s.d) (i := first + (2 * s.i + 1) + 1) (by omega) (e := IntKind.i64.wrap (IntKind.i64.wrap ((first : Int) + IntKind.i64.wrap (IntKind.i64.wrap (2 * (s.i : Int)) + 1)) + 1)) eb
      have t4 : (IntKind.i64.wrap (IntKind.i64.wrap ((first : Int) + IntKind.i64.wrap (IntKind.i64.wrap (2 * (s.i : Int)) + 1)) + 1)).toNat = first + (2 * s.i + 1) + 1 := by rw [eb]; rfl
      have n4 := gN (d := s.d) (i := first + (2 * s.i + 1) + 1) (by omega) (e := (IntKind.i64.wrap (IntKind.i64.wrap ((first : Int) + IntKind.i64.wrap (IntKind.i64.wrap (2 * (s.i : Int)) + 1)) + 1)).toNat) t4
      have c1 := f28_ok s.d[first + (2 * s.i + 1)]! s.d[first + (2 * s.i + 1) + 1]!
      conv => whnf
      iterate 4 (try (conv => arg 2; repeat (first | rw [g3] | rw [n3] | rw [g4] | rw [n4] | (whnf; arg 2))
                      conv => whnf))
      refine ⟨_, c1, ?_⟩
      conv => whnf
      refine iteC (fun h5 => ?_) (fun h5 => ?_)
      · rw [sift_R hc2 h5] at hR
        have er : IntKind.i64.wrap ((first : Int) + (s.i : Int)) = ((first + s.i : Nat) : Int) := by rw [wr_i64 (by omega) (by omega)]; omega
        have ef : IntKind.i64.wrap ((first : Int) + IntKind.i64.wrap (IntKind.i64.wrap (IntKind.i64.wrap (2 * (s.i : Int)) + 1) + 1)) = ((first + (2 * s.i + 2) : Nat) : Int) := by rw [ed, wr_i64 (by omega) (by omega)]; omega
        have g1 := gQ (d := s.d) (i := first + s.i) (by omega) (e := IntKind.i64.wrap ((first : Int) + (s.i : Int))) er
        have t1 : (IntKind.i64.wrap ((first : Int) + (s.i : Int))).toNat = first + s.i := by rw [er]; rfl
        have n1 := gN (d := s.d) (i := first + s.i) (by omega) (e := (IntKind.i64.wrap ((first : Int) + (s.i : Int))).toNat) t1
        have g2 := gQ (d := s.d) (i := first + (2 * s.i + 2)) (by omega) (e := IntKind.i64.wrap ((first : Int) + IntKind.i64.wrap (IntKind.i64.wrap (IntKind.i64.wrap (2 * (s.i : Int)) + 1) + 1))) ef
        have t2 : (IntKind.i64.wrap ((first : Int) + IntKind.i64.wrap (IntKind.i64.wrap (IntKind.i64.wrap (2 * (s.i : Int)) + 1) + 1))).toNat = first + (2 * s.i + 2) := by rw [ef]; rfl
        have n2 := gN (d := s.d) (i := first + (2 * s.i + 2)) (by omega) (e := (IntKind.i64.wrap ((first : Int) + IntKind.i64.wrap (IntKind.i64.wrap (IntKind.i64.wrap (2 * (s.i : Int)) + 1) + 1))).toNat) t2
        have c2 := f28_ok s.d[first + s.i]! s.d[first + (2 * s.i + 2)]!
        conv => whnf
        iterate 4 (try (conv => arg 2; repeat (first | rw [g1] | rw [n1] | rw [g2] | rw [n2] | (whnf; arg 2))
                        conv => whnf))
        refine ⟨_, c2, ?_⟩
        conv => whnf
        refine iteC (fun h6 => ?_) (fun h6 => ?_)
        · rw [h6] at hR
          simp only [Bool.not_true, Bool.false_eq_true, if_false] at hR
          have g1 := gQ (d := s.d) (i := first + s.i) (by omega) (e := IntKind.i64.wrap ((first : Int) + (s.i : Int))) er
          have t1 : (IntKind.i64.wrap ((first : Int) + (s.i : Int))).toNat = first + s.i := by rw [er]; rfl
          have n1 := gN (d := s.d) (i := first + s.i) (by omega) (e := (IntKind.i64.wrap ((first : Int) + (s.i : Int))).toNat) t1
          have g2 := gQ (d := s.d) (i := first + (2 * s.i + 2)) (by omega) (e := IntKind.i64.wrap ((first : Int) + IntKind.i64.wrap (IntKind.i64.wrap (IntKind.i64.wrap (2 * (s.i : Int)) + 1) + 1))) ef
          have t2 : (IntKind.i64.wrap ((first : Int) + IntKind.i64.wrap (IntKind.i64.wrap (IntKind.i64.wrap (2 * (s.i : Int)) + 1) + 1))).toNat = first + (2 * s.i + 2) := by rw [ef]; rfl
          have n2 := gN (d := s.d) (i := first + (2 * s.i + 2)) (by omega) (e := (IntKind.i64.wrap ((first : Int) + IntKind.i64.wrap (IntKind.i64.wrap (IntKind.i64.wrap (2 * (s.i : Int)) + 1) + 1))).toNat) t2
          have gs := gS (d := s.d) (i := first + (2 * s.i + 2)) (k := first + s.i) (x := s.d[first + (2 * s.i + 2)]!) t1 (by omega) (e := IntKind.i64.wrap ((first : Int) + IntKind.i64.wrap (IntKind.i64.wrap (IntKind.i64.wrap (2 * (s.i : Int)) + 1) + 1))) ef
          have ns := nS (d := s.d) (i := first + (2 * s.i + 2)) (k := first + s.i) (x := s.d[first + (2 * s.i + 2)]!) t1 (by omega) (e := (IntKind.i64.wrap ((first : Int) + IntKind.i64.wrap (IntKind.i64.wrap (IntKind.i64.wrap (2 * (s.i : Int)) + 1) + 1))).toNat) t2
          conv => whnf
          iterate 8 (try (conv => arg 2; repeat (first | rw [g1] | rw [n1] | rw [g2] | rw [n2] | rw [gs] | rw [ns] | (whnf; arg 2))
                          conv => whnf))
          refine ⟨⟨2 * s.i + 2, 0, swp s.d (first + s.i) (first + (2 * s.i + 2)), _⟩, ⟨by dsimp only; omega, by rw [size_swp]; exact hsz, hE.cons.cons, hR⟩, by dsimp only; omega, heapQ (swpZ t1 t2 rfl rfl), ⟨rfl, rfl, rfl, avI ed, trivial⟩⟩
        · rw [h6] at hR
          simp only [Bool.not_false, if_true] at hR
          have hk := hK s.h hE
          rw [← hR] at hk
          exact hk
      · rw [sift_L hc fun _ => h5] at hR
        have er : IntKind.i64.wrap ((first : Int) + (s.i : Int)) = ((first + s.i : Nat) : Int) := by rw [wr_i64 (by omega) (by omega)]; omega
        have ef : IntKind.i64.wrap ((first : Int) + IntKind.i64.wrap (IntKind.i64.wrap (2 * (s.i : Int)) + 1)) = ((first + (2 * s.i + 1) : Nat) : Int) := by rw [ec, wr_i64 (by omega) (by omega)]; omega
        have g1 := gQ (d := s.d) (i := first + s.i) (by omega) (e := IntKind.i64.wrap ((first : Int) + (s.i : Int))) er
        have t1 : (IntKind.i64.wrap ((first : Int) + (s.i : Int))).toNat = first + s.i := by rw [er]; rfl
        have n1 := gN (d := s.d) (i := first + s.i) (by omega) (e := (IntKind.i64.wrap ((first : Int) + (s.i : Int))).toNat) t1
        have g2 := gQ (d := s.d) (i := first + (2 * s.i + 1)) (by omega) (e := IntKind.i64.wrap ((first : Int) + IntKind.i64.wrap (IntKind.i64.wrap (2 * (s.i : Int)) + 1))) ef
        have t2 : (IntKind.i64.wrap ((first : Int) + IntKind.i64.wrap (IntKind.i64.wrap (2 * (s.i : Int)) + 1))).toNat = first + (2 * s.i + 1) := by rw [ef]; rfl
        have n2 := gN (d := s.d) (i := first + (2 * s.i + 1)) (by omega) (e := (IntKind.i64.wrap ((first : Int) + IntKind.i64.wrap (IntKind.i64.wrap (2 * (s.i : Int)) + 1))).toNat) t2
        have c2 := f28_ok s.d[first + s.i]! s.d[first + (2 * s.i + 1)]!
        conv => whnf
        iterate 4 (try (conv => arg 2; repeat (first | rw [g1] | rw [n1] | rw [g2] | rw [n2] | (whnf; arg 2))
                        conv => whnf))
        refine ⟨_, c2, ?_⟩
        conv => whnf
        refine iteC (fun h6 => ?_) (fun h6 => ?_)
        · rw [h6] at hR
          simp only [Bool.not_true, Bool.false_eq_true, if_false] at hR
          have g1 := gQ (d := s.d) (i := first + s.i) (by omega) (e := IntKind.i64.wrap ((first : Int) + (s.i : Int))) er
          have t1 : (IntKind.i64.wrap ((first : Int) + (s.i : Int))).toNat = first + s.i := by rw [er]; rfl
          have n1 := gN (d := s.d) (i := first + s.i) (by omega) (e := (IntKind.i64.wrap ((first : Int) + (s.i : Int))).toNat) t1
          have g2 := gQ (d := s.d) (i := first + (2 * s.i + 1)) (by omega) (e := IntKind.i64.wrap ((first : Int) + IntKind.i64.wrap (IntKind.i64.wrap (2 * (s.i : Int)) + 1))) ef
          have t2 : (IntKind.i64.wrap ((first : Int) + IntKind.i64.wrap (IntKind.i64.wrap (2 * (s.i : Int)) + 1))).toNat = first + (2 * s.i + 1) := by rw [ef]; rfl
          have n2 := gN (d := s.d) (i := first + (2 * s.i + 1)) (by omega) (e := (IntKind.i64.wrap ((first : Int) + IntKind.i64.wrap (IntKind.i64.wrap (2 * (s.i : Int)) + 1))).toNat) t2
          have gs := gS (d := s.d) (i := first + (2 * s.i + 1)) (k := first + s.i) (x := s.d[first + (2 * s.i + 1)]!) t1 (by omega) (e := IntKind.i64.wrap ((first : Int) + IntKind.i64.wrap (IntKind.i64.wrap (2 * (s.i : Int)) + 1))) ef
          have ns := nS (d := s.d) (i := first + (2 * s.i + 1)) (k := first + s.i) (x := s.d[first + (2 * s.i + 1)]!) t1 (by omega) (e := (IntKind.i64.wrap ((first : Int) + IntKind.i64.wrap (IntKind.i64.wrap (2 * (s.i : Int)) + 1))).toNat) t2
          conv => whnf
          iterate 8 (try (conv => arg 2; repeat (first | rw [g1] | rw [n1] | rw [g2] | rw [n2] | rw [gs] | rw [ns] | (whnf; arg 2))
                          conv => whnf))
          refine ⟨⟨2 * s.i + 1, 0, swp s.d (first + s.i) (first + (2 * s.i + 1)), _⟩, ⟨by dsimp only; omega, by rw [size_swp]; exact hsz, hE.cons.cons, hR⟩, by dsimp only; omega, heapQ (swpZ t1 t2 rfl rfl), ⟨rfl, rfl, rfl, avI ec, trivial⟩⟩
        · rw [h6] at hR
          simp only [Bool.not_false, if_true] at hR
          have hk := hK s.h hE
          rw [← hR] at hk
          exact hk
    · have h4 := of_decide_eq_false h3
      rw [sift_L hc fun h => absurd h (by omega)] at hR
      have er : IntKind.i64.wrap ((first : Int) + (s.i : Int)) = ((first + s.i : Nat) : Int) := by rw [wr_i64 (by omega) (by omega)]; omega
      have ef : IntKind.i64.wrap ((first : Int) + IntKind.i64.wrap (IntKind.i64.wrap (2 * (s.i : Int)) + 1)) = ((first + (2 * s.i + 1) : Nat) : Int) := by rw [ec, wr_i64 (by omega) (by omega)]; omega
      have g1 := gQ (d := s.d) (i := first + s.i) (by omega) (e := IntKind.i64.wrap ((first : Int) + (s.i : Int))) er
      have t1 : (IntKind.i64.wrap ((first : Int) + (s.i : Int))).toNat = first + s.i := by rw [er]; rfl
      have n1 := gN (d := s.d) (i := first + s.i) (by omega) (e := (IntKind.i64.wrap ((first : Int) + (s.i : Int))).toNat) t1
      have g2 := gQ (d := s.d) (i := first + (2 * s.i + 1)) (by omega) (e := IntKind.i64.wrap ((first : Int) + IntKind.i64.wrap (IntKind.i64.wrap (2 * (s.i : Int)) + 1))) ef
      have t2 : (IntKind.i64.wrap ((first : Int) + IntKind.i64.wrap (IntKind.i64.wrap (2 * (s.i : Int)) + 1))).toNat = first + (2 * s.i + 1) := by rw [ef]; rfl
      have n2 := gN (d := s.d) (i := first + (2 * s.i + 1)) (by omega) (e := (IntKind.i64.wrap ((first : Int) + IntKind.i64.wrap (IntKind.i64.wrap (2 * (s.i : Int)) + 1))).toNat) t2
      have c2 := f28_ok s.d[first + s.i]! s.d[first + (2 * s.i + 1)]!
      conv => whnf
      iterate 4 (try (conv => arg 2; repeat (first | rw [g1] | rw [n1] | rw [g2] | rw [n2] | (whnf; arg 2))
                      conv => whnf))
      refine ⟨_, c2, ?_⟩
      conv => whnf
      refine iteC (fun h6 => ?_) (fun h6 => ?_)
      · rw [h6] at hR
        simp only [Bool.not_true, Bool.false_eq_true, if_false] at hR
        have g1 := gQ (d := s.d) (i := first + s.i) (by omega) (e := IntKind.i64.wrap ((first : Int) + (s.i : Int))) er
        have t1 : (IntKind.i64.wrap ((first : Int) + (s.i : Int))).toNat = first + s.i := by rw [er]; rfl
        have n1 := gN (d := s.d) (i := first + s.i) (by omega) (e := (IntKind.i64.wrap ((first : Int) + (s.i : Int))).toNat) t1
        have g2 := gQ (d := s.d) (i := first + (2 * s.i + 1)) (by omega) (e := IntKind.i64.wrap ((first : Int) + IntKind.i64.wrap (IntKind.i64.wrap (2 * (s.i : Int)) + 1))) ef
        have t2 : (IntKind.i64.wrap ((first : Int) + IntKind.i64.wrap (IntKind.i64.wrap (2 * (s.i : Int)) + 1))).toNat = first + (2 * s.i + 1) := by rw [ef]; rfl
        have n2 := gN (d := s.d) (i := first + (2 * s.i + 1)) (by omega) (e := (IntKind.i64.wrap ((first : Int) + IntKind.i64.wrap (IntKind.i64.wrap (2 * (s.i : Int)) + 1))).toNat) t2
        have gs := gS (d := s.d) (i := first + (2 * s.i + 1)) (k := first + s.i) (x := s.d[first + (2 * s.i + 1)]!) t1 (by omega) (e := IntKind.i64.wrap ((first : Int) + IntKind.i64.wrap (IntKind.i64.wrap (2 * (s.i : Int)) + 1))) ef
        have ns := nS (d := s.d) (i := first + (2 * s.i + 1)) (k := first + s.i) (x := s.d[first + (2 * s.i + 1)]!) t1 (by omega) (e := (IntKind.i64.wrap ((first : Int) + IntKind.i64.wrap (IntKind.i64.wrap (2 * (s.i : Int)) + 1))).toNat) t2
        conv => whnf
        iterate 8 (try (conv => arg 2; repeat (first | rw [g1] | rw [n1] | rw [g2] | rw [n2] | rw [gs] | rw [ns] | (whnf; arg 2))
                        conv => whnf))
        refine ⟨⟨2 * s.i + 1, 0, swp s.d (first + s.i) (first + (2 * s.i + 1)), _⟩, ⟨by dsimp only; omega, by rw [size_swp]; exact hsz, hE.cons.cons, hR⟩, by dsimp only; omega, heapQ (swpZ t1 t2 rfl rfl), ⟨rfl, rfl, rfl, avI ec, trivial⟩⟩
      · rw [h6] at hR
        simp only [Bool.not_false, if_true] at hR
        have hk := hK s.h hE
        rw [← hR] at hk
        exact hk
theorem heapBuild_size (hi first : Nat) : ∀ (k : Nat) (d : Array Int), (heapBuild ltInt hi first k d).size = d.size
  | 0, _ => rfl
  | k + 1, d => by rw [heapBuild, heapBuild_size hi first k, sift_size hi first _ _ _ (Nat.le_refl _)]
theorem InlS.cast {P : Program} {X : Ctx} {f : Nat} {xs : List AV} {h h' : Heap} {K : AV → Heap → Prop} (e : h = h') (hi : InlS P X f xs h' K) : InlS P X f xs h K := e ▸ hi
theorem build_go {hi first k : Nat} {d : Array Int} (h : 0 < k) : heapBuild ltInt hi first k d = heapBuild ltInt hi first (k - 1) (siftDown ltInt hi first (k - 1) d) := by
  obtain ⟨j, rfl⟩ : ∃ j, k = j + 1 := ⟨k - 1, by omega⟩
  rfl
theorem pop_go {first k : Nat} {d : Array Int} (h : 0 < k) : heapPop ltInt first k d = heapPop ltInt first (k - 1) (siftDown ltInt (k - 1) first 0 (swp d first (first + (k - 1)))) := by
  obtain ⟨j, rfl⟩ : ∃ j, k = j + 1 := ⟨k - 1, by omega⟩
  rfl
set_option maxHeartbeats 8000000 in
theorem f35_ok (h0 : Heap) (d : Array Int) (a b : Nat) {xa xb : Int} (ea : xa = (a : Int)) (eb : xb = (b : Int)) (hab : a < b) (hb : b ≤ d.size) (hs : d.size < 1000000) (K : AV → Heap → Prop)
    (hK : ∀ h1, Ext 208 h0 h1 → K (.tup []) ((208, qb (heapSort ltInt d a b)) :: h1)) :
    InlS Try.prog X 35 [.own 208, .p (.i .i64 xa), .p (.i .i64 xb)] ((208, qb d) :: h0) K := by
  subst ea eb
  refine InlS.intro (I := [ 44 ]) hX hm 1000 Try.func35 rfl rfl (by kernel_rfl) rfl ?_
  have e0 : IntKind.i64.wrap ((b : Int) - (a : Int)) = ((b - a : Nat) : Int) := by rw [wr_i64 (by omega) (by omega)]; omega
  conv => whnf
  refine LoopJ.introT (I := [ 44 ]) (base' := 1000) hX hm (by kernel_rfl) (σ := StQ) (fun s => [(0, .own 208), (6, .p (.i .i64 a)), (7, .p (.i .i64 0)), (8, .p (.i .i64 ((b - a : Nat) : Int))), (9, .p (.i .i64 ((s.i : Int) - 1)))]) (fun s => (208, qb s.d) :: s.h)
    (fun s => s.i ≤ (b - a - 1) / 2 + 1 ∧ s.d.size = d.size ∧ Ext 208 h0 s.h ∧ heapBuild ltInt (b - a) a s.i s.d = heapBuild ltInt (b - a) a ((b - a - 1) / 2 + 1) d) (fun s => s.i) ⟨(b - a - 1) / 2 + 1, 0, d, h0⟩
    ⟨Nat.le_refl _, rfl, Ext.refl _ _, rfl⟩ rfl ⟨rfl, rfl, rfl, avI e0, avI (by
      dsimp only
      rw [e0, wr_i64 (n := ((b - a : Nat) : Int) - 1) (by omega) (by omega), show (((b - a : Nat) : Int) - 1).tdiv 2 = (((b - a - 1) / 2 : Nat) : Int) from by rw [Int.tdiv_eq_ediv_of_nonneg (by omega)]; omega]
      first | omega | (rw [wr_i64 (by omega) (by omega)]; omega)), trivial⟩ ?_
  intro s ⟨hi1, hsz, hE, hR⟩
  conv => whnf
  refine iteC (fun h1 => ?_) (fun h1 => ?_)
  · have h2 := of_decide_eq_true h1
    have hk : 0 < s.i := by omega
    rw [build_go hk] at hR
    conv => whnf
    refine f44_ok s.h s.d (s.i - 1) (b - a) a (by omega) rfl rfl (by omega) (by omega) (by omega) _ (fun h2 e2 => ?_)
    conv => whnf
    refine ⟨⟨s.i - 1, 0, siftDown ltInt (b - a) a (s.i - 1) s.d, h2⟩, ⟨by dsimp only; omega, by dsimp only; rw [sift_size _ _ _ _ _ (Nat.le_refl _)]; exact hsz, hE.trans e2, hR⟩, by dsimp only; omega, rfl, ⟨rfl, rfl, rfl, rfl, avI (by dsimp only; rw [wr_i64 (by omega) (by omega)]; omega), trivial⟩⟩
  · have h2 := of_decide_eq_false h1
    have hk : s.i = 0 := by omega
    rw [hk] at hR
    have hR : s.d = heapBuild ltInt (b - a) a ((b - a - 1) / 2 + 1) d := hR
    conv => whnf
    refine LoopJ.introT (I := [ 44 ]) (base' := 1000) hX hm (by kernel_rfl) (σ := StQ) (fun u => [(0, .own 208), (6, .p (.i .i64 a)), (7, .p (.i .i64 0)), (8, .p (.i .i64 ((b - a : Nat) : Int))), (10, .p (.i .i64 ((u.i : Int) - 1)))]) (fun u => (208, qb u.d) :: u.h)
      (fun u => u.i ≤ b - a ∧ u.d.size = d.size ∧ Ext 208 h0 u.h ∧ heapPop ltInt a u.i u.d = heapSort ltInt d a b) (fun u => u.i) ⟨b - a, 0, s.d, s.h⟩
      ⟨Nat.le_refl _, hsz, hE, by dsimp only; rw [hR]; rfl⟩ rfl ⟨rfl, rfl, rfl, rfl, avI (by dsimp only; rw [wr_i64 (by omega) (by omega)]), trivial⟩ ?_
    intro u ⟨hu, huz, huE, huR⟩
    conv => whnf
    refine iteC (fun h3 => ?_) (fun h3 => ?_)
    · have h4 := of_decide_eq_true h3
      have hk2 : 0 < u.i := by omega
      rw [pop_go hk2] at huR
      have ep : IntKind.i64.wrap ((a : Int) + ((u.i : Int) - 1)) = ((a + (u.i - 1) : Nat) : Int) := by rw [wr_i64 (by omega) (by omega)]; omega
      have g1 := gQ (d := u.d) (i := a) (by omega) (e := (a : Int)) rfl
      have t1 : ((a : Int)).toNat = a := rfl
      have n1 := gN (d := u.d) (i := a) (by omega) (e := ((a : Int)).toNat) t1
      have g2 := gQ (d := u.d) (i := a + (u.i - 1)) (by omega) (e := IntKind.i64.wrap ((a : Int) + ((u.i : Int) - 1))) ep
      have t2 : (IntKind.i64.wrap ((a : Int) + ((u.i : Int) - 1))).toNat = a + (u.i - 1) := by rw [ep]; rfl
      have n2 := gN (d := u.d) (i := a + (u.i - 1)) (by omega) (e := (IntKind.i64.wrap ((a : Int) + ((u.i : Int) - 1))).toNat) t2
      have gs := gS (d := u.d) (i := a + (u.i - 1)) (k := a) (x := u.d[a + (u.i - 1)]!) t1 (by omega) (e := IntKind.i64.wrap ((a : Int) + ((u.i : Int) - 1))) ep
      have ns := nS (d := u.d) (i := a + (u.i - 1)) (k := a) (x := u.d[a + (u.i - 1)]!) t1 (by omega) (e := (IntKind.i64.wrap ((a : Int) + ((u.i : Int) - 1))).toNat) t2
      conv => whnf
      iterate 8 (try (conv => arg 2; repeat (first | rw [g1] | rw [n1] | rw [g2] | rw [n2] | rw [gs] | rw [ns] | (whnf; arg 2))
                      conv => whnf))
      refine InlS.cast (heapQ (swpZ t1 t2 rfl rfl)) ?_
      refine f44_ok _ (swp u.d a (a + (u.i - 1))) 0 (u.i - 1) a rfl (by omega) rfl (by rw [size_swp]; omega) (by rw [size_swp]; omega) (by omega) _ (fun h2 e2 => ?_)
      conv => whnf
      refine ⟨⟨u.i - 1, 0, siftDown ltInt (u.i - 1) a 0 (swp u.d a (a + (u.i - 1))), h2⟩, ⟨by dsimp only; omega, by dsimp only; rw [sift_size _ _ _ _ _ (Nat.le_refl _), size_swp]; exact huz, huE.cons.cons.trans e2, huR⟩, by dsimp only; omega, rfl, ⟨rfl, rfl, rfl, rfl, avI (by dsimp only; rw [wr_i64 (by omega) (by omega)]; omega), trivial⟩⟩
    · have h4 := of_decide_eq_false h3
      have hk2 : u.i = 0 := by omega
      rw [hk2] at huR
      have hk := hK u.h huE
      rw [← huR] at hk
      exact hk
end Go.Proofs.Ytgjebgplbkjkhaa.AM
