/- The library's sort: the partitions. -/
import Derived.Test.YtgjebgplbkjkhaaSrtD
namespace Go.Proofs.Ytgjebgplbkjkhaa.AM
open Go Go.Proofs Go.Sort
set_option maxRecDepth 100000

theorem scanUp_go {p : Int → Bool} {d : Array Int} {j i : Nat} (h : i ≤ j) (hp : p d[i]! = true) : scanUp p d j i = scanUp p d j (i + 1) := by rw [scanUp, if_pos (by simp [h, hp])]
theorem scanUp_stop {p : Int → Bool} {d : Array Int} {j i : Nat} (h : ¬ i ≤ j ∨ p d[i]! = false) : scanUp p d j i = i := by
  rw [scanUp, if_neg]
  intro hc
  rw [Bool.and_eq_true, decide_eq_true_eq] at hc
  rcases h with h | h
  · exact h hc.1
  · rw [h] at hc; exact Bool.false_ne_true hc.2
theorem scanDown_go {p : Int → Bool} {d : Array Int} {i j : Nat} (h : i ≤ j ∧ 1 ≤ j) (hp : p d[j]! = true) : scanDown p d i j = scanDown p d i (j - 1) := by
  obtain ⟨k, rfl⟩ : ∃ k, j = k + 1 := ⟨j - 1, by omega⟩
  rw [scanDown, if_pos (by simp [h.1, hp])]
  rfl
theorem scanDown_stop {p : Int → Bool} {d : Array Int} {i j : Nat} (h : ¬ i ≤ j ∨ p d[j]! = false) : scanDown p d i j = j := by
  cases j with
  | zero => rfl
  | succ j =>
    rw [scanDown, if_neg]
    intro hc
    rw [Bool.and_eq_true, decide_eq_true_eq] at hc
    rcases h with h | h
    · exact h hc.1
    · rw [h] at hc; exact Bool.false_ne_true hc.2
theorem KCast {K : AV → Heap → Prop} {r : AV} {h h' : Heap} (e : h = h') (hk : K r h') : K r h := e ▸ hk
theorem partition_eq {d : Array Int} {a b pivot i j : Nat} (hi : scanUp (fun x => ltInt x (swp d a pivot)[a]!) (swp d a pivot) (b - 1) (a + 1) = i) (hj : scanDown (fun x => !ltInt x (swp d a pivot)[a]!) (swp d a pivot) i (b - 1) = j) :
    partition ltInt d a b pivot = if i > j then (j, true, swp (swp d a pivot) j a) else ((partLoop ltInt a (i + 1) (j - 1) (swp (swp d a pivot) i j)).1, false, swp (partLoop ltInt a (i + 1) (j - 1) (swp (swp d a pivot) i j)).2 (partLoop ltInt a (i + 1) (j - 1) (swp (swp d a pivot) i j)).1 a) := by
  subst hi hj
  rfl
theorem partL_eq {d : Array Int} {a i j i2 j2 : Nat} (hi : scanUp (fun x => ltInt x d[a]!) d j i = i2) (hj : scanDown (fun x => !ltInt x d[a]!) d i2 j = j2) :
    partLoop ltInt a i j d = if i2 > j2 then (j2, d) else partLoop ltInt a (i2 + 1) (j2 - 1) (swp d i2 j2) := by
  subst hi hj
  exact partLoop_eq ltInt a i j d
theorem partE_eq {d : Array Int} {a i j i2 j2 : Nat} (hi : scanUp (fun x => !ltInt d[a]! x) d j i = i2) (hj : scanDown (fun x => ltInt d[a]! x) d i2 j = j2) :
    partEqLoop ltInt a i j d = if i2 > j2 then (i2, d) else partEqLoop ltInt a (i2 + 1) (j2 - 1) (swp d i2 j2) := by
  subst hi hj
  exact partEqLoop_eq ltInt a i j d
set_option maxHeartbeats 8000000 in
theorem f40_ok (h0 : Heap) (d : Array Int) (a b pivot : Nat) {xa xb xpivot : Int} (ea : xa = (a : Int)) (eb : xb = (b : Int)) (epivot : xpivot = (pivot : Int)) (hp : a ≤ pivot ∧ pivot < b) (hb : b ≤ d.size) (hs : d.size < 1000000) (K : AV → Heap → Prop)
    (hK : ∀ h1, Ext 208 h0 h1 → K (.p (.i .i64 ((partitionEqual ltInt d a b pivot).1 : Nat))) ((208, qb ((partitionEqual ltInt d a b pivot).2)) :: h1)) :
    InlS Try.prog X 40 [.own 208, .p (.i .i64 xa), .p (.i .i64 xb), .p (.i .i64 xpivot)] ((208, qb d) :: h0) K := by
  subst ea eb epivot
  refine InlS.intro (I := []) hX hm 1000 Try.func40 rfl rfl (by kernel_rfl) rfl ?_
  have g1 := gQ (d := d) (i := a) (by omega) (e := (a : Int)) rfl
  have t1 : ((a : Int)).toNat = a := rfl
  have n1 := gN (d := d) (i := a) (by omega) (e := ((a : Int)).toNat) t1
  have g2 := gQ (d := d) (i := pivot) (by omega) (e := (pivot : Int)) rfl
  have t2 : ((pivot : Int)).toNat = pivot := rfl
  have n2 := gN (d := d) (i := pivot) (by omega) (e := ((pivot : Int)).toNat) t2
  have gs := gS (d := d) (i := pivot) (k := a) (x := d[pivot]!) t1 (by omega) (e := (pivot : Int)) rfl
  have ns := nS (d := d) (i := pivot) (k := a) (x := d[pivot]!) t1 (by omega) (e := ((pivot : Int)).toNat) t2
  conv => whnf
  iterate 8 (try (conv => arg 2; repeat (first | rw [g1] | rw [n1] | rw [g2] | rw [n2] | rw [gs] | rw [ns] | (whnf; arg 2))
                  conv => whnf))
  obtain ⟨D, hD⟩ : ∃ D, D = swp d a pivot := ⟨_, rfl⟩
  have hDs : D.size = d.size := by rw [hD, size_swp]
  refine LoopJ.introX (I := []) (base' := 1000) hX hm (by kernel_rfl) 0 (σ := StQ) (fun s => [(0, .own 208), (1, .p (.i .i64 a)), (9, .p (.i .i64 s.i)), (10, .p (.i .i64 s.j))]) (fun s => (208, qb s.d) :: s.h)
    (fun s => a < s.i ∧ s.i ≤ s.j + 2 ∧ s.j < b ∧ s.d.size = d.size ∧ Ext 208 h0 s.h ∧ partEqLoop ltInt a s.i s.j s.d = partitionEqual ltInt d a b pivot) (fun s => Ext 208 h0 s.h ∧ (s.i, s.d) = partitionEqual ltInt d a b pivot) (fun s => s.j + 2 - s.i) ⟨a + 1, b - 1, D, _⟩
    ⟨by dsimp only; omega, by dsimp only; omega, by dsimp only; omega, hDs, (Ext.refl _ _).cons.cons, by rw [hD]; rfl⟩ ((heapQ (swpZ t1 t2 rfl rfl)).trans (by rw [hD])) ⟨rfl, rfl, avI (incI (by omega)), avI (decI (by omega) (by omega)), trivial⟩ ?_ ?_
  · intro s ⟨hi, hij, hj, hsz, hE, hR⟩
    conv => whnf
    refine LoopJ.introX (I := []) (base' := 1000) hX hm (by kernel_rfl) 2 (σ := Nat) (fun u => [(0, .own 208), (1, .p (.i .i64 ((a : Nat) : Int))), (9, .p (.i .i64 ((u : Nat) : Int))), (10, .p (.i .i64 ((s.j : Nat) : Int)))]) (fun u => (208, qb s.d) :: s.h)
      (fun u => s.i ≤ u ∧ (u ≤ s.i ∨ u ≤ s.j + 1) ∧ scanUp (fun x => !ltInt s.d[a]! x) s.d s.j u = scanUp (fun x => !ltInt s.d[a]! x) s.d s.j s.i) (fun u => s.i ≤ u ∧ (u ≤ s.i ∨ u ≤ s.j + 1) ∧ scanUp (fun x => !ltInt s.d[a]! x) s.d s.j s.i = u) (fun u => s.j + 1 - u) s.i
      ⟨Nat.le_refl _, .inl (Nat.le_refl _), rfl⟩ rfl ⟨rfl, rfl, rfl, rfl, trivial⟩ ?_ ?_
    · intro u ⟨w1, w2, w3⟩
      conv => whnf
      refine iteC (fun q0 => ?_) (fun q0 => ?_)
      · have q1 := of_decide_eq_true q0
        have q2 : u ≤ s.j := by omega
        have g1 := gQ (d := s.d) (i := u) (by omega) (e := (u : Int)) rfl
        have t1 : ((u : Int)).toNat = u := rfl
        have n1 := gN (d := s.d) (i := u) (by omega) (e := ((u : Int)).toNat) t1
        have g2 := gQ (d := s.d) (i := a) (by omega) (e := (a : Int)) rfl
        have t2 : ((a : Int)).toNat = a := rfl
        have n2 := gN (d := s.d) (i := a) (by omega) (e := ((a : Int)).toNat) t2
        have c1 := f28_ok s.d[a]! s.d[u]!
        conv => whnf
        iterate 4 (try (conv => arg 2; repeat (first | rw [g1] | rw [n1] | rw [g2] | rw [n2] | (whnf; arg 2))
                        conv => whnf))
        refine ⟨_, c1, ?_⟩
        conv => whnf
        refine iteC (fun q3 => ?_) (fun q3 => ?_)
        · rw [scanUp_stop (.inr (by show (!ltInt s.d[a]! s.d[u]!) = false; first | exact q3 | (rw [q3]; rfl)))] at w3
          conv => whnf
          exact ⟨u, ⟨w1, w2, w3.symm⟩, rfl, ⟨rfl, rfl, rfl, rfl, trivial⟩⟩
        · rw [scanUp_go (by omega) (by show (!ltInt s.d[a]! s.d[u]!) = true; first | exact q3 | (rw [q3]; rfl))] at w3
          conv => whnf
          exact ⟨u + 1, ⟨by omega, by omega, w3⟩, by dsimp only; omega, rfl, ⟨rfl, rfl, avI (incI (by omega)), rfl, trivial⟩⟩
      · have q1 := of_decide_eq_false q0
        rw [scanUp_stop (.inl (by omega))] at w3
        conv => whnf
        exact ⟨u, ⟨w1, w2, w3.symm⟩, rfl, ⟨rfl, rfl, rfl, rfl, trivial⟩⟩
    · intro u ⟨u1, u2, u3⟩
      conv => whnf
      refine LoopJ.introX (I := []) (base' := 1000) hX hm (by kernel_rfl) 4 (σ := Nat) (fun v => [(0, .own 208), (1, .p (.i .i64 ((a : Nat) : Int))), (9, .p (.i .i64 ((u : Nat) : Int))), (10, .p (.i .i64 ((v : Nat) : Int)))]) (fun v => (208, qb s.d) :: s.h)
        (fun v => v ≤ s.j ∧ (s.j ≤ v ∨ u ≤ v + 1) ∧ scanDown (fun x => ltInt s.d[a]! x) s.d u v = scanDown (fun x => ltInt s.d[a]! x) s.d u s.j) (fun v => v ≤ s.j ∧ (s.j ≤ v ∨ u ≤ v + 1) ∧ scanDown (fun x => ltInt s.d[a]! x) s.d u s.j = v) (fun v => v) s.j
        ⟨Nat.le_refl _, .inl (Nat.le_refl _), rfl⟩ rfl ⟨rfl, rfl, rfl, rfl, trivial⟩ ?_ ?_
      · intro v ⟨w1, w2, w3⟩
        conv => whnf
        refine iteC (fun q0 => ?_) (fun q0 => ?_)
        · have q1 := of_decide_eq_true q0
          have q2 : u ≤ v := by omega
          have g1 := gQ (d := s.d) (i := v) (by omega) (e := (v : Int)) rfl
          have t1 : ((v : Int)).toNat = v := rfl
          have n1 := gN (d := s.d) (i := v) (by omega) (e := ((v : Int)).toNat) t1
          have g2 := gQ (d := s.d) (i := a) (by omega) (e := (a : Int)) rfl
          have t2 : ((a : Int)).toNat = a := rfl
          have n2 := gN (d := s.d) (i := a) (by omega) (e := ((a : Int)).toNat) t2
          have c1 := f28_ok s.d[a]! s.d[v]!
          conv => whnf
          iterate 4 (try (conv => arg 2; repeat (first | rw [g1] | rw [n1] | rw [g2] | rw [n2] | (whnf; arg 2))
                          conv => whnf))
          refine ⟨_, c1, ?_⟩
          conv => whnf
          refine iteC (fun q3 => ?_) (fun q3 => ?_)
          · rw [scanDown_go (by omega) (by show (ltInt s.d[a]! s.d[v]!) = true; first | exact q3 | (rw [q3]; rfl))] at w3
            conv => whnf
            exact ⟨v - 1, ⟨by omega, by omega, w3⟩, by dsimp only; omega, rfl, ⟨rfl, rfl, rfl, avI (decI (by omega) (by omega)), trivial⟩⟩
          · rw [scanDown_stop (.inr (by show (ltInt s.d[a]! s.d[v]!) = false; first | exact q3 | (rw [q3]; rfl)))] at w3
            conv => whnf
            exact ⟨v, ⟨w1, w2, w3.symm⟩, rfl, ⟨rfl, rfl, rfl, rfl, trivial⟩⟩
        · have q1 := of_decide_eq_false q0
          rw [scanDown_stop (.inl (by omega))] at w3
          conv => whnf
          exact ⟨v, ⟨w1, w2, w3.symm⟩, rfl, ⟨rfl, rfl, rfl, rfl, trivial⟩⟩
      · intro v ⟨v1, v2, v3⟩
        rw [partE_eq u3 v3] at hR
        conv => whnf
        refine iteC (fun h1 => ?_) (fun h1 => ?_)
        · have h2 := of_decide_eq_true h1
          rw [if_pos (by omega)] at hR
          conv => whnf
          exact ⟨⟨u, v, s.d, s.h⟩, ⟨hE, hR⟩, rfl, ⟨rfl, rfl, rfl, rfl, trivial⟩⟩
        · have h2 := of_decide_eq_false h1
          rw [if_neg (by omega)] at hR
          have g1 := gQ (d := s.d) (i := u) (by omega) (e := (u : Int)) rfl
          have t1 : ((u : Int)).toNat = u := rfl
          have n1 := gN (d := s.d) (i := u) (by omega) (e := ((u : Int)).toNat) t1
          have g2 := gQ (d := s.d) (i := v) (by omega) (e := (v : Int)) rfl
          have t2 : ((v : Int)).toNat = v := rfl
          have n2 := gN (d := s.d) (i := v) (by omega) (e := ((v : Int)).toNat) t2
          have gs := gS (d := s.d) (i := v) (k := u) (x := s.d[v]!) t1 (by omega) (e := (v : Int)) rfl
          have ns := nS (d := s.d) (i := v) (k := u) (x := s.d[v]!) t1 (by omega) (e := ((v : Int)).toNat) t2
          conv => whnf
          iterate 8 (try (conv => arg 2; repeat (first | rw [g1] | rw [n1] | rw [g2] | rw [n2] | rw [gs] | rw [ns] | (whnf; arg 2))
                          conv => whnf))
          refine ⟨⟨u + 1, v - 1, swp s.d u v, _⟩, ⟨by dsimp only; omega, by dsimp only; omega, by dsimp only; omega, by rw [size_swp]; exact hsz, hE.cons.cons, hR⟩, by dsimp only; omega, heapQ (swpZ t1 t2 rfl rfl), ⟨rfl, rfl, avI (incI (by omega)), avI (decI (by omega) (by omega)), trivial⟩⟩
  · intro s ⟨hE, hR⟩
    have hk := hK s.h hE
    rw [← hR] at hk
    exact hk
set_option maxHeartbeats 16000000 in
theorem f41_ok (h0 : Heap) (d : Array Int) (a b pivot : Nat) {xa xb xpivot : Int} (ea : xa = (a : Int)) (eb : xb = (b : Int)) (epivot : xpivot = (pivot : Int)) (hp : a ≤ pivot ∧ pivot < b) (hb : b ≤ d.size) (hs : d.size < 1000000) (K : AV → Heap → Prop)
    (hK : ∀ h1, Ext 208 h0 h1 → K (.tup [.p (.i .i64 ((partition ltInt d a b pivot).1 : Nat)), .p (.b (partition ltInt d a b pivot).2.1)]) ((208, qb ((partition ltInt d a b pivot).2.2)) :: h1)) :
    InlS Try.prog X 41 [.own 208, .p (.i .i64 xa), .p (.i .i64 xb), .p (.i .i64 xpivot)] ((208, qb d) :: h0) K := by
  subst ea eb epivot
  refine InlS.intro (I := []) hX hm 1000 Try.func41 rfl rfl (by kernel_rfl) rfl ?_
  have g1 := gQ (d := d) (i := a) (by omega) (e := (a : Int)) rfl
  have t1 : ((a : Int)).toNat = a := rfl
  have n1 := gN (d := d) (i := a) (by omega) (e := ((a : Int)).toNat) t1
  have g2 := gQ (d := d) (i := pivot) (by omega) (e := (pivot : Int)) rfl
  have t2 : ((pivot : Int)).toNat = pivot := rfl
  have n2 := gN (d := d) (i := pivot) (by omega) (e := ((pivot : Int)).toNat) t2
  have gs := gS (d := d) (i := pivot) (k := a) (x := d[pivot]!) t1 (by omega) (e := (pivot : Int)) rfl
  have ns := nS (d := d) (i := pivot) (k := a) (x := d[pivot]!) t1 (by omega) (e := ((pivot : Int)).toNat) t2
  conv => whnf
  iterate 8 (try (conv => arg 2; repeat (first | rw [g1] | rw [n1] | rw [g2] | rw [n2] | rw [gs] | rw [ns] | (whnf; arg 2))
                  conv => whnf))
  obtain ⟨D, hD⟩ : ∃ D, D = swp d a pivot := ⟨_, rfl⟩
  have hDs : D.size = d.size := by rw [hD, size_swp]
  have hTE : Ext 208 h0 ((208, .els true qsh64 ((qv64 d.toList).set (a : Int).toNat (.i .u64 d[pivot]!))) :: (208, qb d) :: h0) := (Ext.refl _ _).cons.cons
  refine LoopJ.introX (I := []) (base' := 1000) hX hm (by kernel_rfl) 0 (σ := Nat) (fun u => [(0, .own 208), (1, .p (.i .i64 ((a : Nat) : Int))), (10, .p (.i .i64 ((u : Nat) : Int))), (11, .p (.i .i64 (((b - 1) : Nat) : Int)))]) (fun u => (208, qb D) :: (208, .els true qsh64 ((qv64 d.toList).set (a : Int).toNat (.i .u64 d[pivot]!))) :: (208, qb d) :: h0)
    (fun u => (a + 1) ≤ u ∧ (u ≤ (a + 1) ∨ u ≤ (b - 1) + 1) ∧ scanUp (fun x => ltInt x D[a]!) D (b - 1) u = scanUp (fun x => ltInt x D[a]!) D (b - 1) (a + 1)) (fun u => (a + 1) ≤ u ∧ (u ≤ (a + 1) ∨ u ≤ (b - 1) + 1) ∧ scanUp (fun x => ltInt x D[a]!) D (b - 1) (a + 1) = u) (fun u => (b - 1) + 1 - u) (a + 1)
    ⟨Nat.le_refl _, .inl (Nat.le_refl _), rfl⟩ ((heapQ (swpZ t1 t2 rfl rfl)).trans (by rw [hD])) ⟨rfl, rfl, avI (incI (by omega)), avI (decI (by omega) (by omega)), trivial⟩ ?_ ?_
  · intro u ⟨w1, w2, w3⟩
    conv => whnf
    refine iteC (fun q0 => ?_) (fun q0 => ?_)
    · have q1 := of_decide_eq_true q0
      have q2 : u ≤ (b - 1) := by omega
      have g1 := gQ (d := D) (i := u) (by omega) (e := (u : Int)) rfl
      have t1 : ((u : Int)).toNat = u := rfl
      have n1 := gN (d := D) (i := u) (by omega) (e := ((u : Int)).toNat) t1
      have g2 := gQ (d := D) (i := a) (by omega) (e := (a : Int)) rfl
      have t2 : ((a : Int)).toNat = a := rfl
      have n2 := gN (d := D) (i := a) (by omega) (e := ((a : Int)).toNat) t2
      have c1 := f28_ok D[u]! D[a]!
      conv => whnf
      iterate 4 (try (conv => arg 2; repeat (first | rw [g1] | rw [n1] | rw [g2] | rw [n2] | (whnf; arg 2))
                      conv => whnf))
      refine ⟨_, c1, ?_⟩
      conv => whnf
      refine iteC (fun q3 => ?_) (fun q3 => ?_)
      · rw [scanUp_go (by omega) (by show (ltInt D[u]! D[a]!) = true; first | exact q3 | (rw [q3]; rfl))] at w3
        conv => whnf
        exact ⟨u + 1, ⟨by omega, by omega, w3⟩, by dsimp only; omega, rfl, ⟨rfl, rfl, avI (incI (by omega)), rfl, trivial⟩⟩
      · rw [scanUp_stop (.inr (by show (ltInt D[u]! D[a]!) = false; first | exact q3 | (rw [q3]; rfl)))] at w3
        conv => whnf
        exact ⟨u, ⟨w1, w2, w3.symm⟩, rfl, ⟨rfl, rfl, rfl, rfl, trivial⟩⟩
    · have q1 := of_decide_eq_false q0
      rw [scanUp_stop (.inl (by omega))] at w3
      conv => whnf
      exact ⟨u, ⟨w1, w2, w3.symm⟩, rfl, ⟨rfl, rfl, rfl, rfl, trivial⟩⟩
  · intro u ⟨u1, u2, u3⟩
    conv => whnf
    refine LoopJ.introX (I := []) (base' := 1000) hX hm (by kernel_rfl) 2 (σ := Nat) (fun v => [(0, .own 208), (1, .p (.i .i64 ((a : Nat) : Int))), (10, .p (.i .i64 ((u : Nat) : Int))), (11, .p (.i .i64 ((v : Nat) : Int)))]) (fun v => (208, qb D) :: (208, .els true qsh64 ((qv64 d.toList).set (a : Int).toNat (.i .u64 d[pivot]!))) :: (208, qb d) :: h0)
      (fun v => v ≤ (b - 1) ∧ ((b - 1) ≤ v ∨ u ≤ v + 1) ∧ scanDown (fun x => !ltInt x D[a]!) D u v = scanDown (fun x => !ltInt x D[a]!) D u (b - 1)) (fun v => v ≤ (b - 1) ∧ ((b - 1) ≤ v ∨ u ≤ v + 1) ∧ scanDown (fun x => !ltInt x D[a]!) D u (b - 1) = v) (fun v => v) (b - 1)
      ⟨Nat.le_refl _, .inl (Nat.le_refl _), rfl⟩ rfl ⟨rfl, rfl, rfl, rfl, trivial⟩ ?_ ?_
    · intro v ⟨w1, w2, w3⟩
      conv => whnf
      refine iteC (fun q0 => ?_) (fun q0 => ?_)
      · have q1 := of_decide_eq_true q0
        have q2 : u ≤ v := by omega
        have g1 := gQ (d := D) (i := v) (by omega) (e := (v : Int)) rfl
        have t1 : ((v : Int)).toNat = v := rfl
        have n1 := gN (d := D) (i := v) (by omega) (e := ((v : Int)).toNat) t1
        have g2 := gQ (d := D) (i := a) (by omega) (e := (a : Int)) rfl
        have t2 : ((a : Int)).toNat = a := rfl
        have n2 := gN (d := D) (i := a) (by omega) (e := ((a : Int)).toNat) t2
        have c1 := f28_ok D[v]! D[a]!
        conv => whnf
        iterate 4 (try (conv => arg 2; repeat (first | rw [g1] | rw [n1] | rw [g2] | rw [n2] | (whnf; arg 2))
                        conv => whnf))
        refine ⟨_, c1, ?_⟩
        conv => whnf
        refine iteC (fun q3 => ?_) (fun q3 => ?_)
        · rw [scanDown_stop (.inr (by show (!ltInt D[v]! D[a]!) = false; first | exact q3 | (rw [q3]; rfl)))] at w3
          conv => whnf
          exact ⟨v, ⟨w1, w2, w3.symm⟩, rfl, ⟨rfl, rfl, rfl, rfl, trivial⟩⟩
        · rw [scanDown_go (by omega) (by show (!ltInt D[v]! D[a]!) = true; first | exact q3 | (rw [q3]; rfl))] at w3
          conv => whnf
          exact ⟨v - 1, ⟨by omega, by omega, w3⟩, by dsimp only; omega, rfl, ⟨rfl, rfl, rfl, avI (decI (by omega) (by omega)), trivial⟩⟩
      · have q1 := of_decide_eq_false q0
        rw [scanDown_stop (.inl (by omega))] at w3
        conv => whnf
        exact ⟨v, ⟨w1, w2, w3.symm⟩, rfl, ⟨rfl, rfl, rfl, rfl, trivial⟩⟩
    · intro v ⟨v1, v2, v3⟩
      have hP := partition_eq (d := d) (a := a) (b := b) (pivot := pivot) (i := u) (j := v) (by rw [← hD]; exact u3) (by rw [← hD]; exact v3)
      conv => whnf
      refine iteC (fun h1 => ?_) (fun h1 => ?_)
      · have h2 := of_decide_eq_true h1
        rw [if_pos (by omega)] at hP
        have g1 := gQ (d := D) (i := v) (by omega) (e := (v : Int)) rfl
        have t1 : ((v : Int)).toNat = v := rfl
        have n1 := gN (d := D) (i := v) (by omega) (e := ((v : Int)).toNat) t1
        have g2 := gQ (d := D) (i := a) (by omega) (e := (a : Int)) rfl
        have t2 : ((a : Int)).toNat = a := rfl
        have n2 := gN (d := D) (i := a) (by omega) (e := ((a : Int)).toNat) t2
        have gs := gS (d := D) (i := a) (k := v) (x := D[a]!) t1 (by omega) (e := (a : Int)) rfl
        have ns := nS (d := D) (i := a) (k := v) (x := D[a]!) t1 (by omega) (e := ((a : Int)).toNat) t2
        conv => whnf
        iterate 8 (try (conv => arg 2; repeat (first | rw [g1] | rw [n1] | rw [g2] | rw [n2] | rw [gs] | rw [ns] | (whnf; arg 2))
                        conv => whnf))
        refine KCast (heapQ (swpZ t1 t2 rfl rfl)) ?_
        rw [hP] at hK
        rw [hD]
        exact hK _ hTE.cons.cons
      · have h2 := of_decide_eq_false h1
        rw [if_neg (by omega)] at hP
        have g1 := gQ (d := D) (i := u) (by omega) (e := (u : Int)) rfl
        have t1 : ((u : Int)).toNat = u := rfl
        have n1 := gN (d := D) (i := u) (by omega) (e := ((u : Int)).toNat) t1
        have g2 := gQ (d := D) (i := v) (by omega) (e := (v : Int)) rfl
        have t2 : ((v : Int)).toNat = v := rfl
        have n2 := gN (d := D) (i := v) (by omega) (e := ((v : Int)).toNat) t2
        have gs := gS (d := D) (i := v) (k := u) (x := D[v]!) t1 (by omega) (e := (v : Int)) rfl
        have ns := nS (d := D) (i := v) (k := u) (x := D[v]!) t1 (by omega) (e := ((v : Int)).toNat) t2
        conv => whnf
        iterate 8 (try (conv => arg 2; repeat (first | rw [g1] | rw [n1] | rw [g2] | rw [n2] | rw [gs] | rw [ns] | (whnf; arg 2))
                        conv => whnf))
        obtain ⟨R, hRd⟩ : ∃ R, R = partLoop ltInt a (u + 1) (v - 1) (swp D u v) := ⟨_, rfl⟩
        rw [hD] at hRd
        rw [← hRd] at hP
        rw [← hD] at hRd
        refine LoopJ.introX (I := []) (base' := 1000) hX hm (by kernel_rfl) 4 (σ := StQ) (fun s => [(0, .own 208), (1, .p (.i .i64 a)), (10, .p (.i .i64 s.i)), (11, .p (.i .i64 s.j))]) (fun s => (208, qb s.d) :: s.h)
          (fun s => a < s.i ∧ s.i ≤ s.j + 2 ∧ s.j < b ∧ s.d.size = d.size ∧ Ext 208 h0 s.h ∧ partLoop ltInt a s.i s.j s.d = R) (fun s => a < s.i ∧ s.j < b ∧ s.d.size = d.size ∧ Ext 208 h0 s.h ∧ (s.j, s.d) = R) (fun s => s.j + 2 - s.i) ⟨u + 1, v - 1, swp D u v, _⟩
          ⟨by dsimp only; omega, by dsimp only; omega, by dsimp only; omega, by rw [size_swp]; exact hDs, hTE.cons.cons, hRd.symm⟩ (heapQ (swpZ t1 t2 rfl rfl)) ⟨rfl, rfl, avI (incI (by omega)), avI (decI (by omega) (by omega)), trivial⟩ ?_ ?_
        · intro s ⟨hi, hij, hj, hsz, hE, hR⟩
          conv => whnf
          refine LoopJ.introX (I := []) (base' := 1000) hX hm (by kernel_rfl) 6 (σ := Nat) (fun x => [(0, .own 208), (1, .p (.i .i64 ((a : Nat) : Int))), (10, .p (.i .i64 ((x : Nat) : Int))), (11, .p (.i .i64 ((s.j : Nat) : Int)))]) (fun x => (208, qb s.d) :: s.h)
            (fun x => s.i ≤ x ∧ (x ≤ s.i ∨ x ≤ s.j + 1) ∧ scanUp (fun x => ltInt x s.d[a]!) s.d s.j x = scanUp (fun x => ltInt x s.d[a]!) s.d s.j s.i) (fun x => s.i ≤ x ∧ (x ≤ s.i ∨ x ≤ s.j + 1) ∧ scanUp (fun x => ltInt x s.d[a]!) s.d s.j s.i = x) (fun x => s.j + 1 - x) s.i
            ⟨Nat.le_refl _, .inl (Nat.le_refl _), rfl⟩ rfl ⟨rfl, rfl, rfl, rfl, trivial⟩ ?_ ?_
          · intro x ⟨w1, w2, w3⟩
            conv => whnf
            refine iteC (fun q0 => ?_) (fun q0 => ?_)
            · have q1 := of_decide_eq_true q0
              have q2 : x ≤ s.j := by omega
              have g1 := gQ (d := s.d) (i := x) (by omega) (e := (x : Int)) rfl
              have t1 : ((x : Int)).toNat = x := rfl
              have n1 := gN (d := s.d) (i := x) (by omega) (e := ((x : Int)).toNat) t1
              have g2 := gQ (d := s.d) (i := a) (by omega) (e := (a : Int)) rfl
              have t2 : ((a : Int)).toNat = a := rfl
              have n2 := gN (d := s.d) (i := a) (by omega) (e := ((a : Int)).toNat) t2
              have c1 := f28_ok s.d[x]! s.d[a]!
              conv => whnf
              iterate 4 (try (conv => arg 2; repeat (first | rw [g1] | rw [n1] | rw [g2] | rw [n2] | (whnf; arg 2))
                              conv => whnf))
              refine ⟨_, c1, ?_⟩
              conv => whnf
              refine iteC (fun q3 => ?_) (fun q3 => ?_)
              · rw [scanUp_go (by omega) (by show (ltInt s.d[x]! s.d[a]!) = true; first | exact q3 | (rw [q3]; rfl))] at w3
                conv => whnf
                exact ⟨x + 1, ⟨by omega, by omega, w3⟩, by dsimp only; omega, rfl, ⟨rfl, rfl, avI (incI (by omega)), rfl, trivial⟩⟩
              · rw [scanUp_stop (.inr (by show (ltInt s.d[x]! s.d[a]!) = false; first | exact q3 | (rw [q3]; rfl)))] at w3
                conv => whnf
                exact ⟨x, ⟨w1, w2, w3.symm⟩, rfl, ⟨rfl, rfl, rfl, rfl, trivial⟩⟩
            · have q1 := of_decide_eq_false q0
              rw [scanUp_stop (.inl (by omega))] at w3
              conv => whnf
              exact ⟨x, ⟨w1, w2, w3.symm⟩, rfl, ⟨rfl, rfl, rfl, rfl, trivial⟩⟩
          · intro x ⟨x1, x2, x3⟩
            conv => whnf
            refine LoopJ.introX (I := []) (base' := 1000) hX hm (by kernel_rfl) 8 (σ := Nat) (fun y => [(0, .own 208), (1, .p (.i .i64 ((a : Nat) : Int))), (10, .p (.i .i64 ((x : Nat) : Int))), (11, .p (.i .i64 ((y : Nat) : Int)))]) (fun y => (208, qb s.d) :: s.h)
              (fun y => y ≤ s.j ∧ (s.j ≤ y ∨ x ≤ y + 1) ∧ scanDown (fun x => !ltInt x s.d[a]!) s.d x y = scanDown (fun x => !ltInt x s.d[a]!) s.d x s.j) (fun y => y ≤ s.j ∧ (s.j ≤ y ∨ x ≤ y + 1) ∧ scanDown (fun x => !ltInt x s.d[a]!) s.d x s.j = y) (fun y => y) s.j
              ⟨Nat.le_refl _, .inl (Nat.le_refl _), rfl⟩ rfl ⟨rfl, rfl, rfl, rfl, trivial⟩ ?_ ?_
            · intro y ⟨w1, w2, w3⟩
              conv => whnf
              refine iteC (fun q0 => ?_) (fun q0 => ?_)
              · have q1 := of_decide_eq_true q0
                have q2 : x ≤ y := by omega
                have g1 := gQ (d := s.d) (i := y) (by omega) (e := (y : Int)) rfl
                have t1 : ((y : Int)).toNat = y := rfl
                have n1 := gN (d := s.d) (i := y) (by omega) (e := ((y : Int)).toNat) t1
                have g2 := gQ (d := s.d) (i := a) (by omega) (e := (a : Int)) rfl
                have t2 : ((a : Int)).toNat = a := rfl
                have n2 := gN (d := s.d) (i := a) (by omega) (e := ((a : Int)).toNat) t2
                have c1 := f28_ok s.d[y]! s.d[a]!
                conv => whnf
                iterate 4 (try (conv => arg 2; repeat (first | rw [g1] | rw [n1] | rw [g2] | rw [n2] | (whnf; arg 2))
                                conv => whnf))
                refine ⟨_, c1, ?_⟩
                conv => whnf
                refine iteC (fun q3 => ?_) (fun q3 => ?_)
                · rw [scanDown_stop (.inr (by show (!ltInt s.d[y]! s.d[a]!) = false; first | exact q3 | (rw [q3]; rfl)))] at w3
                  conv => whnf
                  exact ⟨y, ⟨w1, w2, w3.symm⟩, rfl, ⟨rfl, rfl, rfl, rfl, trivial⟩⟩
                · rw [scanDown_go (by omega) (by show (!ltInt s.d[y]! s.d[a]!) = true; first | exact q3 | (rw [q3]; rfl))] at w3
                  conv => whnf
                  exact ⟨y - 1, ⟨by omega, by omega, w3⟩, by dsimp only; omega, rfl, ⟨rfl, rfl, rfl, avI (decI (by omega) (by omega)), trivial⟩⟩
              · have q1 := of_decide_eq_false q0
                rw [scanDown_stop (.inl (by omega))] at w3
                conv => whnf
                exact ⟨y, ⟨w1, w2, w3.symm⟩, rfl, ⟨rfl, rfl, rfl, rfl, trivial⟩⟩
            · intro y ⟨y1, y2, y3⟩
              rw [partL_eq x3 y3] at hR
              conv => whnf
              refine iteC (fun h1 => ?_) (fun h1 => ?_)
              · have h2 := of_decide_eq_true h1
                rw [if_pos (by omega)] at hR
                conv => whnf
                exact ⟨⟨x, y, s.d, s.h⟩, ⟨by dsimp only; omega, by dsimp only; omega, hsz, hE, hR⟩, rfl, ⟨rfl, rfl, rfl, rfl, trivial⟩⟩
              · have h2 := of_decide_eq_false h1
                rw [if_neg (by omega)] at hR
                have g1 := gQ (d := s.d) (i := x) (by omega) (e := (x : Int)) rfl
                have t1 : ((x : Int)).toNat = x := rfl
                have n1 := gN (d := s.d) (i := x) (by omega) (e := ((x : Int)).toNat) t1
                have g2 := gQ (d := s.d) (i := y) (by omega) (e := (y : Int)) rfl
                have t2 : ((y : Int)).toNat = y := rfl
                have n2 := gN (d := s.d) (i := y) (by omega) (e := ((y : Int)).toNat) t2
                have gs := gS (d := s.d) (i := y) (k := x) (x := s.d[y]!) t1 (by omega) (e := (y : Int)) rfl
                have ns := nS (d := s.d) (i := y) (k := x) (x := s.d[y]!) t1 (by omega) (e := ((y : Int)).toNat) t2
                conv => whnf
                iterate 8 (try (conv => arg 2; repeat (first | rw [g1] | rw [n1] | rw [g2] | rw [n2] | rw [gs] | rw [ns] | (whnf; arg 2))
                                conv => whnf))
                refine ⟨⟨x + 1, y - 1, swp s.d x y, _⟩, ⟨by dsimp only; omega, by dsimp only; omega, by dsimp only; omega, by rw [size_swp]; exact hsz, hE.cons.cons, hR⟩, by dsimp only; omega, heapQ (swpZ t1 t2 rfl rfl), ⟨rfl, rfl, avI (incI (by omega)), avI (decI (by omega) (by omega)), trivial⟩⟩
        · intro s ⟨hi, hj, hsz, hE, hR⟩
          conv => whnf
          have g1 := gQ (d := s.d) (i := s.j) (by omega) (e := (s.j : Int)) rfl
          have t1 : ((s.j : Int)).toNat = s.j := rfl
          have n1 := gN (d := s.d) (i := s.j) (by omega) (e := ((s.j : Int)).toNat) t1
          have g2 := gQ (d := s.d) (i := a) (by omega) (e := (a : Int)) rfl
          have t2 : ((a : Int)).toNat = a := rfl
          have n2 := gN (d := s.d) (i := a) (by omega) (e := ((a : Int)).toNat) t2
          have gs := gS (d := s.d) (i := a) (k := s.j) (x := s.d[a]!) t1 (by omega) (e := (a : Int)) rfl
          have ns := nS (d := s.d) (i := a) (k := s.j) (x := s.d[a]!) t1 (by omega) (e := ((a : Int)).toNat) t2
          iterate 8 (try (conv => arg 2; repeat (first | rw [g1] | rw [n1] | rw [g2] | rw [n2] | rw [gs] | rw [ns] | (whnf; arg 2))
                          conv => whnf))
          refine KCast (heapQ (swpZ t1 t2 rfl rfl)) ?_
          rw [← hR] at hP
          rw [hP] at hK
          exact hK _ hE.cons.cons
end Go.Proofs.Ytgjebgplbkjkhaa.AM
