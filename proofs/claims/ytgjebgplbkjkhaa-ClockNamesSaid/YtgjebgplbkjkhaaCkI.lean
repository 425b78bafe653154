/- ClockNever: what is clamped never goes back; the walk of the law. -/
import Derived.Test.YtgjebgplbkjkhaaCkH
namespace Go.Proofs.Ytgjebgplbkjkhaa.AM
open Go Go.Proofs Go.Sort
set_option maxRecDepth 100000

theorem top_mem : ∀ (l : List Int) (now : Int), top now l = now ∨ top now l ∈ l
  | [], _ => .inl rfl
  | a :: l, now => by
    have e : top now (a :: l) = top (mx now a) l := rfl
    rw [e]
    rcases top_mem l (mx now a) with h | h
    · rw [h]
      unfold mx
      split
      · exact .inr (by simp)
      · exact .inl rfl
    · exact .inr (by simp [h])
theorem clampL_get {now : Int} {l : List Int} : ∀ {n i : Nat} (h : i < (clampL now l n).length), (clampL now l n)[i] = top now (l.take (i + 1))
  | 0, i, h => by simp [clampL] at h
  | n + 1, i, h => by
    have h1 : i < n + 1 := by rw [clampL_len] at h; exact h
    have h2 := clampL_len now l n
    by_cases hi : i < n
    · simp only [clampL]
      rw [List.getElem_append_left (by omega), clampL_get]
    · obtain rfl : i = n := by omega
      simp only [clampL]
      rw [List.getElem_append_right (by omega)]
      simp [h2]
theorem top_le (now : Int) (l : List Int) (x : Int) : top now l ≤ mx (top now l) x ∧ x ≤ mx (top now l) x := by
  unfold mx
  split <;> omega
theorem clamp_rise (now : Int) (l : List Int) (n : Nat) (hn : n ≤ l.length) : riseB (now :: clampL now l n) = true := by
  rw [riseB_iff]
  intro i h
  have h2 := clampL_len now l n
  have hi : i < n := by simp at h; omega
  have e : (now :: clampL now l n)[i + 1]'h = top now (l.take (i + 1)) := clampL_get (n := n) (by omega)
  rw [e]
  cases i with
  | zero =>
    rw [top_take (by omega)]
    exact (top_le _ _ _).1
  | succ i =>
    have e2 : (now :: clampL now l n)[i + 1]'(by omega) = top now (l.take (i + 1)) := clampL_get (n := n) (by omega)
    rw [e2, top_take (i := i + 1) (by omega)]
    exact (top_le _ _ _).1
theorem backL_pre (now : Int) (l : List Int) : ∀ (n m : Nat), m ≤ n → ∃ t, backL now l n = backL now l m ++ t
  | 0, m, h => by
    obtain rfl : m = 0 := by omega
    exact ⟨[], (List.append_nil _).symm⟩
  | n + 1, m, h => by
    by_cases hm : m = n + 1
    · subst hm; exact ⟨[], by simp⟩
    · obtain ⟨t, ht⟩ := backL_pre now l n m (by omega)
      simp only [backL]
      split
      · exact ⟨t ++ [(n : Int)], by rw [ht, List.append_assoc]⟩
      · exact ⟨t, ht⟩
/-- At a reading that goes back, its index comes next. -/
theorem back_at {now : Int} {l : List Int} {i n : Nat} (hi : i < n) (hlt : i < l.length) (hb : l[i] < top now (l.take i)) :
    (backL now l (i + 1)).length = (backL now l i).length + 1 ∧ ∃ h : (backL now l i).length < (backL now l n).length, (backL now l n)[(backL now l i).length] = (i : Int) := by
  have e : backL now l (i + 1) = backL now l i ++ [(i : Int)] := by
    simp only [backL]
    rw [getD_lt hlt, decide_eq_true hb]
  obtain ⟨t, ht⟩ := backL_pre now l n (i + 1) (by omega)
  rw [e] at ht
  refine ⟨by rw [e]; simp, by rw [ht]; simp, ?_⟩
  simp only [ht]
  simp
theorem back_no {now : Int} {l : List Int} {i : Nat} (hlt : i < l.length) (hb : ¬ l[i] < top now (l.take i)) : backL now l (i + 1) = backL now l i := by
  simp only [backL]
  rw [getD_lt hlt, decide_eq_false hb]
theorem getY {l : List Int} {e : Int} {i : Nat} (he : e = i) (h : i < l.length) : getI (iv64 l) e = some (.i .i64 l[i]) := by
  subst he
  exact getM h
theorem nY {l : List Int} {e i : Nat} (he : e = i) (h : i < l.length) : (iv64 l)[e]? = some (.i .i64 l[i]) := by
  subst he
  rw [List.getElem?_map, List.getElem?_eq_getElem h]
  rfl
set_option maxHeartbeats 16000000 in
theorem f5_ok (now : Int) (l : List Int) : Fn Try.prog X.G 5 [.p (.i .u64 now), qs64 l] (.p (.b true)) := by
  refine Fn.intro (I := []) hX hm 0 Try.func5 rfl rfl (by kernel_rfl) rfl ?_
  have ca := f19_ok
  conv => whnf
  refine iteC (fun h0 => ?_) (fun h0 => ?_)
  · conv => whnf
    refine ⟨_, ca, ?_⟩
    conv => whnf
    refine iteT rfl ?_
    rfl
  have h0 := of_decide_eq_false h0
  rw [List.length_map] at h0
  have hl : l.length ≤ 40 := by omega
  have c1 := f16_ok now l (by omega)
  have c2 := f17_ok now l (by omega)
  rw [show clampR now l = clampL now l l.length from if_neg (by omega), show manyE l = 0 from if_neg (by omega)] at c1
  rw [show backR now l = backL now l l.length from if_neg (by omega), show manyE l = 0 from if_neg (by omega)] at c2
  have lA := clampL_len now l l.length
  have lB := backL_len now l l.length
  have c3 := f20_ok (now :: clampL now l l.length) (by simp; omega)
  rw [clamp_rise now l l.length (Nat.le_refl _)] at c3
  conv => whnf
  refine ⟨_, c1, ?_⟩
  conv => whnf
  refine ⟨_, c2, ?_⟩
  conv => whnf
  refine iteF rfl ?_
  conv => whnf
  refine iteF rfl ?_
  conv => whnf
  refine iteF (by rw [List.length_map, List.length_map, lA]; simp) ?_
  conv => whnf
  conv => arg 2; repeat (first | rw [capN _ (by simp; omega)] | (whnf; arg 2))
  conv => whnf
  refine ⟨_, c3, ?_⟩
  conv => whnf
  refine iteT rfl ?_
  conv => whnf
  refine LoopJ.intro (I := []) (base' := 5000) hX hm (by kernel_rfl) (σ := Nat) (fun i => [(0, .p (.i .u64 now)), (1, qs64 l), (5, .own 1000), (7, .own 1001), (9, .p (.i .i64 (((backL now l i).length : Nat) : Int))), (10, .p (.i .i64 i))])
    (fun _ => [(1000, .els true qsh64 (qv64 (clampL now l l.length))), (1001, .els true (.int .i64) (iv64 (backL now l l.length)))]) (fun i => i ≤ l.length) (fun i => l.length - i) 0 [(1000, 144), (1001, 192)]
    (Nat.zero_le _) ⟨nofun, rfl, ⟨rfl, rfl, rfl, rfl, rfl, rfl, rfl, rfl, rfl, rfl, rfl, rfl, trivial⟩, ⟨rfl, rfl, rfl, rfl, trivial⟩⟩ ?_
  intro i hi
  conv => whnf
  refine iteC (fun h1 => ?_) (fun h1 => ?_)
  · have h1 := of_decide_eq_true h1
    rw [List.length_map] at h1
    have hlt : i < l.length := by omega
    have lBi := backL_len now l i
    have gA := getZ (l := clampL now l l.length) (e := (i : Int)) rfl (by omega)
    have nA := nZ (l := clampL now l l.length) (e := (i : Int).toNat) (i := i) rfl (by omega)
    rw [clampL_get, top_take hlt] at gA nA
    have gl := getZ (l := l) (e := (i : Int)) rfl hlt
    have hT := top_le now (l.take i) l[i]
    have hmem := top_mem (l.take (i + 1)) now
    rw [top_take hlt] at hmem
    have c4 := f21_ok (l.take (i + 1)) (mx (top now (l.take i)) l[i]) (by rw [List.length_take]; omega)
    have hw : IntKind.i64.wrap ((i : Int) + 1) = ((i + 1 : Nat) : Int) := incI (by omega)
    have d1 : decide (0 ≤ IntKind.i64.wrap ((i : Int) + 1)) = true := decide_eq_true (by omega)
    have d2 : decide (IntKind.i64.wrap ((i : Int) + 1) ≤ ((qv64 l).length : Int)) = true := decide_eq_true (by rw [List.length_map]; omega)
    rw [show qs64 (l.take (i + 1)) = .ro qsh64 (((qv64 l).drop 0).take (IntKind.i64.wrap ((i : Int) + 1)).toNat) from by rw [hw, Int.toNat_natCast, List.drop_zero, ← List.map_take]] at c4
    conv => whnf
    iterate 3 (try (conv => arg 2; repeat (first | rw [gA] | rw [nA] | rw [gl] | (whnf; arg 2))
                    conv => whnf))
    refine iteF (decide_eq_false (by omega)) ?_
    conv => whnf
    iterate 2 (try (conv => arg 2; repeat (first | rw [gA] | rw [nA] | (whnf; arg 2))
                    conv => whnf))
    refine iteC (fun h2 => ?_) (fun h2 => ?_)
    · have h2 : ¬ mx (top now (l.take i)) l[i] = now := by simpa using h2
      rw [decide_eq_true (hmem.resolve_left h2)] at c4
      conv => whnf
      iterate 4 (try (conv => arg 2; repeat (first | rw [d1] | rw [d2] | rw [gA] | rw [nA] | (whnf; arg 2))
                      conv => whnf))
      refine ⟨_, c4, ?_⟩
      conv => whnf
      refine iteT rfl ?_
      conv => whnf
      iterate 3 (try (conv => arg 2; repeat (first | rw [gA] | rw [nA] | rw [gl] | (whnf; arg 2))
                      conv => whnf))
      refine iteC (fun h3 => ?_) (fun h3 => ?_)
      · have h3 : ¬ mx (top now (l.take i)) l[i] = l[i] := by simpa using h3
        have hb : l[i] < top now (l.take i) := by
          unfold mx at h3
          split at h3
          · exact absurd rfl h3
          · omega
        obtain ⟨b1, b2, b3⟩ := back_at (n := l.length) hlt hlt hb
        have gB := getY (l := backL now l l.length) (e := (((backL now l i).length : Nat) : Int)) rfl b2
        have nB := nY (l := backL now l l.length) (e := (((backL now l i).length : Nat) : Int).toNat) (i := (backL now l i).length) rfl b2
        rw [b3] at gB nB
        conv => whnf
        refine iteF (decide_eq_false (by rw [List.length_map]; omega)) ?_
        conv => whnf
        iterate 2 (try (conv => arg 2; repeat (first | rw [gB] | rw [nB] | (whnf; arg 2))
                        conv => whnf))
        refine iteF (by simp) ?_
        conv => whnf
        exact ⟨i + 1, [], by omega, by dsimp only; omega, nofun, rfl, ⟨rfl, rfl, rfl, rfl, rfl, rfl, rfl, rfl, (avI (incI (by omega))).trans (congrArg (fun n : Nat => AV.p (.i .i64 (n : Int))) b1.symm), rfl, incN (by omega), rfl, trivial⟩, ⟨rfl, rfl, rfl, rfl, trivial⟩⟩
      · have h3 : mx (top now (l.take i)) l[i] = l[i] := by simpa using h3
        have hb : ¬ l[i] < top now (l.take i) := by rw [← h3]; omega
        conv => whnf
        exact ⟨i + 1, [], by omega, by dsimp only; omega, nofun, rfl, ⟨rfl, rfl, rfl, rfl, rfl, rfl, rfl, rfl, congrArg (fun l : List Int => AV.p (.i .i64 ((l.length : Nat) : Int))) (back_no hlt hb).symm, rfl, incN (by omega), rfl, trivial⟩, ⟨rfl, rfl, rfl, rfl, trivial⟩⟩
    · conv => whnf
      iterate 3 (try (conv => arg 2; repeat (first | rw [gA] | rw [nA] | rw [gl] | (whnf; arg 2))
                      conv => whnf))
      refine iteC (fun h3 => ?_) (fun h3 => ?_)
      · have h3 : ¬ mx (top now (l.take i)) l[i] = l[i] := by simpa using h3
        have hb : l[i] < top now (l.take i) := by
          unfold mx at h3
          split at h3
          · exact absurd rfl h3
          · omega
        obtain ⟨b1, b2, b3⟩ := back_at (n := l.length) hlt hlt hb
        have gB := getY (l := backL now l l.length) (e := (((backL now l i).length : Nat) : Int)) rfl b2
        have nB := nY (l := backL now l l.length) (e := (((backL now l i).length : Nat) : Int).toNat) (i := (backL now l i).length) rfl b2
        rw [b3] at gB nB
        conv => whnf
        refine iteF (decide_eq_false (by rw [List.length_map]; omega)) ?_
        conv => whnf
        iterate 2 (try (conv => arg 2; repeat (first | rw [gB] | rw [nB] | (whnf; arg 2))
                        conv => whnf))
        refine iteF (by simp) ?_
        conv => whnf
        exact ⟨i + 1, [], by omega, by dsimp only; omega, nofun, rfl, ⟨rfl, rfl, rfl, rfl, rfl, rfl, rfl, rfl, (avI (incI (by omega))).trans (congrArg (fun n : Nat => AV.p (.i .i64 (n : Int))) b1.symm), rfl, incN (by omega), rfl, trivial⟩, ⟨rfl, rfl, rfl, rfl, trivial⟩⟩
      · have h3 : mx (top now (l.take i)) l[i] = l[i] := by simpa using h3
        have hb : ¬ l[i] < top now (l.take i) := by rw [← h3]; omega
        conv => whnf
        exact ⟨i + 1, [], by omega, by dsimp only; omega, nofun, rfl, ⟨rfl, rfl, rfl, rfl, rfl, rfl, rfl, rfl, congrArg (fun l : List Int => AV.p (.i .i64 ((l.length : Nat) : Int))) (back_no hlt hb).symm, rfl, incN (by omega), rfl, trivial⟩, ⟨rfl, rfl, rfl, rfl, trivial⟩⟩
  · have h1 := of_decide_eq_false h1
    rw [List.length_map] at h1
    obtain rfl : i = l.length := by omega
    conv => whnf
    refine iteT (by rw [List.length_map]; exact beq_self_eq_true _) ?_
    conv => whnf
    refine ⟨_, ca, ?_⟩
    conv => whnf
    refine iteT rfl ?_
    rfl
end Go.Proofs.Ytgjebgplbkjkhaa.AM
