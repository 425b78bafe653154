/- The chapter's examples; searching and counting in lists of ticks. -/
import Derived.Test.YtgjebgplbkjkhaaCkG
namespace Go.Proofs.Ytgjebgplbkjkhaa.AM
open Go Go.Proofs Go.Sort
set_option maxRecDepth 100000

theorem merge_ex : mergeR [1, 4] [2, 4] = [1, 2, 4, 4] ∧ mergeE [1, 4] [2, 4] = 0 := by
  obtain ⟨h1, h2⟩ := merge_good (a := [1, 4]) (b := [2, 4]) (by simp) ⟨rfl, rfl⟩
  exact ⟨h1.trans (rise_uniq ((srt_perm _).trans (by decide)) (srt_rise _) rfl), h2⟩
set_option maxHeartbeats 8000000 in
theorem f19_ok : Fn Try.prog X.G 19 [] (.p (.b true)) := by
  refine Fn.intro (I := []) hX hm 0 Try.func19 rfl rfl (by kernel_rfl) rfl ?_
  have c1 := f16_ok 5 [3, 7, 6, 9] (by decide)
  have c2 := f17_ok 5 [3, 7, 6, 9] (by decide)
  have c3 := f9_ok 7 9 (by unfold tick; decide) (by unfold tick; decide)
  have c4 := f11_ok 18446744073709551615 1 (by unfold tick; decide) (by unfold tick; decide)
  have c5 := f13_ok [1, 4] [2, 4] (by decide) (by decide)
  have c6 := f15_ok [5, 7, 7, 9] [5, 7, 7, 9] (by decide)
  have c7 := f27_ok [0, 2] [0, 2] (by decide)
  have c8 := f15_ok [1, 2, 4, 4] [1, 2, 4, 4] (by decide)
  rw [decide_eq_true rfl] at c6 c7 c8
  rw [merge_ex.1, merge_ex.2] at c5
  rw [show clampR 5 [3, 7, 6, 9] = [5, 7, 7, 9] from by decide, show manyE [3, 7, 6, 9] = 0 from by decide] at c1
  rw [show backR 5 [3, 7, 6, 9] = [0, 2] from by decide, show manyE [3, 7, 6, 9] = 0 from by decide] at c2
  rw [show sinceV 7 9 = 2 from by decide, show sinceE 7 9 = 0 from by decide] at c3
  rw [show afterV 18446744073709551615 1 = 0 from by decide, show afterE 18446744073709551615 1 = 16 from by decide] at c4
  conv => whnf
  refine ⟨_, c1, ?_⟩
  conv => whnf
  refine ⟨_, c2, ?_⟩
  conv => whnf
  refine ⟨_, c3, ?_⟩
  conv => whnf
  refine ⟨_, c4, ?_⟩
  conv => whnf
  refine ⟨_, c5, ?_⟩
  repeat' (conv => whnf
           first
            | refine ⟨_, c6, ?_⟩
            | refine ⟨_, c7, ?_⟩
            | refine ⟨_, c8, ?_⟩
            | refine iteT (beq_self_eq_true _) ?_
            | refine iteT rfl ?_)
  all_goals rfl
theorem f21_ok (l : List Int) (t : Int) (hl : l.length < 1000000) : Fn Try.prog X.G 21 [qs64 l, .p (.i .u64 t)] (.p (.b (decide (t ∈ l)))) := by
  refine Fn.intro (I := []) hX hm 0 Try.func21 rfl rfl (by kernel_rfl) rfl ?_
  conv => whnf
  refine LoopJ.intro (I := []) (base' := 0) hX hm (by kernel_rfl) (σ := Nat) (fun i => [(0, qs64 l), (1, .p (.i .u64 t)), (5, .p (.i .i64 i))]) (fun _ => []) (fun i => i ≤ l.length ∧ ∀ j (h : j < l.length), j < i → l[j] ≠ t) (fun i => l.length - i) 0 []
    ⟨Nat.zero_le _, fun j _ h => by omega⟩ ⟨nofun, rfl, ⟨rfl, rfl, rfl, rfl, rfl, rfl, trivial⟩, trivial⟩ ?_
  intro i ⟨hi, hI⟩
  conv => whnf
  refine iteC (fun h1 => ?_) (fun h1 => ?_)
  · have h1 := of_decide_eq_true h1
    rw [List.length_map] at h1
    have hlt : i < l.length := by omega
    have hg := getZ (l := l) (e := (i : Int)) rfl hlt
    conv => whnf
    iterate 1 (try (conv => arg 2; repeat (first | rw [hg] | (whnf; arg 2))
                    conv => whnf))
    refine iteC (fun h2 => ?_) (fun h2 => ?_)
    · have h2 : l[i] = t := by simpa using h2
      rw [decide_eq_true (show t ∈ l from h2 ▸ List.getElem_mem hlt)]
      rfl
    · have h2 : ¬ l[i] = t := by simpa using h2
      conv => whnf
      refine ⟨i + 1, [], ⟨by omega, fun j hj h3 => ?_⟩, by dsimp only; omega, nofun, rfl, ⟨rfl, rfl, rfl, rfl, incN (by omega), rfl, trivial⟩, trivial⟩
      by_cases hji : j < i
      · exact hI j hj hji
      · obtain rfl : j = i := by omega
        exact h2
  · have h1 := of_decide_eq_false h1
    rw [List.length_map] at h1
    rw [decide_eq_false (show ¬ t ∈ l from fun hm => by
      obtain ⟨j, hj, e⟩ := List.getElem_of_mem hm
      exact hI j hj (by omega) e)]
    rfl
theorem count_step {l : List Int} {t : Int} {i : Nat} (h : i < l.length) : (l.take (i + 1)).count t = (l.take i).count t + if l[i] = t then 1 else 0 := by
  rw [List.take_add_one, List.getElem?_eq_getElem h, List.count_append]
  simp [List.count_cons]
theorem f22_ok (l : List Int) (t : Int) (hl : l.length < 1000000) : Fn Try.prog X.G 22 [qs64 l, .p (.i .u64 t)] (.p (.i .i64 ((l.count t : Nat) : Int))) := by
  refine Fn.intro (I := []) hX hm 0 Try.func22 rfl rfl (by kernel_rfl) rfl ?_
  conv => whnf
  refine LoopJ.intro (I := []) (base' := 0) hX hm (by kernel_rfl) (σ := Nat) (fun i => [(0, qs64 l), (1, .p (.i .u64 t)), (5, .p (.i .i64 (((l.take i).count t : Nat) : Int))), (6, .p (.i .i64 i))]) (fun _ => []) (fun i => i ≤ l.length) (fun i => l.length - i) 0 []
    (Nat.zero_le _) ⟨nofun, rfl, ⟨rfl, rfl, rfl, rfl, rfl, rfl, rfl, rfl, trivial⟩, trivial⟩ ?_
  intro i hi
  conv => whnf
  refine iteC (fun h1 => ?_) (fun h1 => ?_)
  · have h1 := of_decide_eq_true h1
    rw [List.length_map] at h1
    have hlt : i < l.length := by omega
    have hg := getZ (l := l) (e := (i : Int)) rfl hlt
    have hs := count_step (t := t) hlt
    have hc : (l.take i).count t ≤ l.length := Nat.le_trans List.count_le_length (by simp; omega)
    conv => whnf
    iterate 1 (try (conv => arg 2; repeat (first | rw [hg] | (whnf; arg 2))
                    conv => whnf))
    refine iteC (fun h2 => ?_) (fun h2 => ?_)
    · have h2 : l[i] = t := by simpa using h2
      rw [if_pos h2] at hs
      conv => whnf
      exact ⟨i + 1, [], by omega, by dsimp only; omega, nofun, rfl, ⟨rfl, rfl, rfl, rfl, (avI (incI (by omega))).trans (congrArg (fun n : Nat => AV.p (.i .i64 (n : Int))) hs.symm), rfl, incN (by omega), rfl, trivial⟩, trivial⟩
    · have h2 : ¬ l[i] = t := by simpa using h2
      rw [if_neg h2] at hs
      conv => whnf
      exact ⟨i + 1, [], by omega, by dsimp only; omega, nofun, rfl, ⟨rfl, rfl, rfl, rfl, congrArg (fun n : Nat => AV.p (.i .i64 (n : Int))) hs.symm, rfl, incN (by omega), rfl, trivial⟩, trivial⟩
  · have h1 := of_decide_eq_false h1
    rw [List.length_map] at h1
    rw [show l.count t = (l.take i).count t from by rw [List.take_of_length_le (by omega)]]
    rfl
end Go.Proofs.Ytgjebgplbkjkhaa.AM
