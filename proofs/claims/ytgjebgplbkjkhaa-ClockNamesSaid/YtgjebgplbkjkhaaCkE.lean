/- Merged ticks: the program. -/
import Derived.Test.YtgjebgplbkjkhaaCkD
namespace Go.Proofs.Ytgjebgplbkjkhaa.AM
open Go Go.Proofs Go.Sort
set_option maxRecDepth 100000

/-- The sorted list. -/
def srt (l : List Int) : List Int := (Sort.sort ltInt l.toArray).toList
theorem srt_eq (l : List Int) : srt l = l.mergeSort (fun x y => decide (x ≤ y)) := sortInt l
theorem srt_perm (l : List Int) : (srt l).Perm l := by rw [srt_eq]; exact List.mergeSort_perm l _
theorem srt_len (l : List Int) : (srt l).length = l.length := (srt_perm l).length_eq
theorem riseB_pair {l : List Int} : riseB l = true ↔ l.Pairwise (fun x y => x ≤ y) := by
  induction l with
  | nil => simp [riseB]
  | cons a l ih =>
    cases l with
    | nil => simp [riseB]
    | cons b r =>
      rw [riseB, Bool.and_eq_true, decide_eq_true_eq, ih]
      constructor
      · rintro ⟨h1, h2⟩
        refine List.pairwise_cons.2 ⟨fun x hx => ?_, h2⟩
        rcases List.mem_cons.1 hx with rfl | hx
        · exact h1
        · exact Int.le_trans h1 ((List.pairwise_cons.1 h2).1 x hx)
      · intro h
        exact ⟨(List.pairwise_cons.1 h).1 b (by simp), (List.pairwise_cons.1 h).2⟩
theorem srt_rise (l : List Int) : riseB (srt l) = true := by
  rw [riseB_pair, srt_eq]
  have h := List.pairwise_mergeSort (le := fun (x y : Int) => decide (x ≤ y)) (fun a b c h1 h2 => by simp at *; omega) (fun a b => by simp; omega) l
  exact h.imp fun h => by simpa using h
theorem rise_uniq {l m : List Int} (hp : l.Perm m) (hl : riseB l = true) (hm : riseB m = true) : l = m :=
  List.Perm.eq_of_pairwise (le := fun x y => x ≤ y) (fun a b _ _ h1 h2 => by omega) (riseB_pair.1 hl) (riseB_pair.1 hm) hp
def mergeR (a b : List Int) : List Int := if 200 < a.length ∨ 200 < b.length then [] else if riseB a = true ∧ riseB b = true then srt (a ++ b) else []
def mergeE (a b : List Int) : Int := if 200 < a.length ∨ 200 < b.length then 4 else if riseB a = true ∧ riseB b = true then 0 else 32
theorem Clo_one {i : Nat} {b : Blk} (hb : b.refs = []) : Clo [(i, b)] := fun j x hx k hk => by
  rw [find_cons] at hx
  by_cases hj : j = i
  · subst hj
    rw [upd_same] at hx
    cases hx
    rw [hb] at hk
    cases hk
  · rw [upd_ne _ _ hj] at hx
    cases hx
theorem InlS.castH {P : Program} {X : Ctx} {f : Nat} {xs : List AV} {l : List PV} {d : Array Int} {T : Heap} {K : AV → Heap → Prop} (e : l = qv64 d.toList) (hi : InlS P X f xs ((208, qb d) :: T) K) : InlS P X f xs ((208, .els true qsh64 l) :: T) K := by
  subst e
  exact hi
theorem merge_many {a b : List Int} (h : 200 < a.length ∨ 200 < b.length) : mergeR a b = [] ∧ mergeE a b = 4 := ⟨if_pos h, if_pos h⟩
theorem merge_good {a b : List Int} (h : ¬ (200 < a.length ∨ 200 < b.length)) (h2 : riseB a = true ∧ riseB b = true) : mergeR a b = srt (a ++ b) ∧ mergeE a b = 0 := by
  unfold mergeR mergeE
  rw [if_neg h, if_neg h, if_pos h2, if_pos h2]
  exact ⟨rfl, rfl⟩
theorem merge_bad {a b : List Int} (h : ¬ (200 < a.length ∨ 200 < b.length)) (h2 : ¬ (riseB a = true ∧ riseB b = true)) : mergeR a b = [] ∧ mergeE a b = 32 := by
  unfold mergeR mergeE
  rw [if_neg h, if_neg h, if_neg h2, if_neg h2]
  exact ⟨rfl, rfl⟩
set_option maxHeartbeats 8000000 in
theorem f13_ok (a b : List Int) (ha : a.length < 1000000) (hb : b.length < 1000000) : Fn Try.prog X.G 13 [qs64 a, qs64 b] (.tup [qs64 (mergeR a b), .p (.i .i64 (mergeE a b))]) := by
  refine Fn.intro (I := [ 25 ]) hX hm 0 Try.func13 rfl rfl (by kernel_rfl) rfl ?_
  have cA := f23_ok a ha
  have cB := f23_ok b hb
  conv => whnf
  refine iteC (fun h1 => ?_) (fun h1 => ?_)
  · have h1 := of_decide_eq_true h1
    rw [List.length_map] at h1
    obtain ⟨e1, e2⟩ := merge_many (a := a) (b := b) (.inl (by omega))
    rw [e1, e2]
    rfl
  have h1 := of_decide_eq_false h1
  rw [List.length_map] at h1
  conv => whnf
  refine iteC (fun h2 => ?_) (fun h2 => ?_)
  · have h2 := of_decide_eq_true h2
    rw [List.length_map] at h2
    obtain ⟨e1, e2⟩ := merge_many (a := a) (b := b) (.inr (by omega))
    rw [e1, e2]
    rfl
  have h2 := of_decide_eq_false h2
  rw [List.length_map] at h2
  have hm2 : ¬ (200 < a.length ∨ 200 < b.length) := by omega
  have cC := f24_ok a b (by omega) (by omega)
  conv => whnf
  refine ⟨_, cA, ?_⟩
  conv => whnf
  refine iteC (fun h3 => ?_) (fun h3 => ?_)
  · conv => whnf
    refine ⟨_, cB, ?_⟩
    conv => whnf
    refine iteC (fun h4 => ?_) (fun h4 => ?_)
    · obtain ⟨e1, e2⟩ := merge_good hm2 ⟨h3, h4⟩
      conv => whnf
      refine ⟨_, cC, ?_⟩
      conv => whnf
      refine InlS.castH (d := (a ++ b).toArray) (by simp) ?_
      refine f25_ok _ (Clo_one rfl) rfl _ (by simp; omega) _ ?_
      conv => whnf
      rw [e1, e2]
      rfl
    · obtain ⟨e1, e2⟩ := merge_bad hm2 (by rw [h4]; simp)
      conv => whnf
      rw [e1, e2]
      rfl
  · obtain ⟨e1, e2⟩ := merge_bad hm2 (by rw [h3]; simp)
    conv => whnf
    rw [e1, e2]
    rfl
end Go.Proofs.Ytgjebgplbkjkhaa.AM
