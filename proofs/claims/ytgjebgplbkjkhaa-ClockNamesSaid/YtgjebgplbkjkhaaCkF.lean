/- Merged ticks: the reference; differences. -/
import Derived.Test.YtgjebgplbkjkhaaCkE
namespace Go.Proofs.Ytgjebgplbkjkhaa.AM
open Go Go.Proofs Go.Sort
set_option maxRecDepth 100000

/-- A list with one more, while it is put in its place. -/
def shf (l : List Int) (x : Int) (p : Nat) : List Int := (List.range (l.length + 1)).map fun j => if j ≤ p then (l ++ [x]).getD j 0 else l.getD (j - 1) 0
theorem shf_len (l : List Int) (x : Int) (p : Nat) : (shf l x p).length = l.length + 1 := by simp [shf]
theorem shf_get {l : List Int} {x : Int} {p j : Nat} (h : j < (shf l x p).length) : (shf l x p)[j] = if j ≤ p then (l ++ [x]).getD j 0 else l.getD (j - 1) 0 := by simp [shf]
theorem getD_lt {l : List Int} {j : Nat} (h : j < l.length) : l.getD j 0 = l[j] := by rw [List.getD_eq_getElem?_getD, List.getElem?_eq_getElem h]; rfl
theorem shf_all (l : List Int) (x : Int) : shf l x l.length = l ++ [x] := by
  refine List.ext_getElem (by rw [shf_len]; simp) fun j h1 h2 => ?_
  rw [shf_get h1, if_pos (by rw [shf_len] at h1; omega), getD_lt h2]
theorem shf_step {l : List Int} {x : Int} {p : Nat} (h1 : 1 ≤ p) (h2 : p ≤ l.length) : (shf l x p).set p (l.getD (p - 1) 0) = shf l x (p - 1) := by
  refine List.ext_getElem (by rw [List.length_set, shf_len, shf_len]) fun j h3 h4 => ?_
  rw [shf_get h4, List.getElem_set]
  split
  · subst_vars
    rw [if_neg (by omega)]
  · rename_i hne
    rw [shf_get (by rw [List.length_set] at h3; exact h3)]
    by_cases hj : j ≤ p
    · rw [if_pos hj, if_pos (by omega)]
    · rw [if_neg hj, if_neg (by omega)]
theorem shf_fin {l : List Int} {x : Int} {p : Nat} (h2 : p ≤ l.length) : (shf l x p).set p x = l.take p ++ x :: l.drop p := by
  refine List.ext_getElem (by rw [List.length_set, shf_len]; simp; omega) fun j h3 h4 => ?_
  rw [List.getElem_set]
  split
  · subst_vars
    rw [List.getElem_append_right (by simp; omega)]
    simp [Nat.min_eq_left h2]
  · rename_i hne
    have h5 : j < l.length + 1 := by rw [List.length_set, shf_len] at h3; exact h3
    rw [shf_get (by rw [shf_len]; exact h5)]
    by_cases hj : j ≤ p
    · rw [if_pos hj, List.getElem_append_left (by simp; omega), List.getElem_take]
      rw [getD_lt (by simp; omega), List.getElem_append_left (by omega)]
    · rw [if_neg hj, List.getElem_append_right (by simp; omega), getD_lt (by omega)]
      obtain ⟨k, hk⟩ : ∃ k, j - (l.take p).length = k + 1 := ⟨j - p - 1, by simp; omega⟩
      simp only [hk, List.getElem_cons_succ, List.getElem_drop]
      congr 1
      simp at hk
      omega
theorem put_perm (l : List Int) (x : Int) (p : Nat) : (l.take p ++ x :: l.drop p).Perm (l ++ [x]) := by
  refine List.perm_middle.trans ?_
  rw [List.take_append_drop]
  exact (List.perm_append_singleton x l).symm
theorem put_rise {l : List Int} {x : Int} {p : Nat} (hr : riseB l = true) (h2 : p ≤ l.length) (hlo : p = 0 ∨ l.getD (p - 1) 0 ≤ x) (hhi : ∀ j, p ≤ j → j < l.length → x < l.getD j 0) : riseB (l.take p ++ x :: l.drop p) = true := by
  rw [riseB_pair] at hr ⊢
  have hx : ∀ v ∈ l.drop p, x ≤ v := fun v hv => by
    obtain ⟨j, hj, rfl⟩ := List.getElem_of_mem hv
    have hj' : j < l.length - p := by simpa using hj
    have h3 := hhi (p + j) (by omega) (by omega)
    rw [getD_lt (by omega)] at h3
    rw [List.getElem_drop]
    omega
  have hu : ∀ u ∈ l.take p, u ≤ x := fun u hu => by
    obtain ⟨j, hj, rfl⟩ := List.getElem_of_mem hu
    have hj' : j < p := by simp at hj; omega
    rw [List.getElem_take]
    rcases hlo with h0 | h0
    · omega
    rw [getD_lt (by omega)] at h0
    by_cases he : j = p - 1
    · subst he; exact h0
    · have := (List.pairwise_iff_getElem.1 hr) j (p - 1) (by omega) (by omega) (by omega)
      omega
  refine List.pairwise_append.2 ⟨hr.sublist (List.take_sublist _ _), List.pairwise_cons.2 ⟨hx, hr.sublist (List.drop_sublist _ _)⟩, fun u h3 v h4 => ?_⟩
  rcases List.mem_cons.1 h4 with rfl | h4
  · exact hu u h3
  · exact Int.le_trans (hu u h3) (hx v h4)
structure StM where
  i : Nat
  l : List Int
theorem setZ (l : List Int) (i : Nat) (x : Int) : (qv64 l).set i (.i .u64 x) = qv64 (l.set i x) := List.map_set.symm
theorem nZ {l : List Int} {e i : Nat} (he : e = i) (h : i < l.length) : (qv64 l)[e]? = some (.i .u64 l[i]) := by
  subst he
  rw [List.getElem?_map, List.getElem?_eq_getElem h]
  rfl
set_option maxHeartbeats 16000000 in
theorem f14_ok (a b : List Int) (ha : a.length < 1000000) (hb : b.length < 1000000) : Fn Try.prog X.G 14 [qs64 a, qs64 b] (.tup [qs64 (mergeR a b), .p (.i .i64 (mergeE a b))]) := by
  refine Fn.intro (I := []) hX hm 0 Try.func14 rfl rfl (by kernel_rfl) rfl ?_
  have cA := f20_ok a ha
  have cB := f20_ok b hb
  conv => whnf
  refine iteC (fun h1 => ?_) (fun h1 => ?_)
  · have h1 := of_decide_eq_true h1
    rw [List.length_map] at h1
    obtain ⟨e1, e2⟩ := merge_many (a := a) (b := b) (.inl (by omega))
    rw [e1, e2]
    rfl
  have h1 := of_decide_eq_false h1
  rw [List.length_map] at h1
  conv => whnf
  refine iteC (fun h2 => ?_) (fun h2 => ?_)
  · have h2 := of_decide_eq_true h2
    rw [List.length_map] at h2
    obtain ⟨e1, e2⟩ := merge_many (a := a) (b := b) (.inr (by omega))
    rw [e1, e2]
    rfl
  have h2 := of_decide_eq_false h2
  rw [List.length_map] at h2
  have hm2 : ¬ (200 < a.length ∨ 200 < b.length) := by omega
  conv => whnf
  refine ⟨_, cA, ?_⟩
  conv => whnf
  refine iteC (fun h3 => ?_) (fun h3 => ?_)
  · conv => whnf
    refine ⟨_, cB, ?_⟩
    conv => whnf
    refine iteC (fun h4 => ?_) (fun h4 => ?_)
    · obtain ⟨e1, e2⟩ := merge_good hm2 ⟨h3, h4⟩
      rw [e1, e2]
      conv => whnf
      conv => arg 2; repeat (first | rw [capN _ (by simp; omega)] | (whnf; arg 2))
      conv => whnf
      refine LoopJ.intro (I := []) (base' := 2000) hX hm (by kernel_rfl) (σ := StM) (fun s => [(0, qs64 a), (1, qs64 b), (6, .own 1000), (7, .p (.i .i64 s.i))]) (fun s => [(1000, .els true qsh64 (qv64 s.l))])
        (fun s => s.i ≤ b.length ∧ riseB s.l = true ∧ s.l.Perm (a ++ b.take s.i)) (fun s => b.length - s.i) ⟨0, a⟩ [(1000, 216)] ⟨Nat.zero_le _, h3, by simp⟩ ⟨nofun, rfl, ⟨rfl, rfl, rfl, rfl, rfl, rfl, rfl, rfl, trivial⟩, ⟨rfl, rfl, trivial⟩⟩ ?_
      intro s ⟨hi, hr, hp⟩
      conv => whnf
      refine iteC (fun h5 => ?_) (fun h5 => ?_)
      · have h5 := of_decide_eq_true h5
        rw [List.length_map] at h5
        have hlt : s.i < b.length := by omega
        have hg := getZ (l := b) (e := (s.i : Int)) rfl hlt
        have hsl : s.l.length = a.length + s.i := by rw [hp.length_eq]; simp; omega
        conv => whnf
        conv => arg 2; repeat (first | rw [hg] | (whnf; arg 2))
        conv => whnf
        conv => arg 2; repeat (first | rw [capN _ (by simp; omega)] | (whnf; arg 2))
        conv => whnf
        refine LoopJ.intro (I := []) (base' := 4000) hX hm (by kernel_rfl) (σ := Nat) (fun p => [(0, qs64 a), (1, qs64 b), (6, .own 1000), (7, .p (.i .i64 s.i)), (8, .p (.i .i64 p))]) (fun p => [(1000, .els true qsh64 (qv64 (shf s.l b[s.i] p)))])
          (fun p => p ≤ s.l.length ∧ ∀ j, p ≤ j → j < s.l.length → b[s.i] < s.l.getD j 0) (fun p => p) s.l.length [(1000, 2336)] ⟨Nat.le_refl _, fun j h1 h2 => by omega⟩
          ⟨nofun, rfl, ⟨rfl, rfl, rfl, rfl, rfl, rfl, rfl, rfl, by rw [List.length_map]; rfl, rfl, trivial⟩, ⟨?_, rfl, trivial⟩⟩ ?_
        · exact congrArg (fun x => some (Blk.els true qsh64 x)) ((qv_app s.l [b[s.i]]).symm.trans (congrArg (fun l : List Int => qv64 l) (shf_all _ _).symm))
        intro p ⟨hp2, hI⟩
        conv => whnf
        refine iteC (fun h6 => ?_) (fun h6 => ?_)
        · have h6 := of_decide_eq_true h6
          have hp0 : 0 < p := by omega
          have e5 : IntKind.i64.wrap ((p : Int) - 1) = ((p - 1 : Nat) : Int) := by rw [wr_i64 (by omega) (by omega)]; omega
          have hM : (shf s.l b[s.i] p)[p - 1]'(by rw [shf_len]; omega) = s.l.getD (p - 1) 0 := by
            rw [shf_get, if_pos (by omega), getD_lt (by simp; omega), List.getElem_append_left (by omega), getD_lt (by omega)]
          have gA := getZ (l := shf s.l b[s.i] p) e5 (by rw [shf_len]; omega)
          have nA := nZ (l := shf s.l b[s.i] p) (e := (IntKind.i64.wrap ((p : Int) - 1)).toNat) (i := p - 1) (by rw [e5]; rfl) (by rw [shf_len]; omega)
          rw [hM] at gA nA
          conv => whnf
          iterate 3 (try (conv => arg 2; repeat (first | rw [hg] | rw [gA] | rw [nA] | (whnf; arg 2))
                          conv => whnf))
          refine iteC (fun h7 => ?_) (fun h7 => ?_)
          · have h7 := of_decide_eq_true h7
            have gP := getZ (l := shf s.l b[s.i] p) (e := (p : Int)) rfl (by rw [shf_len]; omega)
            have nP := nZ (l := shf s.l b[s.i] p) (e := (p : Int).toNat) (i := p) rfl (by rw [shf_len]; omega)
            conv => whnf
            iterate 4 (try (conv => arg 2; repeat (first | rw [gA] | rw [nA] | rw [gP] | rw [nP] | (whnf; arg 2))
                            conv => whnf))
            refine ⟨p - 1, [], ⟨by omega, fun j h8 h9 => ?_⟩, by dsimp only; omega, nofun, rfl, ⟨rfl, rfl, rfl, rfl, rfl, rfl, rfl, rfl, avI e5, rfl, trivial⟩, ⟨?_, rfl, trivial⟩⟩
            · by_cases hj : p ≤ j
              · exact hI j hj h9
              · obtain rfl : j = p - 1 := by omega
                exact h7
            · exact congrArg (fun x => some (Blk.els true qsh64 x)) ((setZ _ _ _).trans (congrArg (fun l : List Int => qv64 l) (shf_step (by omega) hp2)))
          · have h7 := of_decide_eq_false h7
            have hlo : p = 0 ∨ s.l.getD (p - 1) 0 ≤ b[s.i] := .inr (by omega)
            have gP := getZ (l := shf s.l b[s.i] p) (e := (p : Int)) rfl (by rw [shf_len]; omega)
            have nP := nZ (l := shf s.l b[s.i] p) (e := (p : Int).toNat) (i := p) rfl (by rw [shf_len]; omega)
            conv => whnf
            iterate 3 (try (conv => arg 2; repeat (first | rw [hg] | rw [gP] | rw [nP] | (whnf; arg 2))
                            conv => whnf))
            refine ⟨⟨s.i + 1, s.l.take p ++ b[s.i] :: s.l.drop p⟩, [], ⟨by dsimp only; omega, put_rise hr hp2 hlo hI, ?_⟩, by dsimp only; omega, nofun, rfl, ⟨rfl, rfl, rfl, rfl, rfl, rfl, incN (by omega), rfl, trivial⟩, ⟨?_, rfl, trivial⟩⟩
            · refine (put_perm _ _ _).trans ((hp.append_right _).trans ?_)
              rw [List.append_assoc, List.take_add_one, List.getElem?_eq_getElem hlt]
              exact List.Perm.refl _
            · exact congrArg (fun x => some (Blk.els true qsh64 x)) ((setZ _ _ _).trans (congrArg (fun l : List Int => qv64 l) (shf_fin hp2)))
        · have h6 := of_decide_eq_false h6
          have hlo : p = 0 ∨ s.l.getD (p - 1) 0 ≤ b[s.i] := .inl (by omega)
          have gP := getZ (l := shf s.l b[s.i] p) (e := (p : Int)) rfl (by rw [shf_len]; omega)
          have nP := nZ (l := shf s.l b[s.i] p) (e := (p : Int).toNat) (i := p) rfl (by rw [shf_len]; omega)
          conv => whnf
          iterate 3 (try (conv => arg 2; repeat (first | rw [hg] | rw [gP] | rw [nP] | (whnf; arg 2))
                          conv => whnf))
          refine ⟨⟨s.i + 1, s.l.take p ++ b[s.i] :: s.l.drop p⟩, [], ⟨by dsimp only; omega, put_rise hr hp2 hlo hI, ?_⟩, by dsimp only; omega, nofun, rfl, ⟨rfl, rfl, rfl, rfl, rfl, rfl, incN (by omega), rfl, trivial⟩, ⟨?_, rfl, trivial⟩⟩
          · refine (put_perm _ _ _).trans ((hp.append_right _).trans ?_)
            rw [List.append_assoc, List.take_add_one, List.getElem?_eq_getElem hlt]
            exact List.Perm.refl _
          · exact congrArg (fun x => some (Blk.els true qsh64 x)) ((setZ _ _ _).trans (congrArg (fun l : List Int => qv64 l) (shf_fin hp2)))
      · have h5 := of_decide_eq_false h5
        rw [List.length_map] at h5
        have hib : s.i = b.length := by omega
        rw [hib, List.take_length] at hp
        have e9 : s.l = srt (a ++ b) := rise_uniq (hp.trans (srt_perm _).symm) hr (srt_rise _)
        rw [← e9]
        rfl
    · obtain ⟨e1, e2⟩ := merge_bad hm2 (by rw [h4]; simp)
      conv => whnf
      rw [e1, e2]
      rfl
  · obtain ⟨e1, e2⟩ := merge_bad hm2 (by rw [h3]; simp)
    conv => whnf
    rw [e1, e2]
    rfl
end Go.Proofs.Ytgjebgplbkjkhaa.AM
