/- ClockNames: the chapter's examples, limits, empty lists, errors; the walk of the law. -/
import Derived.Test.YtgjebgplbkjkhaaCkK
namespace Go.Proofs.Ytgjebgplbkjkhaa.AM
open Go Go.Proofs Go.Sort
set_option maxRecDepth 100000

/-- So many zeros. -/
abbrev zs (n : Nat) : List Int := List.replicate n 0
theorem zs_len (n : Nat) : (zs n).length = n := List.length_replicate
theorem zs_rise (n : Nat) : riseB (zs n) = true := by
  rw [riseB_iff]
  intro i h
  simp
theorem qs_zs (n : Int) (_ : 0 ≤ n) : AV.ro qsh64 (List.replicate n.toNat (.i .u64 0)) = qs64 (zs n.toNat) := by
  show _ = AV.ro qsh64 ((List.replicate n.toNat 0).map (PV.i .u64))
  rw [List.map_replicate]
theorem top_ge (now : Int) : ∀ l : List Int, now ≤ top now l := fun l => by
  have h : ∀ (l : List Int) (a : Int), a ≤ l.foldl mx a := by
    intro l
    induction l with
    | nil => intro a; exact Int.le_refl _
    | cons x l ih =>
      intro a
      refine Int.le_trans ?_ (ih (mx a x))
      unfold mx
      split <;> omega
  exact h l now
theorem back_zs (n : Nat) : ∀ m, m ≤ n → (backL 1 (zs n) m).length = m
  | 0, _ => rfl
  | m + 1, h => by
    have h1 := top_ge 1 ((zs n).take m)
    have h2 : m < (zs n).length := by rw [zs_len]; omega
    have h3 : (zs n)[m] = 0 := by simp
    have e : backL 1 (zs n) (m + 1) = backL 1 (zs n) m ++ [(m : Int)] := by
      simp only [backL]
      rw [getD_lt h2, decide_eq_true (by rw [h3]; omega)]
    rw [e, List.length_append, back_zs n m (by omega)]
    rfl
set_option maxHeartbeats 16000000 in
theorem f4_ok : Fn Try.prog X.G 4 [] (.p (.b true)) := by
  refine Fn.intro (I := []) hX hm 0 Try.func4 rfl rfl (by kernel_rfl) rfl ?_
  have l1 : (zs (201 : Int).toNat).length = 201 := zs_len 201
  have l2 : (zs (200 : Int).toNat).length = 200 := zs_len 200
  have r2 : riseB (zs (200 : Int).toNat) = true := zs_rise 200
  have lA := clampL_len 3 (zs (200 : Int).toNat) 200
  have gA0 : ∀ h : 0 < (clampL 3 (zs (200 : Int).toNat) 200).length, (clampL 3 (zs (200 : Int).toNat) 200)[0] = 3 := fun h => by
    rw [clampL_get, top_take (by omega)]
    simp [top, mx]
  have lB : (backL 1 (zs (200 : Int).toNat) 200).length = 200 := back_zs 200 200 (Nat.le_refl _)
  have lS := srt_len (zs (200 : Int).toNat ++ zs (200 : Int).toNat)
  rw [List.length_append, l2] at lS
  have c1 := f16_ok 0 (zs (201 : Int).toNat) (by omega)
  rw [show clampR 0 (zs (201 : Int).toNat) = [] from if_pos (by omega), show manyE (zs (201 : Int).toNat) = 4 from if_pos (by omega), ← qs_zs 201 (by decide)] at c1
  have c2 := f16_ok 3 (zs (200 : Int).toNat) (by omega)
  rw [show clampR 3 (zs (200 : Int).toNat) = clampL 3 (zs (200 : Int).toNat) 200 from (if_neg (by omega)).trans (by rw [l2]), show manyE (zs (200 : Int).toNat) = 0 from if_neg (by omega), ← qs_zs 200 (by decide)] at c2
  have c3 := f17_ok 0 (zs (201 : Int).toNat) (by omega)
  rw [show backR 0 (zs (201 : Int).toNat) = [] from if_pos (by omega), show manyE (zs (201 : Int).toNat) = 4 from if_pos (by omega), ← qs_zs 201 (by decide)] at c3
  have c4 := f17_ok 1 (zs (200 : Int).toNat) (by omega)
  rw [show backR 1 (zs (200 : Int).toNat) = backL 1 (zs (200 : Int).toNat) 200 from (if_neg (by omega)).trans (by rw [l2]), show manyE (zs (200 : Int).toNat) = 0 from if_neg (by omega), ← qs_zs 200 (by decide)] at c4
  have c5 := f16_ok 18446744073709551615 [] (by decide)
  rw [show clampR 18446744073709551615 [] = [] from rfl, show manyE [] = 0 from rfl] at c5
  have c5 := c5.nil2 (t := .one)
  have c6 := f17_ok 18446744073709551615 [] (by decide)
  rw [show backR 18446744073709551615 [] = [] from rfl, show manyE [] = 0 from rfl] at c6
  have c6 := c6.nil2 (t := .one)
  have c7 := f9_ok 1 0 (by unfold tick; decide) (by unfold tick; decide)
  rw [show sinceV 1 0 = 0 from by decide, show sinceE 1 0 = 32 from by decide] at c7
  have c8 := f9_ok 0 18446744073709551615 (by unfold tick; decide) (by unfold tick; decide)
  rw [show sinceV 0 18446744073709551615 = 18446744073709551615 from by decide, show sinceE 0 18446744073709551615 = 0 from by decide] at c8
  have c9 := f9_ok 18446744073709551615 18446744073709551615 (by unfold tick; decide) (by unfold tick; decide)
  rw [show sinceV 18446744073709551615 18446744073709551615 = 0 from by decide, show sinceE 18446744073709551615 18446744073709551615 = 0 from by decide] at c9
  have c10 := f11_ok 18446744073709551615 0 (by unfold tick; decide) (by unfold tick; decide)
  rw [show afterV 18446744073709551615 0 = 18446744073709551615 from by decide, show afterE 18446744073709551615 0 = 0 from by decide] at c10
  have c11 := f11_ok 0 18446744073709551615 (by unfold tick; decide) (by unfold tick; decide)
  rw [show afterV 0 18446744073709551615 = 18446744073709551615 from by decide, show afterE 0 18446744073709551615 = 0 from by decide] at c11
  have c12 := f11_ok 1 18446744073709551615 (by unfold tick; decide) (by unfold tick; decide)
  rw [show afterV 1 18446744073709551615 = 0 from by decide, show afterE 1 18446744073709551615 = 16 from by decide] at c12
  have c13 := f13_ok (zs (201 : Int).toNat) [] (by omega) (by decide)
  rw [(merge_many (.inl (by omega))).1, (merge_many (.inl (by omega))).2, ← qs_zs 201 (by decide)] at c13
  have c13 := c13.nil2 (t := .one)
  have c14 := f13_ok [] (zs (201 : Int).toNat) (by decide) (by omega)
  rw [(merge_many (.inr (by omega))).1, (merge_many (.inr (by omega))).2, ← qs_zs 201 (by decide)] at c14
  have c14 := c14.nil1 (t := .one)
  have c15 := f13_ok [2, 1] [] (by decide) (by decide)
  rw [(merge_bad (by decide) (by decide)).1, (merge_bad (by decide) (by decide)).2] at c15
  have c15 := c15.nil2 (t := .one)
  have c16 := f13_ok [] [0, 18446744073709551615, 5] (by decide) (by decide)
  rw [(merge_bad (by decide) (by decide)).1, (merge_bad (by decide) (by decide)).2] at c16
  have c16 := c16.nil1 (t := .one)
  have c17 := f13_ok [] [] (by decide) (by decide)
  rw [(merge_good (by decide) (by decide)).1, (merge_good (by decide) (by decide)).2, show srt ([] ++ []) = [] from List.eq_nil_of_length_eq_zero (srt_len _)] at c17
  have c17 := (c17.nil1 (t := .one)).nil2 (t := .one)
  have c18 := f13_ok (zs (200 : Int).toNat) (zs (200 : Int).toNat) (by omega) (by omega)
  rw [(merge_good (by omega) ⟨r2, r2⟩).1, (merge_good (by omega) ⟨r2, r2⟩).2, ← qs_zs 200 (by decide)] at c18
  have d1 := f18_ok 18446744073709551615 0
  have d2 := f18_ok 0 0
  rw [show mx 18446744073709551615 0 = 18446744073709551615 from by decide] at d1
  rw [show mx 0 0 = 0 from by decide] at d2
  have ca := f19_ok
  generalize clampL 3 (zs (200 : Int).toNat) 200 = A at *
  generalize backL 1 (zs (200 : Int).toNat) 200 = B at *
  generalize srt ((zs (200 : Int).toNat) ++ (zs (200 : Int).toNat)) = S at *
  have gA := getZ (l := A) (e := 0) (i := 0) rfl (by omega)
  have nA := nZ (l := A) (e := (0 : Int).toNat) (i := 0) rfl (by omega)
  rw [gA0 (by omega)] at gA nA
  have hA : ((((qv64 A).length : Nat) : Int) == 200) = true := by rw [List.length_map, lA]; rfl
  have hB : ((((iv64 B).length : Nat) : Int) == 200) = true := by rw [List.length_map, lB]; rfl
  have hS : ((((qv64 S).length : Nat) : Int) == 400) = true := by rw [List.length_map, lS]; rfl
  conv => whnf
  refine ⟨_, c1, ?_⟩
  conv => whnf
  refine ⟨_, c2, ?_⟩
  conv => whnf
  refine ⟨_, c3, ?_⟩
  conv => whnf
  refine ⟨_, c4, ?_⟩
  conv => whnf
  refine ⟨_, c5, ?_⟩
  conv => whnf
  refine ⟨_, c6, ?_⟩
  conv => whnf
  refine ⟨_, c7, ?_⟩
  conv => whnf
  refine ⟨_, c8, ?_⟩
  conv => whnf
  refine ⟨_, c9, ?_⟩
  conv => whnf
  refine ⟨_, c10, ?_⟩
  conv => whnf
  refine ⟨_, c11, ?_⟩
  conv => whnf
  refine ⟨_, c12, ?_⟩
  conv => whnf
  refine ⟨_, c13, ?_⟩
  conv => whnf
  refine ⟨_, c14, ?_⟩
  conv => whnf
  refine ⟨_, c15, ?_⟩
  conv => whnf
  refine ⟨_, c16, ?_⟩
  conv => whnf
  refine ⟨_, c17, ?_⟩
  conv => whnf
  refine ⟨_, c18, ?_⟩
  conv => whnf
  refine iteT rfl ?_
  conv => whnf
  refine iteT rfl ?_
  conv => whnf
  refine iteT hA ?_
  conv => whnf
  iterate 2 (try (conv => arg 2; repeat (first | rw [gA] | rw [nA] | (whnf; arg 2))
                  conv => whnf))
  refine iteT rfl ?_
  conv => whnf
  refine iteT rfl ?_
  conv => whnf
  refine iteT rfl ?_
  conv => whnf
  refine iteT hB ?_
  conv => whnf
  refine iteT rfl ?_
  conv => whnf
  refine iteT rfl ?_
  conv => whnf
  refine iteT rfl ?_
  conv => whnf
  refine iteT rfl ?_
  conv => whnf
  refine iteT rfl ?_
  conv => whnf
  refine iteT rfl ?_
  conv => whnf
  refine iteT rfl ?_
  conv => whnf
  refine iteT rfl ?_
  conv => whnf
  refine iteT rfl ?_
  conv => whnf
  refine iteT rfl ?_
  conv => whnf
  refine iteT rfl ?_
  conv => whnf
  refine iteT rfl ?_
  conv => whnf
  refine iteT rfl ?_
  conv => whnf
  refine iteT rfl ?_
  conv => whnf
  refine iteT rfl ?_
  conv => whnf
  refine iteT rfl ?_
  conv => whnf
  refine iteT rfl ?_
  conv => whnf
  refine iteT rfl ?_
  conv => whnf
  refine iteT rfl ?_
  conv => whnf
  refine iteT rfl ?_
  conv => whnf
  refine iteT rfl ?_
  conv => whnf
  refine iteT hS ?_
  conv => whnf
  refine ⟨_, d1, ?_⟩
  conv => whnf
  refine iteT rfl ?_
  conv => whnf
  refine ⟨_, d2, ?_⟩
  conv => whnf
  refine iteT rfl ?_
  conv => whnf
  refine ⟨_, ca, ?_⟩
  conv => whnf
  refine iteT rfl ?_
  rfl
end Go.Proofs.Ytgjebgplbkjkhaa.AM
