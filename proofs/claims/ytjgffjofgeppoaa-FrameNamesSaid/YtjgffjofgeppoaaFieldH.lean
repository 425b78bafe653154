/- Fields: rows read; FieldReads: the walk of the law. -/
import Derived.Test.YtjgffjofgeppoaaFieldG
namespace Go.Proofs.Ytjgffjofgeppoaa.AM
open Go Go.Proofs
set_option maxRecDepth 100000
def readL (ks b : List Int) : List Fd × Int :=
  if (frstL ks b).2.2 ≠ 0 then ([], (frstL ks b).2.2) else if (frstL ks b).2.1.length > 0 then ([], 12) else ((frstL ks b).1, 0)
theorem f31_ok (ks b : List Int) (hk : byt ks) (hb : byt b) (hbl : b.length ≤ 100000) (hkl : ks.length < 9223372036854775807) :
    Fn Try.prog X.G 31 [bvs ks, bvs b] (.tup [fvs (readL ks b).1, .p (.i .i64 (readL ks b).2)]) := by
  refine Fn.intro (I := []) hX hm 0 Try.func31 rfl rfl (by kernel_rfl) rfl ?_
  have c := f33_ok ks b hk hb hbl hkl
  unfold readL
  generalize frstL ks b = T at *
  obtain ⟨l, r, e⟩ := T
  dsimp only at *
  conv => whnf
  refine ⟨_, c, ?_⟩
  conv => whnf
  refine iteC (fun h => ?_) (fun h => ?_)
  · rw [if_pos (by simpa using h)]
    rfl
  rw [if_neg (by simpa using h)]
  conv => whnf
  refine iteC (fun h2 => ?_) (fun h2 => ?_)
  · have h2 := of_decide_eq_true h2
    rw [List.length_map] at h2
    rw [if_pos (by omega)]
    rfl
  · have h2 := of_decide_eq_false h2
    rw [List.length_map] at h2
    rw [if_neg (by omega)]
    rfl
theorem f32_ok (ks b : List Int) (hk : byt ks) (hb : byt b) (hbl : b.length ≤ 100000) (hkl : ks.length < 9223372036854775807) :
    Fn Try.prog X.G 32 [bvs ks, bvs b] (.tup [fvs (readL ks b).1, .p (.i .i64 (readL ks b).2)]) := by
  refine Fn.intro (I := []) hX hm 0 Try.func32 rfl rfl (by kernel_rfl) rfl ?_
  have c := f34_ok ks b hk hb hbl hkl
  unfold readL
  generalize frstL ks b = T at *
  obtain ⟨l, r, e⟩ := T
  dsimp only at *
  conv => whnf
  refine ⟨_, c, ?_⟩
  conv => whnf
  refine iteC (fun h => ?_) (fun h => ?_)
  · rw [if_pos (by simpa using h)]
    rfl
  rw [if_neg (by simpa using h)]
  conv => whnf
  refine iteC (fun h2 => ?_) (fun h2 => ?_)
  · have h2 := of_decide_eq_true h2
    rw [List.length_map] at h2
    rw [if_pos (by omega)]
    rfl
  · have h2 := of_decide_eq_false h2
    rw [List.length_map] at h2
    rw [if_neg (by omega)]
    rfl
theorem same_fv (x y : Fd) : PV.same (fv x) (fv y) = decide (x = y) := by
  obtain ⟨a, b, c⟩ := x
  obtain ⟨d, e, f⟩ := y
  simp only [PV.same, PV.sameL, sameL_bv, Fd.mk.injEq, Bool.and_true]
  by_cases h1 : a = d <;> by_cases h2 : b = e <;> by_cases h3 : c = f <;> simp [h1, h2, h3]
theorem f35_ok (a b : List Fd) (hl : a.length < 9223372036854775807) : Fn Try.prog X.G 35 [fvs a, fvs b] (.p (.b (decide (a = b)))) := by
  refine Fn.intro (I := []) hX hm 0 Try.func35 rfl rfl (by kernel_rfl) rfl ?_
  conv => whnf
  refine iteC (fun h => ?_) (fun h => ?_)
  · rw [decide_eq_false (by rintro rfl; simp at h)]
    rfl
  have h : a.length = b.length := Int.ofNat.inj (by simpa using h)
  conv => whnf
  refine LoopJ.intro (I := []) (base' := 0) hX hm (by kernel_rfl) (σ := Nat) (fun i => [(0, fvs a), (1, fvs b), (5, .p (.i .i64 i))]) (fun _ => []) (fun i => i ≤ a.length ∧ ∀ j (h1 : j < a.length) (h2 : j < b.length), j < i → a[j] = b[j]) (fun i => a.length - i) 0 []
    ⟨Nat.zero_le _, by intro j _ _ h; omega⟩ ⟨nofun, rfl, ⟨rfl, rfl, rfl, rfl, rfl, rfl, trivial⟩, trivial⟩ ?_
  intro i hi
  conv => whnf
  refine iteC (fun h1 => ?_) (fun h1 => ?_)
  · have h1 := of_decide_eq_true h1
    rw [List.length_map] at h1
    have hlt : i < a.length := by omega
    have hlt2 : i < b.length := by omega
    have ga := getM (f := fv) hlt
    have gb := getM (f := fv) hlt2
    conv => whnf
    conv => arg 2; repeat (first | rw [ga] | (whnf; arg 2))
    conv => whnf
    conv => arg 2; repeat (first | rw [gb] | (whnf; arg 2))
    conv => whnf
    refine iteC (fun h2 => ?_) (fun h2 => ?_)
    · have h2 : (!PV.same (fv a[i]) (fv b[i])) = true := h2
      rw [same_fv] at h2
      rw [decide_eq_false (by rintro rfl; simp at h2)]
      rfl
    · have h2 : (!PV.same (fv a[i]) (fv b[i])) = false := h2
      rw [same_fv] at h2
      conv => whnf
      refine ⟨i + 1, [], ⟨by omega, fun j g1 g2 hj => ?_⟩, by dsimp only; omega, nofun, rfl, ⟨rfl, rfl, rfl, rfl, incN (by omega), rfl, trivial⟩, trivial⟩
      by_cases hji : j = i
      · subst hji; simpa using h2
      · exact hi.2 j g1 g2 (by omega)
  · have h1 := of_decide_eq_false h1
    rw [List.length_map] at h1
    conv => whnf
    rw [decide_eq_true (List.ext_getElem h fun j g1 g2 => hi.2 j g1 g2 (by omega))]
    rfl
theorem goF_len : ∀ (ks b : List Int) (acc : List Fd), (goF ks b acc).1.length ≤ acc.length + ks.length ∧ (goF ks b acc).2.1.length ≤ b.length
  | [], b, acc => by simp [goF]
  | k :: ks, b, acc => by
    unfold goF
    split
    · simp
    · split
      · simp
      · have := goF_len ks (b.drop (widK k).toNat) (acc ++ [rdF k b])
        simp at this ⊢
        omega
theorem frstL_len (ks b : List Int) : (frstL ks b).1.length ≤ 40 ∧ (frstL ks b).2.1.length ≤ b.length := by
  unfold frstL
  split
  · simp
  · split
    · simp
    · have := goF_len ks b []
      simp at this
      omega
theorem readL_len (ks b : List Int) : (readL ks b).1.length ≤ 40 := by
  unfold readL
  split
  · simp
  · split
    · simp
    · exact (frstL_len ks b).1
theorem f4_ok (ks b : List Int) (hk : byt ks) (hb : byt b) : Fn Try.prog X.G 4 [bvs ks, bvs b] (.p (.b true)) := by
  refine Fn.intro (I := []) hX hm 0 Try.func4 rfl rfl (by kernel_rfl) rfl ?_
  conv => whnf
  refine iteC (fun h => ?_) (fun h => ?_)
  · rfl
  have h := of_decide_eq_false h
  rw [List.length_map] at h
  conv => whnf
  refine iteC (fun h2 => ?_) (fun h2 => ?_)
  · rfl
  have h2 := of_decide_eq_false h2
  rw [List.length_map] at h2
  have c1 := f31_ok ks b hk hb (by omega) (by omega)
  have c2 := f32_ok ks b hk hb (by omega) (by omega)
  have c3 := f33_ok ks b hk hb (by omega) (by omega)
  have c4 := f34_ok ks b hk hb (by omega) (by omega)
  have c5 := f35_ok (readL ks b).1 (readL ks b).1 (by have := readL_len ks b; omega)
  have c6 := f35_ok (frstL ks b).1 (frstL ks b).1 (by have := frstL_len ks b; omega)
  have c7 := f30_ok (frstL ks b).2.1 (frstL ks b).2.1 (by have := frstL_len ks b; omega)
  rw [decide_eq_true rfl] at c5 c6 c7
  generalize readL ks b = R at *
  generalize frstL ks b = T at *
  obtain ⟨l, r, e⟩ := T
  obtain ⟨m, g⟩ := R
  dsimp only at *
  conv => whnf
  conv => arg 2; repeat (first | rw [capN _ (by simp; omega)] | (whnf; arg 2))
  conv => whnf
  refine ⟨_, c1, ?_⟩
  conv => whnf
  refine ⟨_, c2, ?_⟩
  conv => whnf
  refine ⟨_, c3, ?_⟩
  conv => whnf
  refine ⟨_, c4, ?_⟩
  conv => whnf
  refine LoopJ.intro (I := []) (base' := 0) hX hm (by kernel_rfl) (σ := Nat × List Int) (fun s => [(5, .own 216), (6, .own 248), (7, .p (.i .i64 g)), (8, .own 296), (9, .p (.i .i64 g)), (10, .own 344), (11, .own 345), (12, .p (.i .i64 e)), (13, .own 400), (14, .own 401), (15, .p (.i .i64 e)), (16, .p (.i .i64 s.1))])
    (fun s => [(216, .els true ush (bv s.2)), (248, .els true fsh (m.map fv)), (296, .els true fsh (m.map fv)), (344, .els true fsh (l.map fv)), (345, .els true ush (bv r)), (400, .els true fsh (l.map fv)), (401, .els true ush (bv r))])
    (fun s => s.1 ≤ s.2.length ∧ s.2.length = b.length) (fun s => s.2.length - s.1) (0, b) []
    ⟨Nat.zero_le _, rfl⟩ ⟨nofun, rfl, ⟨rfl, rfl, rfl, rfl, rfl, rfl, rfl, rfl, rfl, rfl, rfl, rfl, rfl, rfl, rfl, rfl, rfl, rfl, rfl, rfl, rfl, rfl, rfl, rfl, trivial⟩, ⟨rfl, rfl, rfl, rfl, rfl, rfl, rfl, rfl, rfl, rfl, rfl, rfl, rfl, rfl, trivial⟩⟩ ?_
  intro s hs
  conv => whnf
  refine iteC (fun h3 => ?_) (fun h3 => ?_)
  · have h3 := of_decide_eq_true h3
    rw [List.length_map] at h3
    have hlt : s.1 < s.2.length := by omega
    have hg := getM (f := PV.i .u8) hlt
    have hn := nthM (f := PV.i .u8) hlt
    conv => whnf
    iterate 4
      conv => arg 2; repeat (first | rw [hg] | rw [hn] | (whnf; arg 2))
      conv => whnf
    refine ⟨(s.1 + 1, s.2.set s.1 (IntKind.u8.wrap (s.2[s.1] + 1))), [], ⟨by simp; omega, by simp; omega⟩, by simp; omega, nofun, rfl, ⟨rfl, rfl, rfl, rfl, rfl, rfl, rfl, rfl, rfl, rfl, rfl, rfl, rfl, rfl, rfl, rfl, rfl, rfl, rfl, rfl, rfl, rfl, incN (by omega), rfl, trivial⟩, ⟨?_, rfl, rfl, rfl, rfl, rfl, rfl, rfl, rfl, rfl, rfl, rfl, rfl, rfl, trivial⟩⟩
    show _ = some (Blk.els true ush (bv (s.2.set s.1 (IntKind.u8.wrap (s.2[s.1] + 1)))))
    rw [show bv (s.2.set s.1 (IntKind.u8.wrap (s.2[s.1] + 1))) = (bv s.2).set s.1 (.i .u8 (IntKind.u8.wrap (s.2[s.1] + 1))) from List.map_set]
    rfl
  · conv => whnf
    repeat (first
      | (refine ⟨_, c5, ?_⟩; conv => whnf)
      | (refine ⟨_, c6, ?_⟩; conv => whnf)
      | (refine ⟨_, c7, ?_⟩; conv => whnf)
      | (refine iteT (beq_self_eq_true _) ?_; conv => whnf)
      | (refine iteT rfl ?_; conv => whnf))
    rfl
end Go.Proofs.Ytjgffjofgeppoaa.AM
