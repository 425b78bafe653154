/- Fields: the walk of the reference's First. -/
import Derived.Test.YtjgffjofgeppoaaFieldF
namespace Go.Proofs.Ytjgffjofgeppoaa.AM
open Go Go.Proofs
set_option maxRecDepth 100000
theorem bad_of {F : Fd} (h : (chkF F != 0) = true) : badF F = true := by
  unfold chkF at h
  by_cases hb : badF F = true
  · exact hb
  · rw [if_neg hb] at h; simp at h
theorem bad_not {F : Fd} (h : (chkF F != 0) = false) : ¬ badF F = true := by
  unfold chkF at h
  intro hb
  rw [if_pos hb] at h; simp at h
theorem setD_step {d : List Int} {b : List Int} {j : Nat} (hd : d.length = 32) (hj : j < 32) (hb : 32 ≤ b.length) :
    (bv (b.take j ++ d.drop j)).set j (.i .u8 b[j]) = bv (b.take (j + 1) ++ d.drop (j + 1)) := by
  apply List.ext_getElem
  · simp; omega
  · intro n h1 h2
    simp only [List.length_set, List.length_map, List.length_append, List.length_take, List.length_drop] at h1
    rw [List.getElem_set]
    by_cases hn : j = n
    · subst hn
      rw [if_pos rfl]
      simp only [List.getElem_map]
      rw [List.getElem_append_left (by rw [List.length_take]; omega)]
      simp
    · rw [if_neg hn]
      simp only [List.getElem_map]
      by_cases hlt : n < j
      · rw [List.getElem_append_left (by rw [List.length_take]; omega), List.getElem_append_left (by rw [List.length_take]; omega)]
        simp
      · rw [List.getElem_append_right (by rw [List.length_take]; omega), List.getElem_append_right (by rw [List.length_take]; omega)]
        simp only [List.length_take, List.getElem_drop]
        congr 2
        omega
set_option maxHeartbeats 1000000 in
theorem f34_ok (ks b : List Int) (hk : byt ks) (hb : byt b) (hbl : b.length ≤ 100000) (hkl : ks.length < 9223372036854775807) :
    Fn Try.prog X.G 34 [bvs ks, bvs b] (.tup [fvs (frstL ks b).1, bvs (frstL ks b).2.1, .p (.i .i64 (frstL ks b).2.2)]) := by
  refine Fn.intro (I := []) hX hm 0 Try.func34 rfl rfl (by kernel_rfl) rfl ?_
  conv => whnf
  refine iteC (fun h => ?_) (fun h => ?_)
  · have h := of_decide_eq_true h
    rw [List.length_map] at h
    rw [show frstL ks b = ([], [], 4) from by unfold frstL; rw [if_pos (by omega)]]
    rfl
  have h := of_decide_eq_false h
  rw [List.length_map] at h
  conv => whnf
  refine LoopJ.intro (I := []) (base' := 0) hX hm (by kernel_rfl) (σ := Nat) (fun i => [(0, bvs ks), (1, bvs b), (7, .p (.i .i64 i))]) (fun _ => [])
    (fun i => i ≤ ks.length ∧ ∀ j (hj : j < ks.length), j < i → (widK ks[j] == 0) = false) (fun i => ks.length - i) 0 []
    ⟨Nat.zero_le _, by intro j _ h; omega⟩ ⟨nofun, rfl, ⟨rfl, rfl, rfl, rfl, rfl, rfl, trivial⟩, trivial⟩ ?_
  intro i hi
  conv => whnf
  refine iteC (fun h1 => ?_) (fun h1 => ?_)
  · have h1 := of_decide_eq_true h1
    rw [List.length_map] at h1
    have hlt : i < ks.length := by omega
    have hg := getM (f := PV.i .u8) hlt
    conv => whnf
    conv => arg 2; repeat (first | rw [hg] | (whnf; arg 2))
    conv => whnf
    refine ⟨_, f71_ok ks[i], ?_⟩
    conv => whnf
    refine iteC (fun h2 => ?_) (fun h2 => ?_)
    · rw [show frstL ks b = ([], [], 2) from by unfold frstL; rw [if_neg (by omega), if_pos (List.any_eq_true.2 ⟨_, List.getElem_mem hlt, h2⟩)]]
      rfl
    · conv => whnf
      refine ⟨i + 1, [], ⟨by omega, fun j hj hji => ?_⟩, by dsimp only; omega, nofun, rfl, ⟨rfl, rfl, rfl, rfl, incN (by omega), rfl, trivial⟩, trivial⟩
      by_cases hj2 : j = i
      · subst hj2; exact h2
      · exact hi.2 j hj (by omega)
  have h1 := of_decide_eq_false h1
  rw [List.length_map] at h1
  have hall : ¬ ks.any (fun k => widK k == 0) = true := by
    rw [List.any_eq_true]
    rintro ⟨x, hx, hb⟩
    obtain ⟨j, hj, rfl⟩ := List.mem_iff_getElem.1 hx
    rw [hi.2 j hj (by omega)] at hb
    cases hb
  have htar : goF (ks.drop 0) (b.drop 0) [] = frstL ks b := by unfold frstL; rw [if_neg (by omega), if_neg hall]; rfl
  generalize frstL ks b = T at *
  clear hi h1 hall
  conv => whnf
  refine LoopJ.nil 8 1000 fsh rfl rfl ?_
  refine LoopJ.intro (I := []) (base' := 0) hX hm (by kernel_rfl) (σ := Nat × List Fd × Nat) (fun s => [(0, bvs ks), (1, bvs b), (8, .own 1000), (9, .p (.i .i64 s.2.2)), (10, .p (.i .i64 s.1))]) (fun s => [(1000, .els true fsh (s.2.1.map fv))])
    (fun s => s.1 ≤ ks.length ∧ s.2.1.length = s.1 ∧ s.2.2 ≤ b.length ∧ goF (ks.drop s.1) (b.drop s.2.2) s.2.1 = T) (fun s => ks.length - s.1) (0, [], 0) []
    ⟨Nat.zero_le _, rfl, Nat.zero_le _, htar⟩ ⟨nofun, rfl, ⟨rfl, rfl, rfl, rfl, rfl, rfl, rfl, rfl, rfl, rfl, trivial⟩, ⟨rfl, rfl, trivial⟩⟩ ?_
  intro s hs
  obtain ⟨i1, i2, i3, i5⟩ := hs
  conv => whnf
  refine iteC (fun h3 => ?_) (fun h3 => ?_)
  · have h3 := of_decide_eq_true h3
    rw [List.length_map] at h3
    have hlt : s.1 < ks.length := by omega
    have hg := getM (f := PV.i .u8) hlt
    rw [List.drop_eq_getElem_cons hlt] at i5
    have hkk := hk _ (List.getElem_mem hlt)
    have c1 := f71_ok ks[s.1]
    generalize ks[s.1] = k at *
    have hwn := widK_nat k
    have hwl := widK_le k
    have i4 : byt (b.drop s.2.2) := fun x hx => hb x (List.mem_of_mem_drop hx)
    have hrd := rdF_ok hkk i4
    unfold goF at i5
    rw [hwn] at c1
    conv => whnf
    conv => arg 2; repeat (first | rw [hg] | (whnf; arg 2))
    conv => whnf
    refine ⟨_, c1, ?_⟩
    conv => whnf
    refine iteC (fun h4 => ?_) (fun h4 => ?_)
    · have h4 := of_decide_eq_true h4
      rw [List.length_map, wr_i64 (by omega) (by omega)] at h4
      rw [if_pos (by rw [List.length_drop]; omega)] at i5
      rw [← i5]
      rfl
    have h4 := of_decide_eq_false h4
    rw [List.length_map, wr_i64 (by omega) (by omega)] at h4
    rw [if_neg (by rw [List.length_drop]; omega)] at i5
    have hrd2 := hrd (by rw [List.length_drop]; omega)
    clear hrd
    have hw8 : k ≠ 6 → (widK k).toNat ≤ 8 := widK_le8
    have hw6 : k = 6 → (widK k).toNat = 32 := fun e => by subst e; rfl
    have hr6 : k = 6 → rdF k (b.drop s.2.2) = ⟨6, 0, (b.drop s.2.2).take 32⟩ := fun e => by unfold rdF; rw [if_pos e]
    have hr5 : k ≠ 6 → rdF k (b.drop s.2.2) = ⟨k, numB ((b.drop s.2.2).take (widK k).toNat), zd⟩ := fun e => by unfold rdF; rw [if_neg e]
    generalize hW : (widK k).toNat = w at *
    have haw : IntKind.i64.wrap ((s.2.2 : Int) + w) = ((s.2.2 + w : Nat) : Int) := by
      rw [wr_i64 (by omega) (by omega)]
      simp
    conv => whnf
    conv => arg 2; repeat (first | rw [hg] | (whnf; arg 2))
    conv => whnf
    conv => arg 2; repeat (first | rw [hg] | (whnf; arg 2))
    conv => whnf
    refine iteC (fun h5 => ?_) (fun h5 => ?_)
    · have h5 : k = 6 := by simpa using h5
      have hr : rdF k (b.drop s.2.2) = ⟨6, 0, (b.drop s.2.2).take 32 ++ zd.drop 32⟩ := by
        rw [hr6 h5]
        simp
      rw [hr] at i5 hrd2
      have hw := hw6 h5
      subst h5 hw
      conv => whnf
      refine LoopJ.intro (I := []) (base' := 0) hX hm (by kernel_rfl) (σ := Nat) (fun j => [(0, bvs ks), (1, bvs b), (8, .own 1000), (9, .p (.i .i64 s.2.2)), (10, .p (.i .i64 s.1)), (11, .p (.i .i64 32)), (12, .ptr 96 []), (13, .p (.i .i64 j))])
        (fun j => [(96, .var (.p (fv ⟨6, 0, (b.drop s.2.2).take j ++ zd.drop j⟩))), (1000, .els true fsh (s.2.1.map fv))]) (fun j => j ≤ 32) (fun j => 32 - j) 0 []
        (Nat.zero_le _) ⟨nofun, rfl, ⟨rfl, rfl, rfl, rfl, rfl, rfl, rfl, rfl, rfl, rfl, rfl, rfl, rfl, rfl, rfl, rfl, trivial⟩, ⟨rfl, rfl, rfl, rfl, trivial⟩⟩ ?_
      intro j hj
      conv => whnf
      refine iteC (fun h6 => ?_) (fun h6 => ?_)
      · have h6 := of_decide_eq_true h6
        have hj32 : j < 32 := by omega
        have hjb : s.2.2 + j < b.length := by omega
        have haj : IntKind.i64.wrap ((s.2.2 : Int) + j) = ((s.2.2 + j : Nat) : Int) := by
          rw [wr_i64 (by omega) (by omega)]
          simp
        have hg2 : getI (bv b) (IntKind.i64.wrap ((s.2.2 : Int) + j)) = some (.i .u8 b[s.2.2 + j]) := by
          rw [haj]
          exact getM (f := PV.i .u8) hjb
        have hlA : ((b.drop s.2.2).take j ++ zd.drop j).length = 32 := by simp; omega
        have hst := setD_step (d := zd) (b := b.drop s.2.2) (j := j) (by simp) hj32 (by simp; omega)
        rw [List.getElem_drop] at hst
        generalize hA : (b.drop s.2.2).take j ++ zd.drop j = A at *
        have hjA : j < A.length := by omega
        have hgA := getM (f := PV.i .u8) hjA
        have hnA := nthM (f := PV.i .u8) hjA
        conv => whnf
        conv => arg 2; repeat (first | rw [hg2] | (whnf; arg 2))
        conv => whnf
        iterate 3
          conv => arg 2; repeat (first | rw [hgA] | rw [hnA] | (whnf; arg 2))
          conv => whnf
        refine ⟨j + 1, [], by omega, by dsimp only; omega, nofun, rfl, ⟨rfl, rfl, rfl, rfl, rfl, rfl, rfl, rfl, rfl, rfl, rfl, rfl, rfl, rfl, incN (by omega), rfl, trivial⟩, ⟨?_, rfl, rfl, rfl, trivial⟩⟩
        have hst' : (bv A).set (j : Int).toNat (.i .u8 b[s.2.2 + j]) = bv ((b.drop s.2.2).take (j + 1) ++ zd.drop (j + 1)) := hst
        show some (Blk.var (.p (.st [.i .u8 6, .i .u64 0, .arr 32 ush ((bv A).set (j : Int).toNat (.i .u8 b[s.2.2 + j]))]))) = _
        rw [hst']
        rfl
      · have h6 := of_decide_eq_false h6
        have hj32 : j = 32 := by omega
        subst hj32
        have c2 := f23_ok _ hrd2
        conv => whnf
        refine ⟨_, c2, ?_⟩
        conv => whnf
        generalize hF : (⟨6, 0, (b.drop s.2.2).take 32 ++ zd.drop 32⟩ : Fd) = F at *
        refine iteC (fun h7 => ?_) (fun h7 => ?_)
        · rw [if_pos (bad_of h7)] at i5
          rw [← i5]
          rfl
        rw [if_neg (bad_not h7)] at i5
        subst hF
        conv => whnf
        conv => arg 2; repeat (first | rw [capN _ (by simp; omega)] | (whnf; arg 2))
        conv => whnf
        refine ⟨(s.1 + 1, s.2.1 ++ [⟨6, 0, (b.drop s.2.2).take 32 ++ zd.drop 32⟩], s.2.2 + 32), [(1000, 672)], ⟨by dsimp only; omega, by simp; omega, by dsimp only; omega, by rw [← i5, List.drop_drop]⟩, by dsimp only; omega, nofun, rfl, ⟨rfl, rfl, rfl, rfl, rfl, rfl, ?_, rfl, incN (by omega), rfl, trivial⟩, ⟨?_, rfl, trivial⟩⟩
        · exact congrArg (fun n => AV.p (.i .i64 n)) haw
        · rw [List.map_append]
          rfl
    · have h5 : k ≠ 6 := by simpa using h5
      have hr := hr5 h5
      rw [hr] at i5 hrd2
      have hw := hw8 h5
      have d2 : decide (0 ≤ (s.2.2 : Int)) = true := decide_eq_true (by omega)
      have d3 : decide ((s.2.2 : Int) ≤ IntKind.i64.wrap ((s.2.2 : Int) + w)) = true := decide_eq_true (by rw [haw]; omega)
      have d4 : decide (IntKind.i64.wrap ((s.2.2 : Int) + w) ≤ ((bv b).length : Int)) = true := decide_eq_true (by rw [haw, List.length_map]; omega)
      conv => whnf
      iterate 2
        conv => arg 2; repeat (first | rw [d2] | rw [d3] | rw [d4] | (whnf; arg 2))
        conv => whnf
      have esl : AV.ro ush (List.take ((IntKind.i64.wrap ((s.2.2 : Int) + w)).toNat - (s.2.2 : Int).toNat) (List.drop (s.2.2 : Int).toNat (bv b))) = bvs ((b.drop s.2.2).take w) := by
        rw [haw]
        have : ((s.2.2 + w : Nat) : Int).toNat - (s.2.2 : Int).toNat = w := by omega
        rw [this]
        simp
      have c3 := f72_ok ((b.drop s.2.2).take w) (by simp; omega)
      rw [← esl] at c3
      refine ⟨_, c3, ?_⟩
      conv => whnf
      have c2 := f23_ok _ hrd2
      refine ⟨_, c2, ?_⟩
      conv => whnf
      generalize hF : (⟨k, numB ((b.drop s.2.2).take w), zd⟩ : Fd) = F at *
      refine iteC (fun h7 => ?_) (fun h7 => ?_)
      · rw [if_pos (bad_of h7)] at i5
        rw [← i5]
        rfl
      rw [if_neg (bad_not h7)] at i5
      subst hF
      conv => whnf
      conv => arg 2; repeat (first | rw [capN _ (by simp; omega)] | (whnf; arg 2))
      conv => whnf
      refine ⟨(s.1 + 1, s.2.1 ++ [⟨k, numB ((b.drop s.2.2).take w), zd⟩], s.2.2 + w), [(1000, 672)], ⟨by dsimp only; omega, by simp; omega, by dsimp only; omega, by rw [← i5, List.drop_drop]⟩, by dsimp only; omega, nofun, rfl, ⟨rfl, rfl, rfl, rfl, rfl, rfl, ?_, rfl, incN (by omega), rfl, trivial⟩, ⟨?_, rfl, trivial⟩⟩
      · exact congrArg (fun n => AV.p (.i .i64 n)) haw
      · rw [List.map_append]
        rfl
  · have h3 := of_decide_eq_false h3
    rw [List.length_map] at h3
    have he : s.1 = ks.length := by omega
    rw [he, List.drop_length] at i5
    unfold goF at i5
    rw [← i5]
    have d2 : decide (0 ≤ (s.2.2 : Int)) = true := decide_eq_true (by omega)
    have d3 : decide ((s.2.2 : Int) ≤ ((bv b).length : Int)) = true := decide_eq_true (by rw [List.length_map]; omega)
    conv => whnf
    conv => arg 2; repeat (first | rw [d2] | rw [d3] | (whnf; arg 2))
    conv => whnf
    conv => arg 2; repeat (first | rw [capN _ (by simp; omega)] | (whnf; arg 2))
    conv => whnf
    have esl : ([] : List PV) ++ List.take ((bv b).length - (s.2.2 : Int).toNat) (List.drop (s.2.2 : Int).toNat (bv b)) = bv (b.drop s.2.2) := by
      rw [List.take_of_length_le (by simp)]
      simp
    show some (AV.tup [.ro fsh (s.2.1.map fv), .ro ush (([] : List PV) ++ List.take ((bv b).length - (s.2.2 : Int).toNat) (List.drop (s.2.2 : Int).toNat (bv b))), .p (.i .i64 0)]) = _
    rw [esl]
end Go.Proofs.Ytjgffjofgeppoaa.AM
