/- Ported by name: FieldF. -/
import Derived.Test.YtkcnchlahhlkfaaDoorpFieldE
namespace Go.Proofs.YtkcnchlahhlkfaaDoor.AM
open Go Go.Proofs
set_option maxRecDepth 100000
theorem widK_nat (k : Int) : widK k = ((widK k).toNat : Int) := by
  unfold widK
  repeat' split
  all_goals rfl
theorem slice_tail (b : List Int) (w : Nat) : AV.ro ush (List.take ((bv b).length - (w : Int).toNat) (List.drop (w : Int).toNat (bv b))) = bvs (b.drop w) := by
  rw [List.take_of_length_le (by simp)]
  simp
theorem slice_head (b : List Int) (w : Nat) : AV.ro ush (List.take (w : Int).toNat (List.drop 0 (bv b))) = bvs (b.take w) := by
  simp
theorem slice_hlen {b : List Int} {w : Nat} (h : w ≤ b.length) : AV.p (.i .i64 ((List.take (w : Int).toNat (List.drop 0 (bv b))).length : Nat)) = .p (.i .i64 w) := by
  simp [h]
abbrev FS := Nat × List Fd × List Int
theorem f105_ok (ks b : List Int) (hk : byt ks) (hb : byt b) (hbl : b.length ≤ 100000) (hkl : ks.length < 9223372036854775807) :
    Fn Tryd.prog X.G 105 [bvs ks, bvs b] (.tup [fvs (frstL ks b).1, bvs (frstL ks b).2.1, .p (.i .i64 (frstL ks b).2.2)]) := by
  refine Fn.intro (I := []) hX hm 0 Tryd.func105 rfl rfl (by kernel_rfl) rfl ?_
  conv => whnf
  refine iteC (fun h => ?_) (fun h => ?_)
  · have h := of_decide_eq_true h
    rw [List.length_map] at h
    rw [show frstL ks b = ([], [], 4) from by unfold frstL; rw [if_pos (by omega)]]
    rfl
  have h := of_decide_eq_false h
  rw [List.length_map] at h
  conv => whnf
  refine ⟨_, f127_ok (fun k => widK k == 0) ks 128 hkl fun k hkk => f128_ok k (hk k hkk).1 (hk k hkk).2, ?_⟩
  conv => whnf
  refine iteC (fun h2 => ?_) (fun h2 => ?_)
  · rw [show frstL ks b = ([], [], 2) from by unfold frstL; rw [if_neg (by omega), if_pos h2]]
    rfl
  have htar : goF (ks.drop 0) b [] = frstL ks b := by unfold frstL; rw [if_neg (by omega), if_neg (by simp [h2])]; rfl
  generalize frstL ks b = T at *
  conv => whnf
  refine LoopJ.nil 7 1000 fsh rfl rfl ?_
  refine LoopJ.intro (I := []) (base' := 0) hX hm (by kernel_rfl) (σ := FS) (fun s => [(1, bvs s.2.2), (7, .own 1000), (19, bvs ks), (20, .p (.i .i64 ks.length)), (21, .p (.i .i64 s.1))]) (fun s => [(1000, .els true fsh (s.2.1.map fv))])
    (fun s => s.1 ≤ ks.length ∧ s.2.1.length = s.1 ∧ s.2.2.length ≤ b.length ∧ byt s.2.2 ∧ goF (ks.drop s.1) s.2.2 s.2.1 = T) (fun s => ks.length - s.1) (0, [], b) []
    ⟨Nat.zero_le _, rfl, Nat.le_refl _, hb, htar⟩ ⟨nofun, rfl, ⟨rfl, rfl, rfl, rfl, rfl, rfl, ?_, rfl, rfl, rfl, trivial⟩, ⟨rfl, rfl, trivial⟩⟩ ?_
  · show AV.p (.i .i64 ((bv ks).length : Int)) = .p (.i .i64 ks.length)
    rw [List.length_map]
  intro s hs
  obtain ⟨i1, i2, i3, i4, i5⟩ := hs
  conv => whnf
  refine iteC (fun h3 => ?_) (fun h3 => ?_)
  · have h3 := of_decide_eq_true h3
    have hlt : s.1 < ks.length := by omega
    have hg := getM (f := PV.i .u8) hlt
    rw [List.drop_eq_getElem_cons hlt] at i5
    have hkk := hk _ (List.getElem_mem hlt)
    have c1 := f102_ok ks[s.1] hkk.1 hkk.2
    generalize ks[s.1] = k at *
    have hwn := widK_nat k
    have hwl := widK_le k
    have hrd := rdF_ok hkk i4
    unfold goF at i5
    rw [hwn] at c1
    conv => whnf
    conv => arg 2; repeat (first | rw [hg] | (whnf; arg 2))
    conv => whnf
    refine ⟨_, c1, ?_⟩
    conv => whnf
    refine iteC (fun h4 => ?_) (fun h4 => ?_)
    · have h4 := of_decide_eq_true h4
      rw [List.length_map] at h4
      rw [if_pos (by omega)] at i5
      rw [← i5]
      rfl
    have h4 := of_decide_eq_false h4
    rw [List.length_map] at h4
    rw [if_neg (by omega)] at i5
    have hrd2 := hrd (by omega)
    clear hrd
    have hw8 : k ≠ 6 → (widK k).toNat ≤ 8 := widK_le8
    have hw6 : k = 6 → (widK k).toNat = 32 := fun e => by subst e; rfl
    have hr6 : k = 6 → rdF k s.2.2 = ⟨6, 0, s.2.2.take 32⟩ := fun e => by unfold rdF; rw [if_pos e]
    have hr5 : k ≠ 6 → rdF k s.2.2 = ⟨k, numB (s.2.2.take (widK k).toNat), zd⟩ := fun e => by unfold rdF; rw [if_neg e]
    generalize hW : (widK k).toNat = w at *
    have d0 : decide (0 ≤ (w : Int)) = true := decide_eq_true (by omega)
    have d1 : decide ((w : Int) ≤ ((bv s.2.2).length : Int)) = true := decide_eq_true (by rw [List.length_map]; omega)
    conv => whnf
    refine iteC (fun h5 => ?_) (fun h5 => ?_)
    · have h5 : k = 6 := by simpa using h5
      have hr := hr6 h5
      rw [hr] at i5 hrd2
      have hw := hw6 h5
      subst h5 hw
      have ec : copyL (List.replicate 32 (PV.i .u8 0)) 0 32 (bv s.2.2) = bv (s.2.2.take 32) := by
        unfold copyL
        rw [List.drop_eq_nil_of_le (by simp; omega)]
        simp
      have c2 : Fn Tryd.prog X.G 101 [.p (.st [.i .u8 6, .i .u64 0, .arr 32 ush (copyL (List.replicate 32 (PV.i .u8 0)) 0 32 (bv s.2.2))])] (.p (.i .i64 (chkF ⟨6, 0, s.2.2.take 32⟩))) := by
        rw [ec]
        exact f101_ok _ hrd2
      conv => whnf
      refine ⟨_, c2, ?_⟩
      conv => whnf
      refine iteC (fun h6 => ?_) (fun h6 => ?_)
      · have h6 : badF ⟨6, 0, s.2.2.take 32⟩ = true := by
          unfold chkF at h6
          by_cases hb : badF ⟨6, 0, s.2.2.take 32⟩ = true
          · exact hb
          · rw [if_neg hb] at h6; simp at h6
        rw [if_pos h6] at i5
        rw [← i5]
        rfl
      have h6 : ¬ badF ⟨6, 0, s.2.2.take 32⟩ = true := by
        unfold chkF at h6
        intro hb
        rw [if_pos hb] at h6; simp at h6
      rw [if_neg h6] at i5
      conv => whnf
      conv => arg 2; repeat (first | rw [capN _ (by simp; omega)] | (whnf; arg 2))
      conv => whnf
      conv => arg 2; repeat (first | rw [d0] | rw [d1] | (whnf; arg 2))
      conv => whnf
      refine ⟨(s.1 + 1, s.2.1 ++ [⟨6, 0, s.2.2.take 32⟩], s.2.2.drop 32), [(1000, 488)], ⟨by dsimp only; omega, by simp; omega, by simp; omega, fun x hx => i4 x (List.mem_of_mem_drop hx), i5⟩, by dsimp only; omega, nofun, rfl, ⟨?_, rfl, rfl, rfl, rfl, rfl, rfl, rfl, incN (by omega), rfl, trivial⟩, ⟨?_, rfl, trivial⟩⟩
      · exact slice_tail s.2.2 32
      · rw [List.map_append]
        show some (Blk.els true fsh (List.map fv s.2.1 ++ [PV.st [.i .u8 6, .i .u64 0, .arr 32 ush (copyL (List.replicate 32 (PV.i .u8 0)) 0 32 (bv s.2.2))]])) = _
        rw [ec]
        rfl
    · have h5 : k ≠ 6 := by simpa using h5
      have hr := hr5 h5
      rw [hr] at i5 hrd2
      have hw := hw8 h5
      conv => whnf
      conv => arg 2; repeat (first | rw [d0] | rw [d1] | (whnf; arg 2))
      conv => whnf
      refine LoopJ.intro (I := []) (base' := 0) hX hm (by kernel_rfl) (σ := Nat) (fun j => [(1, bvs s.2.2), (7, .own 1000), (10, .p (.i .i64 w)), (11, .ptr 88 []), (19, bvs ks), (20, .p (.i .i64 ks.length)), (21, .p (.i .i64 s.1)), (41, bvs (s.2.2.take w)), (42, .p (.i .i64 w)), (43, .p (.i .i64 j))])
        (fun j => [(88, .var (.p (fv ⟨k, numB ((s.2.2.take w).take j), zd⟩))), (1000, .els true fsh (s.2.1.map fv))]) (fun j => j ≤ w) (fun j => w - j) 0 []
        (Nat.zero_le _) ⟨nofun, rfl, ⟨rfl, rfl, rfl, rfl, rfl, rfl, rfl, rfl, rfl, rfl, rfl, rfl, rfl, rfl, ?_, rfl, ?_, rfl, rfl, rfl, trivial⟩, ⟨rfl, rfl, rfl, rfl, trivial⟩⟩ ?_
      · exact slice_head s.2.2 w
      · exact slice_hlen (by omega)
      intro j hj
      conv => whnf
      refine iteC (fun h6 => ?_) (fun h6 => ?_)
      · have h6 := of_decide_eq_true h6
        have hjw : j < w := by omega
        have hjt : j < (s.2.2.take w).length := by rw [List.length_take]; omega
        have hgj := getM (f := PV.i .u8) hjt
        have hby := i4 _ (List.mem_of_mem_take (List.getElem_mem hjt))
        have hstp := or_step (numB_range ((s.2.2.take w).take j)).1 hby.1 hby.2
        rw [← numB_step hjt] at hstp
        conv => whnf
        conv => arg 2; repeat (first | rw [hgj] | (whnf; arg 2))
        conv => whnf
        refine ⟨j + 1, [], by omega, by dsimp only; omega, nofun, rfl, ⟨rfl, rfl, rfl, rfl, rfl, rfl, rfl, rfl, rfl, rfl, rfl, rfl, rfl, rfl, rfl, rfl, rfl, rfl, incN (by omega), rfl, trivial⟩, ⟨?_, rfl, rfl, rfl, trivial⟩⟩
        rw [← hstp]
        rfl
      · have h6 := of_decide_eq_false h6
        have htk : (s.2.2.take w).take j = s.2.2.take w := List.take_of_length_le (by rw [List.length_take]; omega)
        rw [htk]
        have c2 := f101_ok _ hrd2
        conv => whnf
        refine ⟨_, c2, ?_⟩
        conv => whnf
        generalize hF : (⟨k, numB (s.2.2.take w), zd⟩ : Fd) = F at *
        refine iteC (fun h7 => ?_) (fun h7 => ?_)
        · have h7 : badF F = true := by
            unfold chkF at h7
            by_cases hb : badF F = true
            · exact hb
            · rw [if_neg hb] at h7; simp at h7
          rw [if_pos h7] at i5
          rw [← i5]
          rfl
        have h7 : ¬ badF F = true := by
          unfold chkF at h7
          intro hb
          rw [if_pos hb] at h7; simp at h7
        rw [if_neg h7] at i5
        subst hF
        conv => whnf
        conv => arg 2; repeat (first | rw [capN _ (by simp; omega)] | (whnf; arg 2))
        conv => whnf
        conv => arg 2; repeat (first | rw [d0] | rw [d1] | (whnf; arg 2))
        conv => whnf
        refine ⟨(s.1 + 1, s.2.1 ++ [⟨k, numB (s.2.2.take w), zd⟩], s.2.2.drop w), [(1000, 488)], ⟨by dsimp only; omega, by simp; omega, by simp; omega, fun x hx => i4 x (List.mem_of_mem_drop hx), i5⟩, by dsimp only; omega, nofun, rfl, ⟨?_, rfl, rfl, rfl, rfl, rfl, rfl, rfl, incN (by omega), rfl, trivial⟩, ⟨?_, rfl, trivial⟩⟩
        · exact slice_tail s.2.2 w
        · rw [List.map_append]
          rfl
  · have h3 := of_decide_eq_false h3
    have he : s.1 = ks.length := by omega
    rw [he, List.drop_length] at i5
    unfold goF at i5
    rw [← i5]
    conv => whnf
    refine ⟨_, f85_ok s.2.2 (by omega), ?_⟩
    conv => whnf
    rfl
end Go.Proofs.YtkcnchlahhlkfaaDoor.AM
