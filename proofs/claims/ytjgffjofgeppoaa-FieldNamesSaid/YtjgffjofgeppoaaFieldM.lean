/- FieldNames: the walk of the law. -/
import Derived.Test.YtjgffjofgeppoaaFieldL
namespace Go.Proofs.Ytjgffjofgeppoaa.AM
open Go Go.Proofs
set_option maxRecDepth 100000
def d1F : List Int := 1 :: List.replicate 31 0
def badsF : List Fd := [numF 0 0, numF 8 0, numF 1 2, numF 2 256, numF 3 65536, numF 4 4294967296, numF 6 1, numF 7 1, ⟨5, 0, d1F⟩, ⟨7, 0, d1F⟩]
def fineF : List Fd := [numF 2 255, numF 3 65535, numF 4 4294967295, numF 5 18446744073709551615, ⟨6, 0, List.replicate 31 0 ++ [9]⟩, numF 7 0]
theorem ok_d {k n : Int} {d : List Int} (h1 : 0 ≤ k ∧ k < 256) (h2 : 0 ≤ n ∧ n < 18446744073709551616) (h3 : d.length = 32) (h4 : byt d) : (⟨k, n, d⟩ : Fd).ok := ⟨h1, h2, ⟨h3, h4⟩⟩
theorem badsF_ok : ∀ f ∈ badsF, f.ok := by
  intro f hf
  simp only [badsF, List.mem_cons, List.not_mem_nil, or_false] at hf
  rcases hf with rfl | rfl | rfl | rfl | rfl | rfl | rfl | rfl | rfl | rfl <;> exact ok_d (by decide) (by decide) rfl (byt_of rfl)
theorem badsF_bad : ∀ f ∈ badsF, badF f = true := by
  intro f hf
  simp only [badsF, List.mem_cons, List.not_mem_nil, or_false] at hf
  rcases hf with rfl | rfl | rfl | rfl | rfl | rfl | rfl | rfl | rfl | rfl <;> rfl
theorem fineF_ok : ∀ f ∈ fineF, f.ok := by
  intro f hf
  simp only [fineF, List.mem_cons, List.not_mem_nil, or_false] at hf
  rcases hf with rfl | rfl | rfl | rfl | rfl | rfl <;> exact ok_d (by decide) (by decide) rfl (byt_of rfl)
theorem w_ok (k w : Int) (hk : 0 ≤ k ∧ k < 256) (h : widK k = w) (hw : w ≠ 0) : Fn Try.prog X.G 24 [.p (.i .u8 k)] (.tup [.p (.i .i64 w), .p (.i .i64 0)]) := by
  have c := f24_ok k hk.1 hk.2
  rw [h, if_neg hw] at c
  exact c
theorem w_no (k : Int) (hk : 0 ≤ k ∧ k < 256) (h : widK k = 0) : Fn Try.prog X.G 24 [.p (.i .u8 k)] (.tup [.p (.i .i64 0), .p (.i .i64 2)]) := by
  have c := f24_ok k hk.1 hk.2
  rw [h, if_pos rfl] at c
  exact c
theorem one_bad {f : Fd} (h : badF f = true) : rowE [f] = 8 ∧ rowL [f] = [] := by
  have e : rowE [f] = 8 := by simp [rowE, h]
  exact ⟨e, by unfold rowL; rw [e, if_pos (by decide)]⟩
set_option maxHeartbeats 1000000 in
theorem f9_ok : Fn Try.prog X.G 9 [] (.p (.b true)) := by
  refine Fn.intro (I := []) hX hm 0 Try.func9 rfl rfl (by kernel_rfl) rfl ?_
  conv => whnf
  repeat (first
    | (refine iteT rfl ?_; conv => whnf)
    | (refine iteF rfl ?_; conv => whnf)
    | (refine LoopJ.unroll (I := []) (base' := 0) hX hm (by kernel_rfl) ?_; conv => whnf)
    | (refine ⟨_, w_ok 1 1 (by decide) rfl (by decide), ?_⟩; conv => whnf)
    | (refine ⟨_, w_ok 2 1 (by decide) rfl (by decide), ?_⟩; conv => whnf)
    | (refine ⟨_, w_ok 3 2 (by decide) rfl (by decide), ?_⟩; conv => whnf)
    | (refine ⟨_, w_ok 4 4 (by decide) rfl (by decide), ?_⟩; conv => whnf)
    | (refine ⟨_, w_ok 5 8 (by decide) rfl (by decide), ?_⟩; conv => whnf)
    | (refine ⟨_, w_ok 6 32 (by decide) rfl (by decide), ?_⟩; conv => whnf)
    | (refine ⟨_, w_ok 7 1 (by decide) rfl (by decide), ?_⟩; conv => whnf))
  refine ⟨_, w_no 0 (by decide) rfl, ?_⟩
  conv => whnf
  refine ⟨_, w_no 8 (by decide) rfl, ?_⟩
  conv => whnf
  refine ⟨_, w_no 255 (by decide) rfl, ?_⟩
  conv => whnf
  refine ⟨_, f45_ok 1 2, ?_⟩
  conv => whnf
  refine ⟨_, f45_ok 2 256, ?_⟩
  conv => whnf
  refine ⟨_, f45_ok 3 65536, ?_⟩
  conv => whnf
  refine ⟨_, f45_ok 4 4294967296, ?_⟩
  conv => whnf
  refine ⟨_, f45_ok 6 1, ?_⟩
  conv => whnf
  refine ⟨_, f45_ok 7 1, ?_⟩
  conv => whnf
  refine LoopJ.intro (I := []) (base' := 0) hX hm (by kernel_rfl) (σ := Nat) (fun i => [(6, .p (.i .i64 2)), (8, .p (.i .i64 2)), (10, .p (.i .i64 2)), (11, .own 752), (12, .p (.i .i64 i))]) (fun _ => [(752, .els true fsh (badsF.map fv))]) (fun i => i ≤ 10) (fun i => 10 - i) 0 []
    (Nat.zero_le _) ⟨nofun, rfl, ⟨rfl, rfl, rfl, rfl, rfl, rfl, rfl, rfl, rfl, rfl, trivial⟩, ⟨rfl, rfl, trivial⟩⟩ ?_
  intro i hi
  conv => whnf
  refine iteC (fun h1 => ?_) (fun h1 => ?_)
  · have h1 := of_decide_eq_true h1
    have hi10 : i < 10 := by
      rw [List.length_map] at h1
      have : badsF.length = 10 := rfl
      omega
    have e1 : IntKind.i64.wrap ((i : Int) + 1) = ((i + 1 : Nat) : Int) := by rw [wr_i64 (by omega) (by omega)]; simp
    have hlen : (badsF.map fv).length = 10 := rfl
    have hlt : i < badsF.length := hi10
    have d2 : decide (0 ≤ (i : Int)) = true := decide_eq_true (by omega)
    have d3 : decide ((i : Int) ≤ IntKind.i64.wrap ((i : Int) + 1)) = true := decide_eq_true (by rw [e1]; omega)
    have d4 : decide (IntKind.i64.wrap ((i : Int) + 1) ≤ ((badsF.map fv).length : Int)) = true := decide_eq_true (by rw [e1, hlen]; omega)
    have e8 : List.take ((IntKind.i64.wrap ((i : Int) + 1)).toNat - (i : Int).toNat) (List.drop (i : Int).toNat (badsF.map fv)) = [badsF[i]].map fv := by
      rw [e1, show ((i + 1 : Nat) : Int).toNat - (i : Int).toNat = 1 by omega, show (i : Int).toNat = i by omega, ← List.map_drop, List.drop_eq_getElem_cons hlt]
      rfl
    have hb := badsF_bad _ (List.getElem_mem hlt)
    have ho := badsF_ok _ (List.getElem_mem hlt)
    have ga := getM (f := fv) hlt
    have na := nthM (f := fv) hlt
    have c1 := f28_ok [badsF[i]] (fun f hf => by simp at hf; subst hf; exact ho) (by simp)
    have c2 := f26_ok [badsF[i]] (fun f hf => by simp at hf; subst hf; exact ho) (by simp)
    have c3 := f22_ok _ ho
    rw [show chkF badsF[i] = 8 from by unfold chkF; rw [if_pos hb]] at c3
    rw [(one_bad hb).1, (one_bad hb).2] at c1 c2
    unfold fvs at c1 c2
    rw [← e8] at c1 c2
    conv => whnf
    iterate 2
      conv => arg 2; repeat (first | rw [d2] | rw [d3] | rw [d4] | (whnf; arg 2))
      conv => whnf
    refine ⟨_, c1, ?_⟩
    conv => whnf
    iterate 2
      conv => arg 2; repeat (first | rw [d2] | rw [d3] | rw [d4] | (whnf; arg 2))
      conv => whnf
    refine ⟨_, c2, ?_⟩
    conv => whnf
    iterate 2
      conv => arg 2; repeat (first | rw [ga] | rw [na] | (whnf; arg 2))
      conv => whnf
    refine ⟨_, c3, ?_⟩
    conv => whnf
    refine iteF rfl ?_
    conv => whnf
    refine iteF rfl ?_
    conv => whnf
    refine iteF rfl ?_
    conv => whnf
    exact ⟨i + 1, [], by omega, by dsimp only; omega, nofun, rfl, ⟨rfl, rfl, rfl, rfl, rfl, rfl, rfl, rfl, incN (by omega), rfl, trivial⟩, ⟨rfl, rfl, trivial⟩⟩
  clear h1 hi
  have c1 := f26_ok fineF fineF_ok (by decide)
  rw [show ((rowL fineF).length : Int) = 48 from by rfl, show rowE fineF = 0 from by rfl] at c1
  have c2 := f28_ok (List.replicate 41 (numF 0 0)) (fun f hf => by rw [List.eq_of_mem_replicate hf]; exact numF_ok (by decide) (by decide)) (by decide)
  rw [show rowL (List.replicate 41 (numF 0 0)) = [] from by rfl, show rowE (List.replicate 41 (numF 0 0)) = 4 from by rfl] at c2
  have c3 := Fn.nil1 (t := .one) (f28_ok [] (by simp) (by decide))
  rw [show rowL [] = [] from by rfl, show rowE [] = 0 from by rfl] at c3
  conv => whnf
  refine ⟨_, f45_ok 2 255, ?_⟩
  conv => whnf
  refine ⟨_, f45_ok 3 65535, ?_⟩
  conv => whnf
  refine ⟨_, f45_ok 4 4294967295, ?_⟩
  conv => whnf
  refine ⟨_, f45_ok 5 18446744073709551615, ?_⟩
  conv => whnf
  refine ⟨_, c1, ?_⟩
  conv => whnf
  refine ⟨_, c2, ?_⟩
  conv => whnf
  refine ⟨_, c3, ?_⟩
  conv => whnf
  refine LoopJ.nil 24 1000 ush rfl rfl ?_
  refine LoopJ.intro (I := []) (base' := 0) hX hm (by kernel_rfl) (σ := Nat) (fun i => [(6, .p (.i .i64 2)), (8, .p (.i .i64 2)), (10, .p (.i .i64 2)), (18, .p (.i .i64 48)), (19, .p (.i .i64 0)), (21, .p (.i .i64 4)), (22, .own 1216), (23, .p (.i .i64 0)), (24, .own 1000), (25, .p (.i .i64 i))])
    (fun i => [(1000, .els true ush (bv (List.replicate i 7))), (1216, .els true ush (bv []))]) (fun i => i ≤ 41) (fun i => 41 - i) 0 []
    (Nat.zero_le _) ⟨nofun, rfl, ⟨rfl, rfl, rfl, rfl, rfl, rfl, rfl, rfl, rfl, rfl, rfl, rfl, rfl, rfl, rfl, rfl, rfl, rfl, rfl, rfl, trivial⟩, ⟨rfl, rfl, rfl, rfl, trivial⟩⟩ ?_
  intro i hi
  conv => whnf
  refine iteC (fun h1 => ?_) (fun h1 => ?_)
  · have h1 := of_decide_eq_true h1
    conv => whnf
    conv => arg 2; repeat (first | rw [capN _ (by simp; omega)] | (whnf; arg 2))
    conv => whnf
    refine ⟨i + 1, [(1000, 1288)], by omega, by dsimp only; omega, nofun, rfl, ⟨rfl, rfl, rfl, rfl, rfl, rfl, rfl, rfl, rfl, rfl, rfl, rfl, rfl, rfl, rfl, rfl, rfl, rfl, incN (by omega), rfl, trivial⟩, ⟨?_, rfl, rfl, rfl, trivial⟩⟩
    show some (Blk.els true ush (bv (List.replicate i 7) ++ [.i .u8 7])) = some (Blk.els true ush (bv (List.replicate (i + 1) 7)))
    rw [show List.replicate (i + 1) (7 : Int) = List.replicate i 7 ++ [7] from List.replicate_succ', bv_snoc]
  have h1 := of_decide_eq_false h1
  have hi41 : i = 41 := by omega
  subst hi41
  have b0 : ∀ (n : Nat) (x : Int), 0 ≤ x ∧ x < 256 → byt (List.replicate n x) := fun n x hx y hy => by rw [List.eq_of_mem_replicate hy]; exact hx
  have r1 := Fn.nil2 (t := .one) (f31_ok (List.replicate 41 7) [] (b0 41 7 (by decide)) (by intro x hx; cases hx) (by decide) (by decide))
  rw [show readL (List.replicate 41 7) [] = ([], 4) from by rfl] at r1
  have r2 := f31_ok (List.replicate 40 7) (List.replicate 39 0) (b0 40 7 (by decide)) (b0 39 0 (by decide)) (by decide) (by decide)
  rw [show readL (List.replicate 40 7) (List.replicate 39 0) = ([], 12) from by rfl] at r2
  have r3 := f31_ok (List.replicate 40 7) (List.replicate 40 0) (b0 40 7 (by decide)) (b0 40 0 (by decide)) (by decide) (by decide)
  rw [show readL (List.replicate 40 7) (List.replicate 40 0) = (List.replicate 40 (numF 7 0), 0) from by rfl] at r3
  have r4 := Fn.nil2 (t := .one) (f31_ok [0] [] (byt_of rfl) (by intro x hx; cases hx) (by decide) (by decide))
  rw [show readL [0] [] = ([], 2) from by rfl] at r4
  have r5 := Fn.nil2 (t := .one) (f31_ok [7, 8] [] (byt_of rfl) (by intro x hx; cases hx) (by decide) (by decide))
  rw [show readL [7, 8] [] = ([], 2) from by rfl] at r5
  have r6 := Fn.nil1 (t := .one) (f31_ok [] [0] (by intro x hx; cases hx) (byt_of rfl) (by decide) (by decide))
  rw [show readL [] [0] = ([], 12) from by rfl] at r6
  have r7 := Fn.nil2 (t := .one) (Fn.nil1 (t := .one) (f31_ok [] [] (by intro x hx; cases hx) (by intro x hx; cases hx) (by decide) (by decide)))
  rw [show readL [] [] = ([], 0) from by rfl] at r7
  have r8 := f33_ok [2] [1, 2, 3] (byt_of rfl) (byt_of rfl) (by decide) (by decide)
  rw [show frstL [2] [1, 2, 3] = ([numF 2 1], [2, 3], 0) from by rfl] at r8
  have r9 := f33_ok [5] (List.replicate 7 0) (byt_of rfl) (b0 7 0 (by decide)) (by decide) (by decide)
  rw [show frstL [5] (List.replicate 7 0) = ([], [], 12) from by rfl] at r9
  have r10 := f30_ok [2, 3] [2, 3] (by decide)
  rw [decide_eq_true rfl] at r10
  dsimp only at r1 r2 r3 r4 r5 r6 r7 r8 r9
  conv => whnf
  refine ⟨_, r1, ?_⟩
  conv => whnf
  refine ⟨_, r2, ?_⟩
  conv => whnf
  refine ⟨_, r3, ?_⟩
  conv => whnf
  refine ⟨_, r4, ?_⟩
  conv => whnf
  refine ⟨_, r5, ?_⟩
  conv => whnf
  refine ⟨_, r6, ?_⟩
  conv => whnf
  refine ⟨_, r7, ?_⟩
  conv => whnf
  refine ⟨_, r8, ?_⟩
  conv => whnf
  refine ⟨_, r9, ?_⟩
  conv => whnf
  repeat (first
    | (refine iteT rfl ?_; conv => whnf)
    | (refine ⟨_, r10, ?_⟩; conv => whnf)
    | (refine ⟨_, f37_ok, ?_⟩; conv => whnf))
  rfl
end Go.Proofs.Ytjgffjofgeppoaa.AM
