/- TokenReads: the walk of the law. -/
import Derived.Test.YtjgffjofgeppoaaTokA
namespace Go.Proofs.Ytjgffjofgeppoaa.AM
open Go Go.Proofs
set_option maxRecDepth 100000
theorem f86_ok (b : List Int) (hb : b.length ≤ 100000) : Fn Try.prog X.G 86 [bvs b] (bvs b) := by
  refine Fn.intro (I := []) hX hm 0 Try.func86 rfl rfl (by kernel_rfl) rfl ?_
  conv => whnf
  intro y hy
  cases y with
  | true =>
    have hy := hy rfl
    have : b = [] := by simpa using hy
    subst this
    conv => whnf
    refine iteT rfl ?_
    rfl
  | false =>
    conv => whnf
    refine iteF rfl ?_
    conv => whnf
    conv => arg 2; repeat (first | rw [capN _ (by simp; omega)] | (whnf; arg 2))
    conv => whnf
    rfl
def t0T : Tk := ⟨0, 0, 0, 0, zd⟩
def readT_ (b : List Int) : Tk × Int := if b.length = 52 then (rdT b, 0) else (t0T, 12)
theorem rdT_w {b : List Int} (hb : byt b) (hl : b.length = 52) : (⟨IntKind.u32.wrap (rdT b).t, IntKind.u32.wrap (rdT b).u, IntKind.u32.wrap (rdT b).e, (rdT b).x, (rdT b).d⟩ : Tk) = rdT b := by
  have ho := rdT_ok hb hl
  rw [wr_u32 ho.t.1 ho.t.2, wr_u32 ho.u.1 ho.u.2, wr_u32 ho.e.1 ho.e.2]
theorem f46_ok (b : List Int) (hb : byt b) (hl : b.length ≤ 100000) : Fn Try.prog X.G 46 [bvs b] (.tup [.p (tkv (readT_ b).1), .p (.i .i64 (readT_ b).2)]) := by
  refine Fn.intro (I := []) hX hm 0 Try.func46 rfl rfl (by kernel_rfl) rfl ?_
  have c1 := f86_ok b hl
  have c2 := f31_ok kindsT b (byt_of rfl) hb hl (by decide)
  conv => whnf
  refine ⟨_, c1, ?_⟩
  conv => whnf
  rcases readT hb with ⟨h1, h2⟩ | ⟨h1, h2⟩
  · rw [h2] at c2
    have hw := rdT_w hb h1
    rw [show readT_ b = (rdT b, 0) from by unfold readT_; rw [if_pos h1]]
    generalize rdT b = t at *
    refine ⟨_, c2, ?_⟩
    conv => whnf
    refine iteF rfl ?_
    conv => whnf
    exact congrArg (fun x => some (AV.tup [.p (tkv x), .p (.i .i64 0)])) hw
  · rw [show readT_ b = (t0T, 12) from by unfold readT_; rw [if_neg h1]]
    refine ⟨_, c2, ?_⟩
    conv => whnf
    refine iteT (by simpa using h2) ?_
    rfl
theorem f47_ok (b : List Int) (hb : byt b) : Fn Try.prog X.G 47 [bvs b] (.tup [.p (tkv (readT_ b).1), .p (.i .i64 (readT_ b).2)]) := by
  refine Fn.intro (I := []) hX hm 0 Try.func47 rfl rfl (by kernel_rfl) rfl ?_
  conv => whnf
  refine iteC (fun h => ?_) (fun h => ?_)
  · have h : b.length ≠ 52 := by
      intro e
      rw [List.length_map, e] at h
      simp at h
    rw [show readT_ b = (t0T, 12) from by unfold readT_; rw [if_neg h]]
    rfl
  have h : b.length = 52 := by
    rw [List.length_map] at h
    have h : (b.length : Int) = 52 := by simpa using h
    omega
  have hw := rdT_w hb h
  rw [show readT_ b = (rdT b, 0) from by unfold readT_; rw [if_pos h]]
  have sl : ∀ (lo n : Nat), List.take n (List.drop lo (bv b)) = bv ((b.drop lo).take n) := fun lo n => by simp
  have n1 := f72_ok ((b.drop 0).take 4) (by simp; omega)
  have n2 := f72_ok ((b.drop 4).take 4) (by simp; omega)
  have n3 := f72_ok ((b.drop 8).take 4) (by simp; omega)
  have n4 := f72_ok ((b.drop 12).take 8) (by simp; omega)
  unfold bvs at n1 n2 n3 n4
  rw [← sl] at n1 n2 n3 n4
  have d0 : ∀ n : Int, n ≤ 52 → decide (n ≤ ((bv b).length : Int)) = true := fun n hn => decide_eq_true (by rw [List.length_map, h]; omega)
  have d4 := d0 4 (by decide)
  have d8 := d0 8 (by decide)
  have d12 := d0 12 (by decide)
  have d20 := d0 20 (by decide)
  conv => whnf
  conv => arg 2; repeat (first | rw [d4] | (whnf; arg 2))
  conv => whnf
  refine ⟨_, n1, ?_⟩
  conv => whnf
  conv => arg 2; repeat (first | rw [d8] | (whnf; arg 2))
  conv => whnf
  refine ⟨_, n2, ?_⟩
  conv => whnf
  conv => arg 2; repeat (first | rw [d12] | (whnf; arg 2))
  conv => whnf
  refine ⟨_, n3, ?_⟩
  conv => whnf
  conv => arg 2; repeat (first | rw [d20] | (whnf; arg 2))
  conv => whnf
  refine ⟨_, n4, ?_⟩
  conv => whnf
  refine LoopJ.intro (I := []) (base' := 0) hX hm (by kernel_rfl) (σ := Nat) (fun j => [(0, bvs b), (2, .ptr 16 []), (4, .ptr 32 []), (5, .p (.i .i64 j))])
    (fun j => [(16, .var (.p (tkv t0T))), (32, .var (.p (tkv ⟨IntKind.u32.wrap (rdT b).t, IntKind.u32.wrap (rdT b).u, IntKind.u32.wrap (rdT b).e, (rdT b).x, (b.drop 20).take j ++ zd.drop j⟩)))]) (fun j => j ≤ 32) (fun j => 32 - j) 0 []
    (Nat.zero_le _) ⟨nofun, rfl, ⟨rfl, rfl, rfl, rfl, rfl, rfl, rfl, rfl, trivial⟩, ⟨rfl, rfl, rfl, rfl, trivial⟩⟩ ?_
  intro j hj
  conv => whnf
  refine iteC (fun h6 => ?_) (fun h6 => ?_)
  · have h6 := of_decide_eq_true h6
    have hj32 : j < 32 := by omega
    have hjb : 20 + j < b.length := by omega
    have haj : IntKind.i64.wrap (20 + (j : Int)) = ((20 + j : Nat) : Int) := by
      rw [wr_i64 (by omega) (by omega)]
      omega
    have hg2 : getI (bv b) (IntKind.i64.wrap (20 + (j : Int))) = some (.i .u8 b[20 + j]) := by
      rw [haj]
      exact getM (f := PV.i .u8) hjb
    have hlA : ((b.drop 20).take j ++ zd.drop j).length = 32 := by simp; omega
    have hst := setD_step (d := zd) (b := b.drop 20) (j := j) (by simp) hj32 (by simp; omega)
    rw [List.getElem_drop] at hst
    generalize hA : (b.drop 20).take j ++ zd.drop j = A at *
    have hjA : j < A.length := by omega
    have hgA := getM (f := PV.i .u8) hjA
    have hnA := nthM (f := PV.i .u8) hjA
    conv => whnf
    conv => arg 2; repeat (first | rw [hg2] | (whnf; arg 2))
    conv => whnf
    iterate 3
      conv => arg 2; repeat (first | rw [hgA] | rw [hnA] | (whnf; arg 2))
      conv => whnf
    refine ⟨j + 1, [], by omega, by dsimp only; omega, nofun, rfl, ⟨rfl, rfl, rfl, rfl, rfl, rfl, incN (by omega), rfl, trivial⟩, ⟨rfl, rfl, ?_, rfl, trivial⟩⟩
    have hst' : (bv A).set (j : Int).toNat (.i .u8 b[20 + j]) = bv ((b.drop 20).take (j + 1) ++ zd.drop (j + 1)) := hst
    show some (Blk.var (.p (.st [.i .u32 (IntKind.u32.wrap (rdT b).t), .i .u32 (IntKind.u32.wrap (rdT b).u), .i .u32 (IntKind.u32.wrap (rdT b).e), .i .u64 (rdT b).x, .arr 32 ush ((bv A).set (j : Int).toNat (.i .u8 b[20 + j]))]))) = _
    rw [hst']
    rfl
  · have h6 := of_decide_eq_false h6
    have hj32 : j = 32 := by omega
    subst hj32
    have hd : (b.drop 20).take 32 ++ zd.drop 32 = (rdT b).d := by
      rw [List.take_of_length_le (by simp; omega)]
      simp [rdT]
    conv => whnf
    refine Eq.trans (b := some (AV.tup [.p (tkv ⟨IntKind.u32.wrap (rdT b).t, IntKind.u32.wrap (rdT b).u, IntKind.u32.wrap (rdT b).e, (rdT b).x, (b.drop 20).take 32 ++ zd.drop 32⟩), .p (.i .i64 0)])) rfl ?_
    rw [hd, hw]
theorem sameT (t : Tk) : PV.same (tkv t) (tkv t) = true := by
  simp only [PV.same, PV.sameL, sameL_bv]
  simp
theorem f10_ok (t : Tk) (ht : t.ok) (b : List Int) (hb : byt b) : Fn Try.prog X.G 10 [.p (tkv t), bvs b] (.p (.b true)) := by
  refine Fn.intro (I := []) hX hm 0 Try.func10 rfl rfl (by kernel_rfl) rfl ?_
  conv => whnf
  refine iteC (fun h => ?_) (fun h => ?_)
  · rfl
  have h := of_decide_eq_false h
  rw [List.length_map] at h
  have c1 := f46_ok b hb (by omega)
  have c2 := f47_ok b hb
  have c3 := f48_ok t ht
  have c4 := f49_ok t ht
  have c5 := f30_ok (bytesT t) (bytesT t) (by rw [bytesT_len ht]; decide)
  rw [decide_eq_true rfl] at c5
  generalize readT_ b = u at *
  obtain ⟨u, e⟩ := u
  dsimp only at c1 c2
  have hs := sameT u
  conv => whnf
  refine ⟨_, c1, ?_⟩
  conv => whnf
  refine ⟨_, c2, ?_⟩
  conv => whnf
  refine ⟨_, c3, ?_⟩
  conv => whnf
  refine ⟨_, c4, ?_⟩
  conv => whnf
  refine ⟨_, c5, ?_⟩
  conv => whnf
  refine iteT rfl ?_
  conv => whnf
  refine iteT hs ?_
  conv => whnf
  refine iteT (beq_self_eq_true _) ?_
  rfl
end Go.Proofs.Ytjgffjofgeppoaa.AM
