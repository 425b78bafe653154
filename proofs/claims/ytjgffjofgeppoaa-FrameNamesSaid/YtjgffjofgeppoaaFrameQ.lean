/- Frames read: requests, commands, Parse and the reference Parse. -/
import Derived.Test.YtjgffjofgeppoaaFrameP
namespace Go.Proofs.Ytjgffjofgeppoaa.AM
open Go Go.Proofs
set_option maxRecDepth 100000
def f00 : Fr := ⟨0, t0T, 0, 0, c00⟩
def rdR (b : List Int) : Fr := ⟨1, rdT ((b.drop 1).take 52), numB ((b.drop 53).take 2), num4 b 55, c00⟩
def rdC (b : List Int) : Cm := ⟨b.getD 1 0, num4 b 2, num4 b 6, ⟨num4 b 10, num4 b 14, num4 b 18⟩, ⟨num4 b 22, num4 b 26, num4 b 30⟩, ⟨num4 b 34, num4 b 38, num4 b 42⟩,
  b.getD 46 0, b.getD 47 0, numB ((b.drop 48).take 8), b.drop 56⟩
def rdF2 (b : List Int) : Fr := ⟨2, t0T, 0, 0, rdC b⟩
def goodR (b : List Int) : Prop := b.length = 59 ∧ b.getD 0 0 = 1 ∧ (rdR b).tk.t < 16
def goodC (b : List Int) : Prop := b.length = 88 ∧ b.getD 0 0 = 2 ∧ okC (rdC b)
instance (b : List Int) : Decidable (goodR b) := by unfold goodR; infer_instance
instance (b : List Int) : Decidable (goodC b) := by unfold goodC; infer_instance
def parseF (b : List Int) : Fr × Int := if goodR b then (rdR b, 0) else if goodC b then (rdF2 b, 0) else (f00, 12)
theorem t0T_ok : t0T.ok := ⟨by decide, by decide, by decide, by decide, by decide, byt_of rfl⟩
theorem l00_ok : l00.ok := ⟨by decide, by decide, by decide⟩
theorem c00_ok : c00.ok := ⟨by decide, by decide, by decide, l00_ok, l00_ok, l00_ok, by decide, by decide, by decide, by decide, byt_of rfl⟩
theorem f00_ok : f00.ok := ⟨by decide, t0T_ok, by decide, by decide, c00_ok⟩
theorem byt_drop {b : List Int} (h : byt b) (n : Nat) : byt (b.drop n) := fun x hx => h x (List.mem_of_mem_drop hx)
theorem byt_take {b : List Int} (h : byt b) (n : Nat) : byt (b.take n) := fun x hx => h x (List.mem_of_mem_take hx)
theorem getD_at {b : List Int} {n : Nat} (h : n < b.length) : b.getD n 0 = b[n] := by simp [List.getD, h]
theorem getD_range {b : List Int} (h : byt b) (n : Nat) : 0 ≤ b.getD n 0 ∧ b.getD n 0 < 256 := by
  by_cases hn : n < b.length
  · rw [getD_at hn]
    exact h _ (List.getElem_mem hn)
  · have : b[n]? = none := List.getElem?_eq_none (by omega)
    simp [List.getD, this]
theorem rdR_ok {b : List Int} (hb : byt b) (hl : b.length = 59) : (rdR b).ok := by
  have h2 := (bytesU_numB 2 ((b.drop 53).take 2) (by simp; omega) (by decide) (byt_take (byt_drop hb _) _)).2
  have h1 := numB_range ((b.drop 53).take 2)
  exact ⟨(by decide : (0 : Int) ≤ 1 ∧ (1 : Int) < 256), rdT_ok (byt_take (byt_drop hb _) _) (by simp; omega), ⟨h1.1, h2⟩, num4_range (n := 55) hb (by omega), c00_ok⟩
theorem rdC_fit {b : List Int} (hb : byt b) (hl : b.length = 88) : fitC (rdC b) :=
  ⟨⟨num4_range (n := 10) hb (by omega), num4_range (n := 14) hb (by omega), num4_range (n := 18) hb (by omega)⟩,
   ⟨num4_range (n := 22) hb (by omega), num4_range (n := 26) hb (by omega), num4_range (n := 30) hb (by omega)⟩,
   ⟨num4_range (n := 34) hb (by omega), num4_range (n := 38) hb (by omega), num4_range (n := 42) hb (by omega)⟩⟩
theorem fitL_ok {l : Lm} (h : fitL l) : l.ok := by
  obtain ⟨h1, h2, h3⟩ := h
  exact ⟨by omega, by omega, by omega⟩
theorem rdC_ok {b : List Int} (hb : byt b) (hl : b.length = 88) : (rdC b).ok := by
  obtain ⟨h1, h2, h3⟩ := rdC_fit hb hl
  exact ⟨getD_range hb _, num4_range (n := 2) hb (by omega), num4_range (n := 6) hb (by omega), fitL_ok h1, fitL_ok h2, fitL_ok h3, getD_range hb _, getD_range hb _, numB_range _,
    by simp [rdC]; omega, byt_drop hb _⟩
theorem rdF2_ok {b : List Int} (hb : byt b) (hl : b.length = 88) : (rdF2 b).ok :=
  ⟨(by decide : (0 : Int) ≤ 2 ∧ (2 : Int) < 256), t0T_ok, (by decide : (0 : Int) ≤ 0 ∧ (0 : Int) < 65536), (by decide : (0 : Int) ≤ 0 ∧ (0 : Int) < 4294967296), rdC_ok hb hl⟩
theorem drop_two (b : List Int) (n k : Nat) : (b.drop n).take k ++ b.drop (n + k) = b.drop n := by
  rw [← List.drop_drop, List.take_append_drop]
theorem getD_cons {b : List Int} {n : Nat} (h : n < b.length) : b.getD n 0 :: b.drop (n + 1) = b.drop n := by
  rw [getD_at h, ← List.drop_eq_getElem_cons h]
theorem num_back {b : List Int} (hb : byt b) (n k : Nat) (h1 : n + k ≤ b.length) (h2 : k ≤ 8) : bytesU (numB ((b.drop n).take k)) k = (b.drop n).take k :=
  (bytesU_numB k _ (by simp; omega) h2 (byt_take (byt_drop hb _) _)).1
theorem rdR_tail {b : List Int} (hb : byt b) (hl : b.length = 59) : bytesU (rdR b).ep 2 ++ bytesU (rdR b).co 4 = b.drop 53 := by
  show bytesU (numB ((b.drop 53).take 2)) 2 ++ bytesU (numB ((b.drop 55).take 4)) 4 = _
  rw [num_back hb 53 2 (by omega) (by decide), num_back hb 55 4 (by omega) (by decide), List.take_of_length_le (l := b.drop 55) (by simp; omega), drop_two b 53 2]
theorem rdR_back {b : List Int} (hb : byt b) (hl : b.length = 59) : bytesR (rdR b) = 1 :: b.drop 1 := by
  unfold bytesR
  rw [rdR_tail hb hl, show bytesT (rdR b).tk = (b.drop 1).take 52 from rdT_back (byt_take (byt_drop hb _) _) (by simp; omega), List.append_assoc, drop_two b 1 52]
  rfl
theorem rdC_back {b : List Int} (hb : byt b) (hl : b.length = 88) : bytesC (rdC b) = 2 :: b.drop 1 := by
  unfold bytesC msgC
  simp only [List.append_assoc, List.cons_append, List.nil_append]
  show 2 :: b.getD 1 0 :: (bytesU (numB ((b.drop 2).take 4)) 4 ++ (bytesU (numB ((b.drop 6).take 4)) 4 ++ (bytesU (numB ((b.drop 10).take 4)) 4 ++ (bytesU (numB ((b.drop 14).take 4)) 4 ++ (bytesU (numB ((b.drop 18).take 4)) 4
    ++ (bytesU (numB ((b.drop 22).take 4)) 4 ++ (bytesU (numB ((b.drop 26).take 4)) 4 ++ (bytesU (numB ((b.drop 30).take 4)) 4 ++ (bytesU (numB ((b.drop 34).take 4)) 4 ++ (bytesU (numB ((b.drop 38).take 4)) 4 ++ (bytesU (numB ((b.drop 42).take 4)) 4
    ++ (b.getD 46 0 :: b.getD 47 0 :: (bytesU (numB ((b.drop 48).take 8)) 8 ++ b.drop 56))))))))))))) = _
  rw [num_back hb 2 4 (by omega) (by decide), num_back hb 6 4 (by omega) (by decide), num_back hb 10 4 (by omega) (by decide), num_back hb 14 4 (by omega) (by decide), num_back hb 18 4 (by omega) (by decide),
    num_back hb 22 4 (by omega) (by decide), num_back hb 26 4 (by omega) (by decide), num_back hb 30 4 (by omega) (by decide), num_back hb 34 4 (by omega) (by decide), num_back hb 38 4 (by omega) (by decide), num_back hb 42 4 (by omega) (by decide),
    num_back hb 48 8 (by omega) (by decide), drop_two b 48 8, getD_cons (by omega), getD_cons (by omega), drop_two b 42 4, drop_two b 38 4, drop_two b 34 4, drop_two b 30 4, drop_two b 26 4, drop_two b 22 4, drop_two b 18 4, drop_two b 14 4, drop_two b 10 4, drop_two b 6 4, drop_two b 2 4, getD_cons (by omega)]
theorem head_back {b : List Int} {n : Nat} {x : Int} (hl : b.length = n + 1) (h : b.getD 0 0 = x) : x :: b.drop 1 = b := by
  rw [← h, getD_cons (by omega)]
  rfl
def kindsC : List Int := [2, 2, 4, 4, 4, 4, 4, 4, 4, 4, 4, 4, 4, 2, 2, 5, 6]
theorem readC {b : List Int} (hb : byt b) (hl : b.length = 88) (h0 : b.getD 0 0 = 2) : readL kindsC b = (rowC (rdC b), 0) := by
  have ho := rdC_ok hb hl
  have hr := read_write (rowC_ok' ho (rdC_fit hb hl)) (rowC_fine' ho (rdC_fit hb hl))
  rw [rowC_flat ho, rdC_back hb hl, head_back hl h0] at hr
  exact hr
theorem readQ {b : List Int} (hb : byt b) (hl : b.length = 59) : readL [3, 4] (b.drop 53) = (rowQ (rdR b), 0) := by
  have ho := rdR_ok hb hl
  have hr := read_write (rowQ_ok ho) (rowQ_fine ho)
  rw [rowQ_flat, rdR_tail hb hl] at hr
  exact hr
theorem f94_ok (b : List Int) (hb : byt b) (hl : b.length = 59) : Fn Try.prog X.G 94 [bvs b] (.p (rqv (rdR b))) := by
  refine Fn.intro (I := []) hX hm 0 Try.func94 rfl rfl (by kernel_rfl) rfl ?_
  have c1 := f46_ok ((b.drop 1).take 52) (byt_take (byt_drop hb _) _) (by simp; omega)
  have c2 := f31_ok [3, 4] (b.drop 53) (byt_of rfl) (byt_drop hb _) (by simp; omega) (by decide)
  rw [readQ hb hl] at c2
  rw [show readT_ ((b.drop 1).take 52) = ((rdR b).tk, 0) from by unfold readT_; rw [if_pos (by simp; omega)]; rfl] at c1
  have ho := rdR_ok hb hl
  have w1 := wr_u16 ho.ep.1 ho.ep.2
  have w2 := wr_u32 ho.co.1 ho.co.2
  have s1 : List.take (52 : Int).toNat (List.drop (1 : Int).toNat (bv b)) = bv ((b.drop 1).take 52) := by simp
  have s2 : List.take ((bv b).length - (53 : Int).toNat) (List.drop (53 : Int).toNat (bv b)) = bv (b.drop 53) := by
    rw [List.take_of_length_le (by simp)]
    simp
  unfold bvs at c1 c2
  rw [← s1] at c1
  rw [← s2] at c2
  have d1 : decide ((53 : Int) ≤ ((bv b).length : Int)) = true := decide_eq_true (by rw [List.length_map, hl]; decide)
  generalize rdR b = f at *
  conv => whnf
  conv => arg 2; repeat (first | rw [d1] | (whnf; arg 2))
  conv => whnf
  refine ⟨_, c1, ?_⟩
  conv => whnf
  conv => arg 2; repeat (first | rw [d1] | (whnf; arg 2))
  conv => whnf
  refine ⟨_, c2, ?_⟩
  conv => whnf
  refine Eq.trans (b := some (AV.p (.st [tkv f.tk, .i .u16 (IntKind.u16.wrap f.ep), .i .u32 (IntKind.u32.wrap f.co)]))) rfl ?_
  rw [w1, w2]
end Go.Proofs.Ytjgffjofgeppoaa.AM

namespace Go.Proofs.Ytjgffjofgeppoaa.AM
open Go Go.Proofs
set_option maxRecDepth 100000
theorem kinds_stepC {i : Nat} (h : i < 17) : kindsC.take (i + 1) = kindsC.take i ++ [(rowCw c00)[i]'(h)].map Fd.k := by
  have : i = 0 ∨ i = 1 ∨ i = 2 ∨ i = 3 ∨ i = 4 ∨ i = 5 ∨ i = 6 ∨ i = 7 ∨ i = 8 ∨ i = 9 ∨ i = 10 ∨ i = 11 ∨ i = 12 ∨ i = 13 ∨ i = 14 ∨ i = 15 ∨ i = 16 := by omega
  rcases this with rfl | rfl | rfl | rfl | rfl | rfl | rfl | rfl | rfl | rfl | rfl | rfl | rfl | rfl | rfl | rfl | rfl <;> rfl
theorem f95_ok (b : List Int) (hb : byt b) (hl : b.length = 88) (h0 : b.getD 0 0 = 2) : Fn Try.prog X.G 95 [bvs b] (.p (cmv (rdC b))) := by
  refine Fn.intro (I := []) hX hm 0 Try.func95 rfl rfl (by kernel_rfl) rfl ?_
  have c1 := f89_ok c00
  have c2 := f31_ok kindsC b (byt_of rfl) hb (by omega) (by decide)
  rw [readC hb hl h0] at c2
  have ho := rdC_ok hb hl
  have hf := rdC_fit hb hl
  generalize rdC b = c at *
  conv => whnf
  refine ⟨_, c1, ?_⟩
  conv => whnf
  refine LoopJ.nil 3 1000 ush rfl rfl ?_
  refine LoopJ.intro (I := []) (base' := 0) hX hm (by kernel_rfl) (σ := Nat) (fun i => [(0, bvs b), (2, .ptr 16 []), (3, .own 1000), (11, .own 88), (12, .p (.i .i64 17)), (13, .p (.i .i64 i))])
    (fun i => [(16, .var (.p (cmv c00))), (88, .els true fsh ((rowCw c00).map fv)), (1000, .els true ush (bv (kindsC.take i)))]) (fun i => i ≤ 17) (fun i => 17 - i) 0 []
    (Nat.zero_le _) ⟨nofun, rfl, ⟨rfl, rfl, rfl, rfl, rfl, rfl, rfl, rfl, rfl, rfl, rfl, rfl, trivial⟩, ⟨rfl, rfl, rfl, rfl, rfl, rfl, trivial⟩⟩ ?_
  intro i hi
  conv => whnf
  refine iteC (fun h1 => ?_) (fun h1 => ?_)
  · have h1 := of_decide_eq_true h1
    have hlt : i < 17 := by omega
    have hlt2 : i < (rowCw c00).length := hlt
    have hg := getM (f := fv) hlt2
    have hn := nthM (f := fv) hlt2
    have hst := kinds_stepC hlt
    conv => whnf
    iterate 2
      conv => arg 2; repeat (first | rw [hg] | rw [hn] | (whnf; arg 2))
      conv => whnf
    conv => arg 2; repeat (first | rw [capN _ (by simp [kindsC]; omega)] | (whnf; arg 2))
    conv => whnf
    refine ⟨i + 1, [(1000, 168)], by omega, by dsimp only; omega, nofun, rfl, ⟨rfl, rfl, rfl, rfl, rfl, rfl, rfl, rfl, rfl, rfl, incN (by omega), rfl, trivial⟩, ⟨rfl, rfl, rfl, rfl, ?_, rfl, trivial⟩⟩
    rw [hst, bv_app]
    rfl
  have h1 := of_decide_eq_false h1
  have hi17 : i = 17 := by omega
  subst hi17
  have hw : (⟨IntKind.u8.wrap c.op, IntKind.u32.wrap c.t, IntKind.u32.wrap c.u, ⟨IntKind.i64.wrap c.l0.b, IntKind.i64.wrap c.l0.r, IntKind.i64.wrap c.l0.p⟩, ⟨IntKind.i64.wrap c.l1.b, IntKind.i64.wrap c.l1.r, IntKind.i64.wrap c.l1.p⟩,
      ⟨IntKind.i64.wrap c.l2.b, IntKind.i64.wrap c.l2.r, IntKind.i64.wrap c.l2.p⟩, IntKind.u8.wrap c.us, IntKind.u8.wrap c.en, c.x, c.d⟩ : Cm) = c := by
    obtain ⟨⟨a0, a1, a2⟩, ⟨b0, b1, b2⟩, ⟨d0, d1, d2⟩⟩ := hf
    have k1 := ho.op
    have k2 := ho.t
    have k3 := ho.u
    have k4 := ho.us
    have k5 := ho.en
    rw [wr_u8 k1.1 k1.2, wr_u32 k2.1 k2.2, wr_u32 k3.1 k3.2, wr_u8 k4.1 k4.2, wr_u8 k5.1 k5.2, wr_i64 (by omega) (by omega), wr_i64 (by omega) (by omega), wr_i64 (by omega) (by omega),
      wr_i64 (by omega) (by omega), wr_i64 (by omega) (by omega), wr_i64 (by omega) (by omega), wr_i64 (by omega) (by omega), wr_i64 (by omega) (by omega), wr_i64 (by omega) (by omega)]
  conv => whnf
  refine ⟨_, c2, ?_⟩
  conv => whnf
  refine LoopJ.unroll (I := []) (base' := 2000) hX hm (by kernel_rfl) ?_
  conv => whnf
  refine iteT rfl ?_
  conv => whnf
  refine LoopJ.unroll (I := []) (base' := 3000) hX hm (by kernel_rfl) ?_
  conv => whnf
  refine iteT rfl ?_
  conv => whnf
  refine LoopJ.unroll (I := []) (base' := 4000) hX hm (by kernel_rfl) ?_
  conv => whnf
  refine iteT rfl ?_
  conv => whnf
  refine LoopJ.unroll (I := []) (base' := 5000) hX hm (by kernel_rfl) ?_
  conv => whnf
  refine iteF rfl ?_
  conv => whnf
  exact congrArg (fun x => some (AV.p (cmv x))) hw
end Go.Proofs.Ytjgffjofgeppoaa.AM

namespace Go.Proofs.Ytjgffjofgeppoaa.AM
open Go Go.Proofs
set_option maxRecDepth 100000
theorem f96_ok (b : List Int) (n : Nat) (hb : byt b) (hn : n + 4 ≤ b.length) (hl : b.length ≤ 100000) : Fn Try.prog X.G 96 [bvs b, .p (.i .i64 n)] (.p (.i .u32 (num4 b n))) := by
  refine Fn.intro (I := []) hX hm 0 Try.func96 rfl rfl (by kernel_rfl) rfl ?_
  have c1 := f72_ok ((b.drop n).take 4) (by simp; omega)
  have hr := num4_range (n := n) hb hn
  have w1 := wr_u32 hr.1 hr.2
  have e1 : IntKind.i64.wrap ((n : Int) + 4) = ((n + 4 : Nat) : Int) := by
    rw [wr_i64 (by omega) (by omega)]
    omega
  have d1 : decide ((n : Int) ≤ ((n + 4 : Nat) : Int)) = true := decide_eq_true (by omega)
  have d2 : decide (((n + 4 : Nat) : Int) ≤ ((bv b).length : Int)) = true := decide_eq_true (by rw [List.length_map]; omega)
  have s1 : List.take ((((n + 4 : Nat) : Int)).toNat - ((n : Int)).toNat) (List.drop ((n : Int)).toNat (bv b)) = bv ((b.drop n).take 4) := by
    rw [show (((n + 4 : Nat) : Int)).toNat - ((n : Int)).toNat = 4 by omega, show ((n : Int)).toNat = n by omega]
    simp
  unfold bvs at c1
  rw [← s1] at c1
  conv => whnf
  conv => arg 2; repeat (first | rw [e1] | rw [d1] | rw [d2] | (whnf; arg 2))
  conv => whnf
  conv => arg 2; repeat (first | rw [d2] | (whnf; arg 2))
  conv => whnf
  refine ⟨_, c1, ?_⟩
  conv => whnf
  exact congrArg (fun c => some (AV.p (.i .u32 c))) w1
theorem parse_R {b : List Int} (h : goodR b) : parseF b = (rdR b, 0) := by unfold parseF; rw [if_pos h]
theorem parse_C {b : List Int} (h : goodC b) : parseF b = (rdF2 b, 0) := by
  unfold parseF
  rw [if_neg (fun hh => by have := hh.1; have := h.1; omega), if_pos h]
theorem parse_no {b : List Int} (h1 : ¬ goodR b) (h2 : ¬ goodC b) : parseF b = (f00, 12) := by unfold parseF; rw [if_neg h1, if_neg h2]
theorem okF_R (b : List Int) : okF (rdR b) ↔ (rdR b).tk.t < 16 := by
  unfold okF
  constructor
  · rintro (h | h)
    · exact h.2.2
    · exact absurd h.1 (by decide : ¬ (1 : Int) = 2)
  · intro h
    exact .inl ⟨rfl, rfl, h⟩
theorem okF_C (c : Cm) : okF ⟨2, t0T, 0, 0, c⟩ ↔ okC c := by
  unfold okF
  constructor
  · rintro (h | h)
    · exact absurd h.1 (by decide : ¬ (2 : Int) = 1)
    · exact h.2.2
  · intro h
    exact .inr ⟨rfl, ⟨rfl, rfl, rfl⟩, h⟩
theorem okF_00 : ¬ okF f00 := by decide
theorem get0 {b : List Int} (h : 0 < b.length) : getI (bv b) (0 : Int) = some (.i .u8 (b.getD 0 0)) := by
  rw [getD_at h]
  exact getM (f := PV.i .u8) h
theorem nth0 {b : List Int} (h : 0 < b.length) : (bv b)[(0 : Int).toNat]? = some (.i .u8 (b.getD 0 0)) := by
  rw [getD_at h]
  exact nthM (f := PV.i .u8) h
set_option maxHeartbeats 8000000 in
theorem f62_ok (b : List Int) (hb : byt b) : Fn Try.prog X.G 62 [bvs b] (.tup [.p (frv (parseF b).1), .p (.i .i64 (parseF b).2)]) := by
  refine Fn.intro (I := []) hX hm 0 Try.func62 rfl rfl (by kernel_rfl) rfl ?_
  have c3 := f58_ok f00 f00_ok
  conv => whnf
  refine iteC (fun h => ?_) (fun h => ?_)
  · have h : b.length = 59 := by
      rw [List.length_map] at h
      have h : (b.length : Int) = 59 := by simpa using h
      omega
    have hl0 : 0 < b.length := by omega
    have hg := get0 hl0
    have hn := nth0 hl0
    have h88 : (((bv b).length : Int) == 88) = false := beq_eq_false_iff_ne.2 (by rw [List.length_map]; omega)
    have c1 := f94_ok b hb h
    have c2 := f58_ok (rdR b) (rdR_ok hb h)
    conv => whnf
    iterate 2
      conv => arg 2; repeat (first | rw [hg] | rw [hn] | (whnf; arg 2))
      conv => whnf
    refine iteC (fun k => ?_) (fun k => ?_)
    · have k : b.getD 0 0 = 1 := by simpa using k
      conv => whnf
      refine ⟨_, c1, ?_⟩
      conv => whnf
      refine ⟨_, c2, ?_⟩
      conv => whnf
      refine iteC (fun h2 => ?_) (fun h2 => ?_)
      · rw [chkFr_ne] at h2
        have h2 : ¬ okF (rdR b) := by simpa using h2
        rw [parse_no (fun hh => h2 ((okF_R b).2 hh.2.2)) (fun hh => by have := hh.1; omega)]
        rfl
      · rw [chkFr_ne] at h2
        have h2 : okF (rdR b) := by simpa using h2
        rw [parse_R ⟨h, k, (okF_R b).1 h2⟩]
        rfl
    · have k : b.getD 0 0 ≠ 1 := by simpa using k
      rw [parse_no (fun hh => k hh.2.1) (fun hh => by have := hh.1; omega)]
      conv => whnf
      refine iteF h88 ?_
      conv => whnf
      refine ⟨_, c3, ?_⟩
      conv => whnf
      refine iteT rfl ?_
      rfl
  have h : b.length ≠ 59 := by
    intro e
    rw [List.length_map, e] at h
    simp at h
  conv => whnf
  refine iteC (fun h => ?_) (fun h => ?_)
  · have h : b.length = 88 := by
      rw [List.length_map] at h
      have h : (b.length : Int) = 88 := by simpa using h
      omega
    have hl0 : 0 < b.length := by omega
    have hg := get0 hl0
    have hn := nth0 hl0
    have c2 := f58_ok (rdF2 b) (rdF2_ok hb h)
    unfold rdF2 at c2
    conv => whnf
    iterate 2
      conv => arg 2; repeat (first | rw [hg] | rw [hn] | (whnf; arg 2))
      conv => whnf
    refine iteC (fun k => ?_) (fun k => ?_)
    · have k : b.getD 0 0 = 2 := by simpa using k
      have c1 := f95_ok b hb h k
      have p1 : okC (rdC b) → parseF b = (⟨2, t0T, 0, 0, rdC b⟩, 0) := fun hh => parse_C ⟨h, k, hh⟩
      have p2 : ¬ okC (rdC b) → parseF b = (f00, 12) := fun hh => parse_no (fun h' => by have := h'.1; omega) (fun h' => hh h'.2.2)
      generalize rdC b = c at *
      conv => whnf
      refine ⟨_, c1, ?_⟩
      conv => whnf
      refine ⟨_, c2, ?_⟩
      conv => whnf
      refine iteC (fun h2 => ?_) (fun h2 => ?_)
      · rw [chkFr_ne] at h2
        have h2 : ¬ okC c := fun hc => by
          rw [decide_eq_true ((okF_C c).2 hc)] at h2
          cases h2
        rw [p2 h2]
        rfl
      · rw [chkFr_ne] at h2
        have h2 : okC c := by
          have h2 : okF ⟨2, t0T, 0, 0, c⟩ := by simpa using h2
          exact (okF_C c).1 h2
        rw [p1 h2]
        rfl
    · have k : b.getD 0 0 ≠ 2 := by simpa using k
      rw [parse_no (fun hh => by have := hh.1; omega) (fun hh => k hh.2.1)]
      conv => whnf
      refine ⟨_, c3, ?_⟩
      conv => whnf
      refine iteT rfl ?_
      rfl
  have h8 : b.length ≠ 88 := by
    intro e
    rw [List.length_map, e] at h
    simp at h
  rw [parse_no (fun hh => by have := hh.1; omega) (fun hh => by have := hh.1; omega)]
  conv => whnf
  refine ⟨_, c3, ?_⟩
  conv => whnf
  refine iteT rfl ?_
  rfl
end Go.Proofs.Ytjgffjofgeppoaa.AM

namespace Go.Proofs.Ytjgffjofgeppoaa.AM
open Go Go.Proofs
set_option maxRecDepth 100000
theorem getK {b : List Int} {n : Nat} (h : n < b.length) : getI (bv b) (n : Int) = some (.i .u8 (b.getD n 0)) := by
  rw [getD_at h]
  exact getM (f := PV.i .u8) h
theorem nthK {b : List Int} {n : Nat} (h : n < b.length) : (bv b)[(n : Int).toNat]? = some (.i .u8 (b.getD n 0)) := by
  rw [getD_at h]
  exact nthM (f := PV.i .u8) h
theorem bytes_rdR {b : List Int} (hb : byt b) (hl : b.length = 59) : decide (bytesF (rdR b) = b) = decide (b.getD 0 0 = 1) := by
  have e : bytesF (rdR b) = 1 :: b.drop 1 := by
    rw [show bytesF (rdR b) = bytesR (rdR b) from rfl, rdR_back hb hl]
  rw [e]
  refine decide_eq_decide.2 ⟨fun h => ?_, fun h => head_back hl h⟩
  rw [← h]
  rfl
theorem bytes_rdC {b : List Int} (hb : byt b) (hl : b.length = 88) : decide (bytesF ⟨2, t0T, 0, 0, rdC b⟩ = b) = decide (b.getD 0 0 = 2) := by
  have e : bytesF ⟨2, t0T, 0, 0, rdC b⟩ = 2 :: b.drop 1 := by
    rw [show bytesF ⟨2, t0T, 0, 0, rdC b⟩ = bytesC (rdC b) from rfl, rdC_back hb hl]
  rw [e]
  refine decide_eq_decide.2 ⟨fun h => ?_, fun h => head_back hl h⟩
  rw [← h]
  rfl
def wrC (b d : List Int) : Cm := ⟨b.getD 1 0, num4 b 2, num4 b 6, ⟨IntKind.i64.wrap (num4 b 10), IntKind.i64.wrap (num4 b 14), IntKind.i64.wrap (num4 b 18)⟩, ⟨IntKind.i64.wrap (num4 b 22), IntKind.i64.wrap (num4 b 26), IntKind.i64.wrap (num4 b 30)⟩, ⟨IntKind.i64.wrap (num4 b 34), IntKind.i64.wrap (num4 b 38), IntKind.i64.wrap (num4 b 42)⟩, b.getD 46 0, b.getD 47 0, numB ((b.drop 48).take 8), d⟩
set_option maxHeartbeats 8000000 in
theorem f63_ok (b : List Int) (hb : byt b) (hl : b.length ≤ 100000) : Fn Try.prog X.G 63 [bvs b] (.tup [.p (frv (parseF b).1), .p (.i .i64 (parseF b).2)]) := by
  refine Fn.intro (I := []) hX hm 0 Try.func63 rfl rfl (by kernel_rfl) rfl ?_
  conv => whnf
  refine iteC (fun h => ?_) (fun h => ?_)
  · have h : b.length = 59 := by
      rw [List.length_map] at h
      have h : (b.length : Int) = 59 := by simpa using h
      omega
    have ho := rdR_ok hb h
    have w1 := wr_u16 ho.ep.1 ho.ep.2
    have c1 := f47_ok ((b.drop 1).take 52) (byt_take (byt_drop hb _) _)
    rw [show readT_ ((b.drop 1).take 52) = ((rdR b).tk, 0) from by unfold readT_; rw [if_pos (by simp; omega)]; rfl] at c1
    have c2 := f72_ok ((b.drop 53).take 2) (by simp; omega)
    have c3 := f96_ok b 55 hb (by omega) hl
    have p1 : b.getD 0 0 = 1 → okF (rdR b) → parseF b = (rdR b, 0) := fun k hh => parse_R ⟨h, k, (okF_R b).1 hh⟩
    have p2 : ¬ (b.getD 0 0 = 1 ∧ okF (rdR b)) → parseF b = (f00, 12) := fun k => parse_no (fun hh => k ⟨hh.2.1, (okF_R b).2 hh.2.2⟩) (fun hh => by have := hh.1; omega)
    have c6 := f30_ok (bytesF (rdR b)) b (by rw [bytesF_len ho]; split <;> decide)
    rw [bytes_rdR hb h] at c6
    have s1 : List.take (52 : Int).toNat (List.drop (1 : Int).toNat (bv b)) = bv ((b.drop 1).take 52) := by simp
    have s2 : List.take (2 : Int).toNat (List.drop (53 : Int).toNat (bv b)) = bv ((b.drop 53).take 2) := by simp
    unfold bvs at c1 c2
    rw [← s1] at c1
    rw [← s2] at c2
    have d1 : ∀ n : Int, n ≤ 59 → decide (n ≤ ((bv b).length : Int)) = true := fun n hn => decide_eq_true (by rw [List.length_map, h]; omega)
    have d53 := d1 53 (by decide)
    have d55 := d1 55 (by decide)
    have c4 : Fn Try.prog X.G 59 [.p (frv ⟨1, (rdR b).tk, IntKind.u16.wrap (rdR b).ep, (rdR b).co, c00⟩)] (.p (.i .i64 (chkFr (rdR b)))) := by
      rw [w1]
      exact f59_ok _ ho
    have c5 : okF (rdR b) → Fn Try.prog X.G 90 [.p (frv ⟨1, (rdR b).tk, IntKind.u16.wrap (rdR b).ep, (rdR b).co, c00⟩)] (bvs (bytesF (rdR b))) := by
      rw [w1]
      exact f90_ok _ ho
    have w2 : (⟨1, (rdR b).tk, IntKind.u16.wrap (rdR b).ep, (rdR b).co, c00⟩ : Fr) = rdR b := by
      rw [w1]
      rfl
    have c2 : Fn Try.prog X.G 72 [AV.ro ush (List.take (2 : Int).toNat (List.drop (53 : Int).toNat (bv b)))] (AV.p (.i .u64 (rdR b).ep)) := c2
    have c3 : Fn Try.prog X.G 96 [bvs b, .p (.i .i64 55)] (.p (.i .u32 (rdR b).co)) := c3
    generalize rdR b = f at *
    conv => whnf
    conv => arg 2; repeat (first | rw [d53] | (whnf; arg 2))
    conv => whnf
    refine ⟨_, c1, ?_⟩
    conv => whnf
    conv => arg 2; repeat (first | rw [d55] | (whnf; arg 2))
    conv => whnf
    refine ⟨_, c2, ?_⟩
    conv => whnf
    refine ⟨_, c3, ?_⟩
    conv => whnf
    refine ⟨_, c4, ?_⟩
    conv => whnf
    refine iteC (fun h2 => ?_) (fun h2 => ?_)
    · rw [chkFr_ne] at h2
      have h2 : ¬ okF f := by simpa using h2
      rw [p2 (fun hh => h2 hh.2)]
      rfl
    · rw [chkFr_ne] at h2
      have h2 : okF f := by simpa using h2
      conv => whnf
      refine ⟨_, c5 h2, ?_⟩
      conv => whnf
      refine ⟨_, c6, ?_⟩
      conv => whnf
      refine iteC (fun k => ?_) (fun k => ?_)
      · have k : b.getD 0 0 = 1 := by simpa using k
        rw [p1 k h2]
        conv => whnf
        exact congrArg (fun x => some (AV.tup [.p (frv x), .p (.i .i64 0)])) w2
      · have k : b.getD 0 0 ≠ 1 := by simpa using k
        rw [p2 (fun hh => k hh.1)]
        rfl
  have h : b.length ≠ 59 := by
    intro e
    rw [List.length_map, e] at h
    simp at h
  have h59 := h
  conv => whnf
  refine iteC (fun h => ?_) (fun h => ?_)
  · have h : b.length = 88 := by
      rw [List.length_map] at h
      have h : (b.length : Int) = 88 := by simpa using h
      omega
    have ho : (⟨2, t0T, 0, 0, rdC b⟩ : Fr).ok := rdF2_ok hb h
    have hf := rdC_fit hb h
    obtain ⟨⟨x10, x14, x18⟩, ⟨x22, x26, x30⟩, ⟨x34, x38, x42⟩⟩ := hf
    have w10 := wr_i64 (n := num4 b 10) (by have : 0 ≤ num4 b 10 := x10.1; omega) (by have : num4 b 10 < 4294967296 := x10.2; omega)
    have w14 := wr_i64 (n := num4 b 14) (by have : 0 ≤ num4 b 14 := x14.1; omega) (by have : num4 b 14 < 4294967296 := x14.2; omega)
    have w18 := wr_i64 (n := num4 b 18) (by have : 0 ≤ num4 b 18 := x18.1; omega) (by have : num4 b 18 < 4294967296 := x18.2; omega)
    have w22 := wr_i64 (n := num4 b 22) (by have : 0 ≤ num4 b 22 := x22.1; omega) (by have : num4 b 22 < 4294967296 := x22.2; omega)
    have w26 := wr_i64 (n := num4 b 26) (by have : 0 ≤ num4 b 26 := x26.1; omega) (by have : num4 b 26 < 4294967296 := x26.2; omega)
    have w30 := wr_i64 (n := num4 b 30) (by have : 0 ≤ num4 b 30 := x30.1; omega) (by have : num4 b 30 < 4294967296 := x30.2; omega)
    have w34 := wr_i64 (n := num4 b 34) (by have : 0 ≤ num4 b 34 := x34.1; omega) (by have : num4 b 34 < 4294967296 := x34.2; omega)
    have w38 := wr_i64 (n := num4 b 38) (by have : 0 ≤ num4 b 38 := x38.1; omega) (by have : num4 b 38 < 4294967296 := x38.2; omega)
    have w42 := wr_i64 (n := num4 b 42) (by have : 0 ≤ num4 b 42 := x42.1; omega) (by have : num4 b 42 < 4294967296 := x42.2; omega)
    have q2 : Fn Try.prog X.G 96 [bvs b, .p (.i .i64 2)] (.p (.i .u32 (num4 b 2))) := f96_ok b 2 hb (by omega) hl
    have q6 : Fn Try.prog X.G 96 [bvs b, .p (.i .i64 6)] (.p (.i .u32 (num4 b 6))) := f96_ok b 6 hb (by omega) hl
    have q10 : Fn Try.prog X.G 96 [bvs b, .p (.i .i64 10)] (.p (.i .u32 (num4 b 10))) := f96_ok b 10 hb (by omega) hl
    have q14 : Fn Try.prog X.G 96 [bvs b, .p (.i .i64 14)] (.p (.i .u32 (num4 b 14))) := f96_ok b 14 hb (by omega) hl
    have q18 : Fn Try.prog X.G 96 [bvs b, .p (.i .i64 18)] (.p (.i .u32 (num4 b 18))) := f96_ok b 18 hb (by omega) hl
    have q22 : Fn Try.prog X.G 96 [bvs b, .p (.i .i64 22)] (.p (.i .u32 (num4 b 22))) := f96_ok b 22 hb (by omega) hl
    have q26 : Fn Try.prog X.G 96 [bvs b, .p (.i .i64 26)] (.p (.i .u32 (num4 b 26))) := f96_ok b 26 hb (by omega) hl
    have q30 : Fn Try.prog X.G 96 [bvs b, .p (.i .i64 30)] (.p (.i .u32 (num4 b 30))) := f96_ok b 30 hb (by omega) hl
    have q34 : Fn Try.prog X.G 96 [bvs b, .p (.i .i64 34)] (.p (.i .u32 (num4 b 34))) := f96_ok b 34 hb (by omega) hl
    have q38 : Fn Try.prog X.G 96 [bvs b, .p (.i .i64 38)] (.p (.i .u32 (num4 b 38))) := f96_ok b 38 hb (by omega) hl
    have q42 : Fn Try.prog X.G 96 [bvs b, .p (.i .i64 42)] (.p (.i .u32 (num4 b 42))) := f96_ok b 42 hb (by omega) hl
    have g1 : getI (bv b) (1 : Int) = some (.i .u8 (b.getD 1 0)) := getK (n := 1) (by omega)
    have k1 : (bv b)[(1 : Int).toNat]? = some (.i .u8 (b.getD 1 0)) := nthK (n := 1) (by omega)
    have m1 : (bv b).get?Internal (Int.toNat 1) = some (.i .u8 (b.getD 1 0)) := k1
    have g46 : getI (bv b) (46 : Int) = some (.i .u8 (b.getD 46 0)) := getK (n := 46) (by omega)
    have k46 : (bv b)[(46 : Int).toNat]? = some (.i .u8 (b.getD 46 0)) := nthK (n := 46) (by omega)
    have m46 : (bv b).get?Internal (Int.toNat 46) = some (.i .u8 (b.getD 46 0)) := k46
    have g47 : getI (bv b) (47 : Int) = some (.i .u8 (b.getD 47 0)) := getK (n := 47) (by omega)
    have k47 : (bv b)[(47 : Int).toNat]? = some (.i .u8 (b.getD 47 0)) := nthK (n := 47) (by omega)
    have m47 : (bv b).get?Internal (Int.toNat 47) = some (.i .u8 (b.getD 47 0)) := k47
    have c2 := f72_ok ((b.drop 48).take 8) (by simp; omega)
    have s2 : List.take (8 : Int).toNat (List.drop (48 : Int).toNat (bv b)) = bv ((b.drop 48).take 8) := by simp
    unfold bvs at c2
    rw [← s2] at c2
    have d56 : decide ((56 : Int) ≤ ((bv b).length : Int)) = true := decide_eq_true (by rw [List.length_map, h]; decide)
    have hW : (⟨2, t0T, 0, 0, wrC b (b.drop 56)⟩ : Fr) = ⟨2, t0T, 0, 0, rdC b⟩ := by
      unfold wrC
      rw [w10, w14, w18, w22, w26, w30, w34, w38, w42]
      rfl
    have p1 : b.getD 0 0 = 2 → okF ⟨2, t0T, 0, 0, rdC b⟩ → parseF b = (⟨2, t0T, 0, 0, rdC b⟩, 0) := fun k hh => parse_C ⟨h, k, (okF_C _).1 hh⟩
    have p2 : ¬ (b.getD 0 0 = 2 ∧ okF ⟨2, t0T, 0, 0, rdC b⟩) → parseF b = (f00, 12) := fun k => parse_no (fun hh => h59 hh.1) (fun hh => k ⟨hh.2.1, (okF_C _).2 hh.2.2⟩)
    have c6 := f30_ok (bytesF ⟨2, t0T, 0, 0, rdC b⟩) b (by rw [bytesF_len ho]; split <;> decide)
    rw [bytes_rdC hb h] at c6
    have c4 := f59_ok ⟨2, t0T, 0, 0, rdC b⟩ ho
    have c5 := f90_ok ⟨2, t0T, 0, 0, rdC b⟩ ho
    rw [← hW] at c4 c5 c6 p1 p2
    clear hW ho
    clear x10 x14 x18 x22 x26 x30 x34 x38 x42 w10 w14 w18 w22 w26 w30 w34 w38 w42
    conv => whnf
    iterate 2
      try (conv => arg 2; repeat (first | rw [g1] | rw [k1] | rw [m1] | (whnf; arg 2)))
      try (conv => whnf)
    refine ⟨_, q2, ?_⟩
    conv => whnf
    refine ⟨_, q6, ?_⟩
    conv => whnf
    iterate 7
      try (conv => arg 2; repeat (first | rw [g46] | rw [g47] | rw [k46] | rw [k47] | rw [m46] | rw [m47] | rw [d56] | (whnf; arg 2)))
      try (conv => whnf)
    refine ⟨_, c2, ?_⟩
    conv => whnf
    refine LoopJ.unroll (I := []) (base' := 2000) hX hm (by kernel_rfl) ?_
    conv => whnf
    refine iteT rfl ?_
    conv => whnf
    refine ⟨_, q10, ?_⟩
    conv => whnf
    refine ⟨_, q14, ?_⟩
    conv => whnf
    refine ⟨_, q18, ?_⟩
    conv => whnf
    refine LoopJ.unroll (I := []) (base' := 3000) hX hm (by kernel_rfl) ?_
    conv => whnf
    refine iteT rfl ?_
    conv => whnf
    refine ⟨_, q22, ?_⟩
    conv => whnf
    refine ⟨_, q26, ?_⟩
    conv => whnf
    refine ⟨_, q30, ?_⟩
    conv => whnf
    refine LoopJ.unroll (I := []) (base' := 4000) hX hm (by kernel_rfl) ?_
    conv => whnf
    refine iteT rfl ?_
    conv => whnf
    refine ⟨_, q34, ?_⟩
    conv => whnf
    refine ⟨_, q38, ?_⟩
    conv => whnf
    refine ⟨_, q42, ?_⟩
    conv => whnf
    refine LoopJ.unroll (I := []) (base' := 5000) hX hm (by kernel_rfl) ?_
    conv => whnf
    refine iteF rfl ?_
    conv => whnf
    refine LoopJ.intro (I := []) (base' := 6000) hX hm (by kernel_rfl) (σ := Nat) (fun j => [(0, bvs b), (2, .ptr 16 []), (4, .ptr 32 []), (7, .ptr 56 []), (9, .p (.i .i64 j))])
      (fun j => [(16, .var (.p (frv f00))), (32, .var (.p (frv ⟨2, t0T, 0, 0, c00⟩))), (56, .var (.p (.st [.i .u8 (b.getD 1 0), .i .u32 (num4 b 2), .i .u32 (num4 b 6), .arr 3 lsh [.st [.i .i64 (IntKind.i64.wrap (num4 b 10)), .i .i64 (IntKind.i64.wrap (num4 b 14)), .i .i64 (IntKind.i64.wrap (num4 b 18))], .st [.i .i64 (IntKind.i64.wrap (num4 b 22)), .i .i64 (IntKind.i64.wrap (num4 b 26)), .i .i64 (IntKind.i64.wrap (num4 b 30))], .st [.i .i64 (IntKind.i64.wrap (num4 b 34)), .i .i64 (IntKind.i64.wrap (num4 b 38)), .i .i64 (IntKind.i64.wrap (num4 b 42))]], .i .u8 (b.getD 46 0), .i .u8 (b.getD 47 0), .i .u64 (numB ((b.drop 48).take 8)), .arr 32 ush (bv ((b.drop 56).take j ++ zd.drop j))])))]) (fun j => j ≤ 32) (fun j => 32 - j) 0 []
      (Nat.zero_le _) ⟨nofun, rfl, ⟨rfl, rfl, rfl, rfl, rfl, rfl, rfl, rfl, rfl, rfl, trivial⟩, ⟨rfl, rfl, rfl, rfl, rfl, rfl, trivial⟩⟩ ?_
    intro j hj
    conv => whnf
    refine iteC (fun h6 => ?_) (fun h6 => ?_)
    · have h6 := of_decide_eq_true h6
      have hj32 : j < 32 := by omega
      have hjb : 56 + j < b.length := by omega
      have haj : IntKind.i64.wrap (56 + (j : Int)) = ((56 + j : Nat) : Int) := by
        rw [wr_i64 (by omega) (by omega)]
        omega
      have hg2 : getI (bv b) (IntKind.i64.wrap (56 + (j : Int))) = some (.i .u8 b[56 + j]) := by
        rw [haj]
        exact getM (f := PV.i .u8) hjb
      have hlA : ((b.drop 56).take j ++ zd.drop j).length = 32 := by simp; omega
      have hst := setD_step (d := zd) (b := b.drop 56) (j := j) (by simp) hj32 (by simp; omega)
      rw [List.getElem_drop] at hst
      generalize hA : (b.drop 56).take j ++ zd.drop j = A at *
      have hjA : j < A.length := by omega
      have hgA := getM (f := PV.i .u8) hjA
      have hnA := nthM (f := PV.i .u8) hjA
      conv => whnf
      conv => arg 2; repeat (first | rw [hg2] | (whnf; arg 2))
      conv => whnf
      iterate 3
        try (conv => arg 2; repeat (first | rw [hgA] | rw [hnA] | (whnf; arg 2)))
        try (conv => whnf)
      refine ⟨j + 1, [], by omega, by dsimp only; omega, nofun, rfl, ⟨rfl, rfl, rfl, rfl, rfl, rfl, rfl, rfl, incN (by omega), rfl, trivial⟩, ⟨rfl, rfl, rfl, rfl, ?_, rfl, trivial⟩⟩
      have hst' : (bv A).set (j : Int).toNat (.i .u8 b[56 + j]) = bv ((b.drop 56).take (j + 1) ++ zd.drop (j + 1)) := hst
      dsimp only
      rw [← hst']
      rfl
    have h6 := of_decide_eq_false h6
    have hj32 : j = 32 := by omega
    subst hj32
    have hd : (b.drop 56).take 32 ++ zd.drop 32 = b.drop 56 := by
      rw [List.take_of_length_le (by simp; omega)]
      simp
    have hE : (.st [.i .u8 (b.getD 1 0), .i .u32 (num4 b 2), .i .u32 (num4 b 6), .arr 3 lsh [.st [.i .i64 (IntKind.i64.wrap (num4 b 10)), .i .i64 (IntKind.i64.wrap (num4 b 14)), .i .i64 (IntKind.i64.wrap (num4 b 18))], .st [.i .i64 (IntKind.i64.wrap (num4 b 22)), .i .i64 (IntKind.i64.wrap (num4 b 26)), .i .i64 (IntKind.i64.wrap (num4 b 30))], .st [.i .i64 (IntKind.i64.wrap (num4 b 34)), .i .i64 (IntKind.i64.wrap (num4 b 38)), .i .i64 (IntKind.i64.wrap (num4 b 42))]], .i .u8 (b.getD 46 0), .i .u8 (b.getD 47 0), .i .u64 (numB ((b.drop 48).take 8)), .arr 32 ush (bv ((b.drop 56).take 32 ++ zd.drop 32))] : PV) = cmv (wrC b (b.drop 56)) := by
      rw [hd]
      rfl
    rw [hE]
    generalize wrC b (b.drop 56) = c at *
    conv => whnf
    refine ⟨_, c4, ?_⟩
    conv => whnf
    refine iteC (fun h2 => ?_) (fun h2 => ?_)
    · rw [chkFr_ne] at h2
      have h2 : ¬ okF ⟨2, t0T, 0, 0, c⟩ := by simpa using h2
      rw [p2 (fun hh => h2 hh.2)]
      rfl
    · rw [chkFr_ne] at h2
      have h2 : okF ⟨2, t0T, 0, 0, c⟩ := by simpa using h2
      have c5 := c5 h2
      generalize bytesF ⟨2, t0T, 0, 0, c⟩ = B at *
      conv => whnf
      refine ⟨_, c5, ?_⟩
      conv => whnf
      refine ⟨_, c6, ?_⟩
      conv => whnf
      refine iteC (fun k => ?_) (fun k => ?_)
      · have k : b.getD 0 0 = 2 := by simpa using k
        rw [p1 k h2]
        rfl
      · have k : b.getD 0 0 ≠ 2 := by simpa using k
        rw [p2 (fun hh => k hh.1)]
        rfl
  have h8 : b.length ≠ 88 := by
    intro e
    rw [List.length_map, e] at h
    simp at h
  rw [parse_no (fun hh => h59 hh.1) (fun hh => h8 hh.1)]
  rfl
end Go.Proofs.Ytjgffjofgeppoaa.AM
