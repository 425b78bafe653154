/- Ported by name: FrameQ. -/
import Derived.Test.YtipmkjfbdflneaaDoorpFrameP
namespace Go.Proofs.YtipmkjfbdflneaaDoor.AM
open Go Go.Proofs
set_option maxRecDepth 100000
def f00 : Fr := ⟨0, t0T, 0, 0, c00⟩
def rdR (b : List Int) : Fr := ⟨1, rdT ((b.drop 1).take 52), numB ((b.drop 53).take 2), num4 b 55, c00⟩
def rdC (b : List Int) : Cm := ⟨b.getD 1 0, num4 b 2, num4 b 6, ⟨num4 b 10, num4 b 14, num4 b 18⟩, ⟨num4 b 22, num4 b 26, num4 b 30⟩, ⟨num4 b 34, num4 b 38, num4 b 42⟩,
  b.getD 46 0, b.getD 47 0, numB ((b.drop 48).take 8), b.drop 56⟩
def rdF2 (b : List Int) : Fr := ⟨2, t0T, 0, 0, rdC b⟩
def goodR (b : List Int) : Prop := b.length = 59 ∧ b.getD 0 0 = 1 ∧ (rdR b).tk.t < 16
def goodC (b : List Int) : Prop := b.length = 88 ∧ b.getD 0 0 = 2 ∧ okC (rdC b)
instance (b : List Int) : Decidable (goodR b) := by unfold goodR; infer_instance
instance (b : List Int) : Decidable (goodC b) := by unfold goodC; infer_instance
def parseF (b : List Int) : Fr × Int := if goodR b then (rdR b, 0) else if goodC b then (rdF2 b, 0) else (f00, 12)
theorem t0T_ok : t0T.ok := ⟨by decide, by decide, by decide, by decide, by decide, byt_of rfl⟩
theorem l00_ok : l00.ok := ⟨by decide, by decide, by decide⟩
theorem c00_ok : c00.ok := ⟨by decide, by decide, by decide, l00_ok, l00_ok, l00_ok, by decide, by decide, by decide, by decide, byt_of rfl⟩
theorem f00_ok : f00.ok := ⟨by decide, t0T_ok, by decide, by decide, c00_ok⟩
theorem byt_drop {b : List Int} (h : byt b) (n : Nat) : byt (b.drop n) := fun x hx => h x (List.mem_of_mem_drop hx)
theorem byt_take {b : List Int} (h : byt b) (n : Nat) : byt (b.take n) := fun x hx => h x (List.mem_of_mem_take hx)
theorem getD_at {b : List Int} {n : Nat} (h : n < b.length) : b.getD n 0 = b[n] := by simp [List.getD, h]
theorem getD_rangeQ {b : List Int} (h : byt b) (n : Nat) : 0 ≤ b.getD n 0 ∧ b.getD n 0 < 256 := by
  by_cases hn : n < b.length
  · rw [getD_at hn]
    exact h _ (List.getElem_mem hn)
  · have : b[n]? = none := List.getElem?_eq_none (by omega)
    simp [List.getD, this]
theorem rdR_ok {b : List Int} (hb : byt b) (hl : b.length = 59) : (rdR b).ok := by
  have h2 := (bytesU_numB 2 ((b.drop 53).take 2) (by simp; omega) (by decide) (byt_take (byt_drop hb _) _)).2
  have h1 := numB_range ((b.drop 53).take 2)
  exact ⟨(by decide : (0 : Int) ≤ 1 ∧ (1 : Int) < 256), rdT_ok (byt_take (byt_drop hb _) _) (by simp; omega), ⟨h1.1, h2⟩, num4_range (n := 55) hb (by omega), c00_ok⟩
theorem rdC_fit {b : List Int} (hb : byt b) (hl : b.length = 88) : fitC (rdC b) :=
  ⟨⟨num4_range (n := 10) hb (by omega), num4_range (n := 14) hb (by omega), num4_range (n := 18) hb (by omega)⟩,
   ⟨num4_range (n := 22) hb (by omega), num4_range (n := 26) hb (by omega), num4_range (n := 30) hb (by omega)⟩,
   ⟨num4_range (n := 34) hb (by omega), num4_range (n := 38) hb (by omega), num4_range (n := 42) hb (by omega)⟩⟩
theorem fitL_ok {l : Lm} (h : fitL l) : l.ok := by
  obtain ⟨h1, h2, h3⟩ := h
  exact ⟨by omega, by omega, by omega⟩
theorem rdC_ok {b : List Int} (hb : byt b) (hl : b.length = 88) : (rdC b).ok := by
  obtain ⟨h1, h2, h3⟩ := rdC_fit hb hl
  exact ⟨getD_rangeQ hb _, num4_range (n := 2) hb (by omega), num4_range (n := 6) hb (by omega), fitL_ok h1, fitL_ok h2, fitL_ok h3, getD_rangeQ hb _, getD_rangeQ hb _, numB_range _,
    by simp [rdC]; omega, byt_drop hb _⟩
theorem rdF2_ok {b : List Int} (hb : byt b) (hl : b.length = 88) : (rdF2 b).ok :=
  ⟨(by decide : (0 : Int) ≤ 2 ∧ (2 : Int) < 256), t0T_ok, (by decide : (0 : Int) ≤ 0 ∧ (0 : Int) < 65536), (by decide : (0 : Int) ≤ 0 ∧ (0 : Int) < 4294967296), rdC_ok hb hl⟩
theorem drop_two (b : List Int) (n k : Nat) : (b.drop n).take k ++ b.drop (n + k) = b.drop n := by
  rw [← List.drop_drop, List.take_append_drop]
theorem getD_cons {b : List Int} {n : Nat} (h : n < b.length) : b.getD n 0 :: b.drop (n + 1) = b.drop n := by
  rw [getD_at h, ← List.drop_eq_getElem_cons h]
theorem num_back {b : List Int} (hb : byt b) (n k : Nat) (h1 : n + k ≤ b.length) (h2 : k ≤ 8) : bytesU (numB ((b.drop n).take k)) k = (b.drop n).take k :=
  (bytesU_numB k _ (by simp; omega) h2 (byt_take (byt_drop hb _) _)).1
theorem rdR_tail {b : List Int} (hb : byt b) (hl : b.length = 59) : bytesU (rdR b).ep 2 ++ bytesU (rdR b).co 4 = b.drop 53 := by
  show bytesU (numB ((b.drop 53).take 2)) 2 ++ bytesU (numB ((b.drop 55).take 4)) 4 = _
  rw [num_back hb 53 2 (by omega) (by decide), num_back hb 55 4 (by omega) (by decide), List.take_of_length_le (l := b.drop 55) (by simp; omega), drop_two b 53 2]
theorem rdR_back {b : List Int} (hb : byt b) (hl : b.length = 59) : bytesR (rdR b) = 1 :: b.drop 1 := by
  unfold bytesR
  rw [rdR_tail hb hl, show bytesT (rdR b).tk = (b.drop 1).take 52 from rdT_back (byt_take (byt_drop hb _) _) (by simp; omega), List.append_assoc, drop_two b 1 52]
  rfl
theorem rdC_back {b : List Int} (hb : byt b) (hl : b.length = 88) : bytesC (rdC b) = 2 :: b.drop 1 := by
  unfold bytesC msgC
  simp only [List.append_assoc, List.cons_append, List.nil_append]
  show 2 :: b.getD 1 0 :: (bytesU (numB ((b.drop 2).take 4)) 4 ++ (bytesU (numB ((b.drop 6).take 4)) 4 ++ (bytesU (numB ((b.drop 10).take 4)) 4 ++ (bytesU (numB ((b.drop 14).take 4)) 4 ++ (bytesU (numB ((b.drop 18).take 4)) 4
    ++ (bytesU (numB ((b.drop 22).take 4)) 4 ++ (bytesU (numB ((b.drop 26).take 4)) 4 ++ (bytesU (numB ((b.drop 30).take 4)) 4 ++ (bytesU (numB ((b.drop 34).take 4)) 4 ++ (bytesU (numB ((b.drop 38).take 4)) 4 ++ (bytesU (numB ((b.drop 42).take 4)) 4
    ++ (b.getD 46 0 :: b.getD 47 0 :: (bytesU (numB ((b.drop 48).take 8)) 8 ++ b.drop 56))))))))))))) = _
  rw [num_back hb 2 4 (by omega) (by decide), num_back hb 6 4 (by omega) (by decide), num_back hb 10 4 (by omega) (by decide), num_back hb 14 4 (by omega) (by decide), num_back hb 18 4 (by omega) (by decide),
    num_back hb 22 4 (by omega) (by decide), num_back hb 26 4 (by omega) (by decide), num_back hb 30 4 (by omega) (by decide), num_back hb 34 4 (by omega) (by decide), num_back hb 38 4 (by omega) (by decide), num_back hb 42 4 (by omega) (by decide),
    num_back hb 48 8 (by omega) (by decide), drop_two b 48 8, getD_cons (by omega), getD_cons (by omega), drop_two b 42 4, drop_two b 38 4, drop_two b 34 4, drop_two b 30 4, drop_two b 26 4, drop_two b 22 4, drop_two b 18 4, drop_two b 14 4, drop_two b 10 4, drop_two b 6 4, drop_two b 2 4, getD_cons (by omega)]
theorem head_back {b : List Int} {n : Nat} {x : Int} (hl : b.length = n + 1) (h : b.getD 0 0 = x) : x :: b.drop 1 = b := by
  rw [← h, getD_cons (by omega)]
  rfl
def kindsC : List Int := [2, 2, 4, 4, 4, 4, 4, 4, 4, 4, 4, 4, 4, 2, 2, 5, 6]
theorem readC {b : List Int} (hb : byt b) (hl : b.length = 88) (h0 : b.getD 0 0 = 2) : readL kindsC b = (rowC (rdC b), 0) := by
  have ho := rdC_ok hb hl
  have hr := read_write (rowC_ok' ho (rdC_fit hb hl)) (rowC_fine' ho (rdC_fit hb hl))
  rw [rowC_flat ho, rdC_back hb hl, head_back hl h0] at hr
  exact hr
theorem readQ {b : List Int} (hb : byt b) (hl : b.length = 59) : readL [3, 4] (b.drop 53) = (rowQ (rdR b), 0) := by
  have ho := rdR_ok hb hl
  have hr := read_write (rowQ_ok ho) (rowQ_fine ho)
  rw [rowQ_flat, rdR_tail hb hl] at hr
  exact hr
theorem f31_ok (b : List Int) (hb : byt b) (hl : b.length = 59) : Fn Tryd.prog X.G 31 [bvs b] (.p (rqv (rdR b))) := by
  refine Fn.intro (I := []) hX hm 0 Tryd.func31 rfl rfl (by kernel_rfl) rfl ?_
  have c1 := f42_ok ((b.drop 1).take 52) (byt_take (byt_drop hb _) _) (by simp; omega)
  have c2 := f34_ok [3, 4] (b.drop 53) (byt_of rfl) (byt_drop hb _) (by simp; omega) (by decide)
  rw [readQ hb hl] at c2
  rw [show readT_ ((b.drop 1).take 52) = ((rdR b).tk, 0) from by unfold readT_; rw [if_pos (by simp; omega)]; rfl] at c1
  have ho := rdR_ok hb hl
  have w1 := wr_u16 ho.ep.1 ho.ep.2
  have w2 := wr_u32 ho.co.1 ho.co.2
  have s1 : List.take (52 : Int).toNat (List.drop (1 : Int).toNat (bv b)) = bv ((b.drop 1).take 52) := by simp
  have s2 : List.take ((bv b).length - (53 : Int).toNat) (List.drop (53 : Int).toNat (bv b)) = bv (b.drop 53) := by
    rw [List.take_of_length_le (by simp)]
    simp
  unfold bvs at c1 c2
  rw [← s1] at c1
  rw [← s2] at c2
  have d1 : decide ((53 : Int) ≤ ((bv b).length : Int)) = true := decide_eq_true (by rw [List.length_map, hl]; decide)
  generalize rdR b = f at *
  conv => whnf
  conv => arg 2; repeat (first | rw [d1] | (whnf; arg 2))
  conv => whnf
  refine ⟨_, c1, ?_⟩
  conv => whnf
  conv => arg 2; repeat (first | rw [d1] | (whnf; arg 2))
  conv => whnf
  refine ⟨_, c2, ?_⟩
  conv => whnf
  refine Eq.trans (b := some (AV.p (.st [tkv f.tk, .i .u16 (IntKind.u16.wrap f.ep), .i .u32 (IntKind.u32.wrap f.co)]))) rfl ?_
  rw [w1, w2]
end Go.Proofs.YtipmkjfbdflneaaDoor.AM

namespace Go.Proofs.YtipmkjfbdflneaaDoor.AM
theorem kinds_stepC {i : Nat} (h : i < 17) : kindsC.take (i + 1) = kindsC.take i ++ [(rowCw c00)[i]'(h)].map Fd.k := by
  have : i = 0 ∨ i = 1 ∨ i = 2 ∨ i = 3 ∨ i = 4 ∨ i = 5 ∨ i = 6 ∨ i = 7 ∨ i = 8 ∨ i = 9 ∨ i = 10 ∨ i = 11 ∨ i = 12 ∨ i = 13 ∨ i = 14 ∨ i = 15 ∨ i = 16 := by omega
  rcases this with rfl | rfl | rfl | rfl | rfl | rfl | rfl | rfl | rfl | rfl | rfl | rfl | rfl | rfl | rfl | rfl | rfl <;> rfl
theorem f32_ok (b : List Int) (hb : byt b) (hl : b.length = 88) (h0 : b.getD 0 0 = 2) : Fn Tryd.prog X.G 32 [bvs b] (.p (cmv (rdC b))) := by
  refine Fn.intro (I := []) hX hm 0 Tryd.func32 rfl rfl (by kernel_rfl) rfl ?_
  have c1 := f29_ok c00
  have c2 := f34_ok kindsC b (byt_of rfl) hb (by omega) (by decide)
  rw [readC hb hl h0] at c2
  have ho := rdC_ok hb hl
  have hf := rdC_fit hb hl
  generalize rdC b = c at *
  conv => whnf
  refine ⟨_, c1, ?_⟩
  conv => whnf
  refine LoopJ.nil 3 1000 ush rfl rfl ?_
  refine LoopJ.intro (I := []) (base' := 0) hX hm (by kernel_rfl) (σ := Nat) (fun i => [(0, bvs b), (2, .ptr 16 []), (3, .own 1000), (11, .own 88), (12, .p (.i .i64 17)), (13, .p (.i .i64 i))])
    (fun i => [(16, .var (.p (cmv c00))), (88, .els true fsh ((rowCw c00).map fv)), (1000, .els true ush (bv (kindsC.take i)))]) (fun i => i ≤ 17) (fun i => 17 - i) 0 []
    (Nat.zero_le _) ⟨nofun, rfl, ⟨rfl, rfl, rfl, rfl, rfl, rfl, rfl, rfl, rfl, rfl, rfl, rfl, trivial⟩, ⟨rfl, rfl, rfl, rfl, rfl, rfl, trivial⟩⟩ ?_
  intro i hi
  conv => whnf
  refine iteC (fun h1 => ?_) (fun h1 => ?_)
  · have h1 := of_decide_eq_true h1
    have hlt : i < 17 := by omega
    have hlt2 : i < (rowCw c00).length := hlt
    have hg := getM (f := fv) hlt2
    have hn := nthM (f := fv) hlt2
    have hst := kinds_stepC hlt
    conv => whnf
    iterate 2
      conv => arg 2; repeat (first | rw [hg] | rw [hn] | (whnf; arg 2))
      conv => whnf
    conv => arg 2; repeat (first | rw [capN _ (by simp [kindsC]; omega)] | (whnf; arg 2))
    conv => whnf
    refine ⟨i + 1, [(1000, 168)], by omega, by dsimp only; omega, nofun, rfl, ⟨rfl, rfl, rfl, rfl, rfl, rfl, rfl, rfl, rfl, rfl, incN (by omega), rfl, trivial⟩, ⟨rfl, rfl, rfl, rfl, ?_, rfl, trivial⟩⟩
    rw [hst, bv_app]
    rfl
  have h1 := of_decide_eq_false h1
  have hi17 : i = 17 := by omega
  subst hi17
  have hw : (⟨IntKind.u8.wrap c.op, IntKind.u32.wrap c.t, IntKind.u32.wrap c.u, ⟨IntKind.i64.wrap c.l0.b, IntKind.i64.wrap c.l0.r, IntKind.i64.wrap c.l0.p⟩, ⟨IntKind.i64.wrap c.l1.b, IntKind.i64.wrap c.l1.r, IntKind.i64.wrap c.l1.p⟩,
      ⟨IntKind.i64.wrap c.l2.b, IntKind.i64.wrap c.l2.r, IntKind.i64.wrap c.l2.p⟩, IntKind.u8.wrap c.us, IntKind.u8.wrap c.en, c.x, c.d⟩ : Cm) = c := by
    obtain ⟨⟨a0, a1, a2⟩, ⟨b0, b1, b2⟩, ⟨d0, d1, d2⟩⟩ := hf
    have k1 := ho.op
    have k2 := ho.t
    have k3 := ho.u
    have k4 := ho.us
    have k5 := ho.en
    rw [wr_u8 k1.1 k1.2, wr_u32 k2.1 k2.2, wr_u32 k3.1 k3.2, wr_u8 k4.1 k4.2, wr_u8 k5.1 k5.2, wr_i64 (by omega) (by omega), wr_i64 (by omega) (by omega), wr_i64 (by omega) (by omega),
      wr_i64 (by omega) (by omega), wr_i64 (by omega) (by omega), wr_i64 (by omega) (by omega), wr_i64 (by omega) (by omega), wr_i64 (by omega) (by omega), wr_i64 (by omega) (by omega)]
  conv => whnf
  refine ⟨_, c2, ?_⟩
  conv => whnf
  refine LoopJ.unroll (I := []) (base' := 2000) hX hm (by kernel_rfl) ?_
  conv => whnf
  refine iteT rfl ?_
  conv => whnf
  refine LoopJ.unroll (I := []) (base' := 3000) hX hm (by kernel_rfl) ?_
  conv => whnf
  refine iteT rfl ?_
  conv => whnf
  refine LoopJ.unroll (I := []) (base' := 4000) hX hm (by kernel_rfl) ?_
  conv => whnf
  refine iteT rfl ?_
  conv => whnf
  refine LoopJ.unroll (I := []) (base' := 5000) hX hm (by kernel_rfl) ?_
  conv => whnf
  refine iteF rfl ?_
  conv => whnf
  exact congrArg (fun x => some (AV.p (cmv x))) hw
end Go.Proofs.YtipmkjfbdflneaaDoor.AM

namespace Go.Proofs.YtipmkjfbdflneaaDoor.AM
theorem parse_R {b : List Int} (h : goodR b) : parseF b = (rdR b, 0) := by unfold parseF; rw [if_pos h]
theorem parse_C {b : List Int} (h : goodC b) : parseF b = (rdF2 b, 0) := by
  unfold parseF
  rw [if_neg (fun hh => by have := hh.1; have := h.1; omega), if_pos h]
theorem parse_no {b : List Int} (h1 : ¬ goodR b) (h2 : ¬ goodC b) : parseF b = (f00, 12) := by unfold parseF; rw [if_neg h1, if_neg h2]
theorem okF_R (b : List Int) : okF (rdR b) ↔ (rdR b).tk.t < 16 := by
  unfold okF
  constructor
  · rintro (h | h)
    · exact h.2.2
    · exact absurd h.1 (by decide : ¬ (1 : Int) = 2)
  · intro h
    exact .inl ⟨rfl, rfl, h⟩
theorem okF_C (c : Cm) : okF ⟨2, t0T, 0, 0, c⟩ ↔ okC c := by
  unfold okF
  constructor
  · rintro (h | h)
    · exact absurd h.1 (by decide : ¬ (2 : Int) = 1)
    · exact h.2.2
  · intro h
    exact .inr ⟨rfl, ⟨rfl, rfl, rfl⟩, h⟩
theorem okF_00 : ¬ okF f00 := by decide
theorem get0 {b : List Int} (h : 0 < b.length) : getI (bv b) (0 : Int) = some (.i .u8 (b.getD 0 0)) := by
  rw [getD_at h]
  exact getM (f := PV.i .u8) h
theorem nth0 {b : List Int} (h : 0 < b.length) : (bv b)[(0 : Int).toNat]? = some (.i .u8 (b.getD 0 0)) := by
  rw [getD_at h]
  exact nthM (f := PV.i .u8) h
set_option maxHeartbeats 8000000 in
theorem f9_ok (b : List Int) (hb : byt b) : Fn Tryd.prog X.G 9 [bvs b] (.tup [.p (frv (parseF b).1), .p (.i .i64 (parseF b).2)]) := by
  refine Fn.intro (I := []) hX hm 0 Tryd.func9 rfl rfl (by kernel_rfl) rfl ?_
  have c3 := f23_ok f00 f00_ok
  conv => whnf
  refine iteC (fun h => ?_) (fun h => ?_)
  · have h : b.length = 59 := by
      rw [List.length_map] at h
      have h : (b.length : Int) = 59 := by simpa using h
      omega
    have hl0 : 0 < b.length := by omega
    have hg := get0 hl0
    have hn := nth0 hl0
    have h88 : (((bv b).length : Int) == 88) = false := beq_eq_false_iff_ne.2 (by rw [List.length_map]; omega)
    have c1 := f31_ok b hb h
    have c2 := f23_ok (rdR b) (rdR_ok hb h)
    conv => whnf
    iterate 2
      conv => arg 2; repeat (first | rw [hg] | rw [hn] | (whnf; arg 2))
      conv => whnf
    refine iteC (fun k => ?_) (fun k => ?_)
    · have k : b.getD 0 0 = 1 := by simpa using k
      conv => whnf
      refine ⟨_, c1, ?_⟩
      conv => whnf
      refine ⟨_, c2, ?_⟩
      conv => whnf
      refine iteC (fun h2 => ?_) (fun h2 => ?_)
      · rw [chkFr_ne] at h2
        have h2 : ¬ okF (rdR b) := by simpa using h2
        rw [parse_no (fun hh => h2 ((okF_R b).2 hh.2.2)) (fun hh => by have := hh.1; omega)]
        rfl
      · rw [chkFr_ne] at h2
        have h2 : okF (rdR b) := by simpa using h2
        rw [parse_R ⟨h, k, (okF_R b).1 h2⟩]
        rfl
    · have k : b.getD 0 0 ≠ 1 := by simpa using k
      rw [parse_no (fun hh => k hh.2.1) (fun hh => by have := hh.1; omega)]
      conv => whnf
      refine iteF h88 ?_
      conv => whnf
      refine ⟨_, c3, ?_⟩
      conv => whnf
      refine iteT rfl ?_
      rfl
  have h : b.length ≠ 59 := by
    intro e
    rw [List.length_map, e] at h
    simp at h
  conv => whnf
  refine iteC (fun h => ?_) (fun h => ?_)
  · have h : b.length = 88 := by
      rw [List.length_map] at h
      have h : (b.length : Int) = 88 := by simpa using h
      omega
    have hl0 : 0 < b.length := by omega
    have hg := get0 hl0
    have hn := nth0 hl0
    have c2 := f23_ok (rdF2 b) (rdF2_ok hb h)
    unfold rdF2 at c2
    conv => whnf
    iterate 2
      conv => arg 2; repeat (first | rw [hg] | rw [hn] | (whnf; arg 2))
      conv => whnf
    refine iteC (fun k => ?_) (fun k => ?_)
    · have k : b.getD 0 0 = 2 := by simpa using k
      have c1 := f32_ok b hb h k
      have p1 : okC (rdC b) → parseF b = (⟨2, t0T, 0, 0, rdC b⟩, 0) := fun hh => parse_C ⟨h, k, hh⟩
      have p2 : ¬ okC (rdC b) → parseF b = (f00, 12) := fun hh => parse_no (fun h' => by have := h'.1; omega) (fun h' => hh h'.2.2)
      generalize rdC b = c at *
      conv => whnf
      refine ⟨_, c1, ?_⟩
      conv => whnf
      refine ⟨_, c2, ?_⟩
      conv => whnf
      refine iteC (fun h2 => ?_) (fun h2 => ?_)
      · rw [chkFr_ne] at h2
        have h2 : ¬ okC c := fun hc => by
          rw [decide_eq_true ((okF_C c).2 hc)] at h2
          cases h2
        rw [p2 h2]
        rfl
      · rw [chkFr_ne] at h2
        have h2 : okC c := by
          have h2 : okF ⟨2, t0T, 0, 0, c⟩ := by simpa using h2
          exact (okF_C c).1 h2
        rw [p1 h2]
        rfl
    · have k : b.getD 0 0 ≠ 2 := by simpa using k
      rw [parse_no (fun hh => by have := hh.1; omega) (fun hh => k hh.2.1)]
      conv => whnf
      refine ⟨_, c3, ?_⟩
      conv => whnf
      refine iteT rfl ?_
      rfl
  have h8 : b.length ≠ 88 := by
    intro e
    rw [List.length_map, e] at h
    simp at h
  rw [parse_no (fun hh => by have := hh.1; omega) (fun hh => by have := hh.1; omega)]
  conv => whnf
  refine ⟨_, c3, ?_⟩
  conv => whnf
  refine iteT rfl ?_
  rfl
end Go.Proofs.YtipmkjfbdflneaaDoor.AM

namespace Go.Proofs.YtipmkjfbdflneaaDoor.AM
theorem getK {b : List Int} {n : Nat} (h : n < b.length) : getI (bv b) (n : Int) = some (.i .u8 (b.getD n 0)) := by
  rw [getD_at h]
  exact getM (f := PV.i .u8) h
theorem nthK {b : List Int} {n : Nat} (h : n < b.length) : (bv b)[(n : Int).toNat]? = some (.i .u8 (b.getD n 0)) := by
  rw [getD_at h]
  exact nthM (f := PV.i .u8) h
theorem bytes_rdR {b : List Int} (hb : byt b) (hl : b.length = 59) : decide (bytesF (rdR b) = b) = decide (b.getD 0 0 = 1) := by
  have e : bytesF (rdR b) = 1 :: b.drop 1 := by
    rw [show bytesF (rdR b) = bytesR (rdR b) from rfl, rdR_back hb hl]
  rw [e]
  refine decide_eq_decide.2 ⟨fun h => ?_, fun h => head_back hl h⟩
  rw [← h]
  rfl
theorem bytes_rdC {b : List Int} (hb : byt b) (hl : b.length = 88) : decide (bytesF ⟨2, t0T, 0, 0, rdC b⟩ = b) = decide (b.getD 0 0 = 2) := by
  have e : bytesF ⟨2, t0T, 0, 0, rdC b⟩ = 2 :: b.drop 1 := by
    rw [show bytesF ⟨2, t0T, 0, 0, rdC b⟩ = bytesC (rdC b) from rfl, rdC_back hb hl]
  rw [e]
  refine decide_eq_decide.2 ⟨fun h => ?_, fun h => head_back hl h⟩
  rw [← h]
  rfl
def wrC (b d : List Int) : Cm := ⟨b.getD 1 0, num4 b 2, num4 b 6, ⟨IntKind.i64.wrap (num4 b 10), IntKind.i64.wrap (num4 b 14), IntKind.i64.wrap (num4 b 18)⟩, ⟨IntKind.i64.wrap (num4 b 22), IntKind.i64.wrap (num4 b 26), IntKind.i64.wrap (num4 b 30)⟩, ⟨IntKind.i64.wrap (num4 b 34), IntKind.i64.wrap (num4 b 38), IntKind.i64.wrap (num4 b 42)⟩, b.getD 46 0, b.getD 47 0, numB ((b.drop 48).take 8), d⟩
end Go.Proofs.YtipmkjfbdflneaaDoor.AM
