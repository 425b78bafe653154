/- Ported by name: FrameQ. -/
import Derived.Test.YtgdpmnkmllelmaapFrameP
namespace Go.Proofs.Ytgdpmnkmllelmaa.AM
open Go Go.Proofs
set_option maxRecDepth 100000
def f00 : Fr := ⟨0, t0T, 0, 0, c00⟩
def rdR (b : List Int) : Fr := ⟨1, rdT ((b.drop 1).take 52), numB ((b.drop 53).take 2), num4 b 55, c00⟩
def rdC (b : List Int) : Cm := ⟨b.getD 1 0, num4 b 2, num4 b 6, ⟨num4 b 10, num4 b 14, num4 b 18⟩, ⟨num4 b 22, num4 b 26, num4 b 30⟩, ⟨num4 b 34, num4 b 38, num4 b 42⟩,
  b.getD 46 0, b.getD 47 0, numB ((b.drop 48).take 8), b.drop 56⟩
def rdF2 (b : List Int) : Fr := ⟨2, t0T, 0, 0, rdC b⟩
def goodR (b : List Int) : Prop := b.length = 59 ∧ b.getD 0 0 = 1 ∧ (rdR b).tk.t < 16
def goodC (b : List Int) : Prop := b.length = 88 ∧ b.getD 0 0 = 2 ∧ okC (rdC b)
instance (b : List Int) : Decidable (goodR b) := by unfold goodR; infer_instance
instance (b : List Int) : Decidable (goodC b) := by unfold goodC; infer_instance
def parseF (b : List Int) : Fr × Int := if goodR b then (rdR b, 0) else if goodC b then (rdF2 b, 0) else (f00, 12)
theorem t0T_ok : t0T.ok := ⟨by decide, by decide, by decide, by decide, by decide, byt_of rfl⟩
theorem l00_ok : l00.ok := ⟨by decide, by decide, by decide⟩
theorem c00_ok : c00.ok := ⟨by decide, by decide, by decide, l00_ok, l00_ok, l00_ok, by decide, by decide, by decide, by decide, byt_of rfl⟩
theorem f00_ok : f00.ok := ⟨by decide, t0T_ok, by decide, by decide, c00_ok⟩
theorem byt_drop {b : List Int} (h : byt b) (n : Nat) : byt (b.drop n) := fun x hx => h x (List.mem_of_mem_drop hx)
theorem byt_take {b : List Int} (h : byt b) (n : Nat) : byt (b.take n) := fun x hx => h x (List.mem_of_mem_take hx)
theorem getD_at {b : List Int} {n : Nat} (h : n < b.length) : b.getD n 0 = b[n] := by simp [List.getD, h]
theorem getD_rangeQ {b : List Int} (h : byt b) (n : Nat) : 0 ≤ b.getD n 0 ∧ b.getD n 0 < 256 := by
  by_cases hn : n < b.length
  · rw [getD_at hn]
    exact h _ (List.getElem_mem hn)
  · have : b[n]? = none := List.getElem?_eq_none (by omega)
    simp [List.getD, this]
theorem rdR_ok {b : List Int} (hb : byt b) (hl : b.length = 59) : (rdR b).ok := by
  have h2 := (bytesU_numB 2 ((b.drop 53).take 2) (by simp; omega) (by decide) (byt_take (byt_drop hb _) _)).2
  have h1 := numB_range ((b.drop 53).take 2)
  exact ⟨(by decide : (0 : Int) ≤ 1 ∧ (1 : Int) < 256), rdT_ok (byt_take (byt_drop hb _) _) (by simp; omega), ⟨h1.1, h2⟩, num4_range (n := 55) hb (by omega), c00_ok⟩
theorem rdC_fit {b : List Int} (hb : byt b) (hl : b.length = 88) : fitC (rdC b) :=
  ⟨⟨num4_range (n := 10) hb (by omega), num4_range (n := 14) hb (by omega), num4_range (n := 18) hb (by omega)⟩,
   ⟨num4_range (n := 22) hb (by omega), num4_range (n := 26) hb (by omega), num4_range (n := 30) hb (by omega)⟩,
   ⟨num4_range (n := 34) hb (by omega), num4_range (n := 38) hb (by omega), num4_range (n := 42) hb (by omega)⟩⟩
theorem fitL_ok {l : Lm} (h : fitL l) : l.ok := by
  obtain ⟨h1, h2, h3⟩ := h
  exact ⟨by omega, by omega, by omega⟩
theorem rdC_ok {b : List Int} (hb : byt b) (hl : b.length = 88) : (rdC b).ok := by
  obtain ⟨h1, h2, h3⟩ := rdC_fit hb hl
  exact ⟨getD_rangeQ hb _, num4_range (n := 2) hb (by omega), num4_range (n := 6) hb (by omega), fitL_ok h1, fitL_ok h2, fitL_ok h3, getD_rangeQ hb _, getD_rangeQ hb _, numB_range _,
    by simp [rdC]; omega, byt_drop hb _⟩
theorem rdF2_ok {b : List Int} (hb : byt b) (hl : b.length = 88) : (rdF2 b).ok :=
  ⟨(by decide : (0 : Int) ≤ 2 ∧ (2 : Int) < 256), t0T_ok, (by decide : (0 : Int) ≤ 0 ∧ (0 : Int) < 65536), (by decide : (0 : Int) ≤ 0 ∧ (0 : Int) < 4294967296), rdC_ok hb hl⟩
theorem drop_two (b : List Int) (n k : Nat) : (b.drop n).take k ++ b.drop (n + k) = b.drop n := by
  rw [← List.drop_drop, List.take_append_drop]
theorem getD_cons {b : List Int} {n : Nat} (h : n < b.length) : b.getD n 0 :: b.drop (n + 1) = b.drop n := by
  rw [getD_at h, ← List.drop_eq_getElem_cons h]
theorem num_back {b : List Int} (hb : byt b) (n k : Nat) (h1 : n + k ≤ b.length) (h2 : k ≤ 8) : bytesU (numB ((b.drop n).take k)) k = (b.drop n).take k :=
  (bytesU_numB k _ (by simp; omega) h2 (byt_take (byt_drop hb _) _)).1
theorem rdR_tail {b : List Int} (hb : byt b) (hl : b.length = 59) : bytesU (rdR b).ep 2 ++ bytesU (rdR b).co 4 = b.drop 53 := by
  show bytesU (numB ((b.drop 53).take 2)) 2 ++ bytesU (numB ((b.drop 55).take 4)) 4 = _
  rw [num_back hb 53 2 (by omega) (by decide), num_back hb 55 4 (by omega) (by decide), List.take_of_length_le (l := b.drop 55) (by simp; omega), drop_two b 53 2]
theorem rdR_back {b : List Int} (hb : byt b) (hl : b.length = 59) : bytesR (rdR b) = 1 :: b.drop 1 := by
  unfold bytesR
  rw [rdR_tail hb hl, show bytesT (rdR b).tk = (b.drop 1).take 52 from rdT_back (byt_take (byt_drop hb _) _) (by simp; omega), List.append_assoc, drop_two b 1 52]
  rfl
theorem rdC_back {b : List Int} (hb : byt b) (hl : b.length = 88) : bytesC (rdC b) = 2 :: b.drop 1 := by
  unfold bytesC msgC
  simp only [List.append_assoc, List.cons_append, List.nil_append]
  show 2 :: b.getD 1 0 :: (bytesU (numB ((b.drop 2).take 4)) 4 ++ (bytesU (numB ((b.drop 6).take 4)) 4 ++ (bytesU (numB ((b.drop 10).take 4)) 4 ++ (bytesU (numB ((b.drop 14).take 4)) 4 ++ (bytesU (numB ((b.drop 18).take 4)) 4
    ++ (bytesU (numB ((b.drop 22).take 4)) 4 ++ (bytesU (numB ((b.drop 26).take 4)) 4 ++ (bytesU (numB ((b.drop 30).take 4)) 4 ++ (bytesU (numB ((b.drop 34).take 4)) 4 ++ (bytesU (numB ((b.drop 38).take 4)) 4 ++ (bytesU (numB ((b.drop 42).take 4)) 4
    ++ (b.getD 46 0 :: b.getD 47 0 :: (bytesU (numB ((b.drop 48).take 8)) 8 ++ b.drop 56))))))))))))) = _
  rw [num_back hb 2 4 (by omega) (by decide), num_back hb 6 4 (by omega) (by decide), num_back hb 10 4 (by omega) (by decide), num_back hb 14 4 (by omega) (by decide), num_back hb 18 4 (by omega) (by decide),
    num_back hb 22 4 (by omega) (by decide), num_back hb 26 4 (by omega) (by decide), num_back hb 30 4 (by omega) (by decide), num_back hb 34 4 (by omega) (by decide), num_back hb 38 4 (by omega) (by decide), num_back hb 42 4 (by omega) (by decide),
    num_back hb 48 8 (by omega) (by decide), drop_two b 48 8, getD_cons (by omega), getD_cons (by omega), drop_two b 42 4, drop_two b 38 4, drop_two b 34 4, drop_two b 30 4, drop_two b 26 4, drop_two b 22 4, drop_two b 18 4, drop_two b 14 4, drop_two b 10 4, drop_two b 6 4, drop_two b 2 4, getD_cons (by omega)]
theorem head_back {b : List Int} {n : Nat} {x : Int} (hl : b.length = n + 1) (h : b.getD 0 0 = x) : x :: b.drop 1 = b := by
  rw [← h, getD_cons (by omega)]
  rfl
def kindsC : List Int := [2, 2, 4, 4, 4, 4, 4, 4, 4, 4, 4, 4, 4, 2, 2, 5, 6]
theorem readC {b : List Int} (hb : byt b) (hl : b.length = 88) (h0 : b.getD 0 0 = 2) : readL kindsC b = (rowC (rdC b), 0) := by
  have ho := rdC_ok hb hl
  have hr := read_write (rowC_ok' ho (rdC_fit hb hl)) (rowC_fine' ho (rdC_fit hb hl))
  rw [rowC_flat ho, rdC_back hb hl, head_back hl h0] at hr
  exact hr
theorem readQ {b : List Int} (hb : byt b) (hl : b.length = 59) : readL [3, 4] (b.drop 53) = (rowQ (rdR b), 0) := by
  have ho := rdR_ok hb hl
  have hr := read_write (rowQ_ok ho) (rowQ_fine ho)
  rw [rowQ_flat, rdR_tail hb hl] at hr
  exact hr
theorem kinds_stepC {i : Nat} (h : i < 17) : kindsC.take (i + 1) = kindsC.take i ++ [(rowCw c00)[i]'(h)].map Fd.k := by
  have : i = 0 ∨ i = 1 ∨ i = 2 ∨ i = 3 ∨ i = 4 ∨ i = 5 ∨ i = 6 ∨ i = 7 ∨ i = 8 ∨ i = 9 ∨ i = 10 ∨ i = 11 ∨ i = 12 ∨ i = 13 ∨ i = 14 ∨ i = 15 ∨ i = 16 := by omega
  rcases this with rfl | rfl | rfl | rfl | rfl | rfl | rfl | rfl | rfl | rfl | rfl | rfl | rfl | rfl | rfl | rfl | rfl <;> rfl
theorem parse_R {b : List Int} (h : goodR b) : parseF b = (rdR b, 0) := by unfold parseF; rw [if_pos h]
theorem parse_C {b : List Int} (h : goodC b) : parseF b = (rdF2 b, 0) := by
  unfold parseF
  rw [if_neg (fun hh => by have := hh.1; have := h.1; omega), if_pos h]
theorem parse_no {b : List Int} (h1 : ¬ goodR b) (h2 : ¬ goodC b) : parseF b = (f00, 12) := by unfold parseF; rw [if_neg h1, if_neg h2]
theorem okF_R (b : List Int) : okF (rdR b) ↔ (rdR b).tk.t < 16 := by
  unfold okF
  constructor
  · rintro (h | h)
    · exact h.2.2
    · exact absurd h.1 (by decide : ¬ (1 : Int) = 2)
  · intro h
    exact .inl ⟨rfl, rfl, h⟩
theorem okF_C (c : Cm) : okF ⟨2, t0T, 0, 0, c⟩ ↔ okC c := by
  unfold okF
  constructor
  · rintro (h | h)
    · exact absurd h.1 (by decide : ¬ (2 : Int) = 1)
    · exact h.2.2
  · intro h
    exact .inr ⟨rfl, ⟨rfl, rfl, rfl⟩, h⟩
theorem okF_00 : ¬ okF f00 := by decide
theorem get0 {b : List Int} (h : 0 < b.length) : getI (bv b) (0 : Int) = some (.i .u8 (b.getD 0 0)) := by
  rw [getD_at h]
  exact getM (f := PV.i .u8) h
theorem nth0 {b : List Int} (h : 0 < b.length) : (bv b)[(0 : Int).toNat]? = some (.i .u8 (b.getD 0 0)) := by
  rw [getD_at h]
  exact nthM (f := PV.i .u8) h
theorem getK {b : List Int} {n : Nat} (h : n < b.length) : getI (bv b) (n : Int) = some (.i .u8 (b.getD n 0)) := by
  rw [getD_at h]
  exact getM (f := PV.i .u8) h
theorem nthK {b : List Int} {n : Nat} (h : n < b.length) : (bv b)[(n : Int).toNat]? = some (.i .u8 (b.getD n 0)) := by
  rw [getD_at h]
  exact nthM (f := PV.i .u8) h
theorem bytes_rdR {b : List Int} (hb : byt b) (hl : b.length = 59) : decide (bytesF (rdR b) = b) = decide (b.getD 0 0 = 1) := by
  have e : bytesF (rdR b) = 1 :: b.drop 1 := by
    rw [show bytesF (rdR b) = bytesR (rdR b) from rfl, rdR_back hb hl]
  rw [e]
  refine decide_eq_decide.2 ⟨fun h => ?_, fun h => head_back hl h⟩
  rw [← h]
  rfl
theorem bytes_rdC {b : List Int} (hb : byt b) (hl : b.length = 88) : decide (bytesF ⟨2, t0T, 0, 0, rdC b⟩ = b) = decide (b.getD 0 0 = 2) := by
  have e : bytesF ⟨2, t0T, 0, 0, rdC b⟩ = 2 :: b.drop 1 := by
    rw [show bytesF ⟨2, t0T, 0, 0, rdC b⟩ = bytesC (rdC b) from rfl, rdC_back hb hl]
  rw [e]
  refine decide_eq_decide.2 ⟨fun h => ?_, fun h => head_back hl h⟩
  rw [← h]
  rfl
def wrC (b d : List Int) : Cm := ⟨b.getD 1 0, num4 b 2, num4 b 6, ⟨IntKind.i64.wrap (num4 b 10), IntKind.i64.wrap (num4 b 14), IntKind.i64.wrap (num4 b 18)⟩, ⟨IntKind.i64.wrap (num4 b 22), IntKind.i64.wrap (num4 b 26), IntKind.i64.wrap (num4 b 30)⟩, ⟨IntKind.i64.wrap (num4 b 34), IntKind.i64.wrap (num4 b 38), IntKind.i64.wrap (num4 b 42)⟩, b.getD 46 0, b.getD 47 0, numB ((b.drop 48).take 8), d⟩
end Go.Proofs.Ytgdpmnkmllelmaa.AM
