/- Ported by name: FrameP. -/
import Derived.Test.YtipmkjfbdflneaaDoorpFrameC
namespace Go.Proofs.YtipmkjfbdflneaaDoor.AM
open Go Go.Proofs
set_option maxRecDepth 100000
structure Fr where
  k : Int
  tk : Tk
  ep : Int
  co : Int
  cm : Cm
abbrev qsh : Sh := .st [tsh, .int .u16, .int .u32]
abbrev frsh : Sh := .st [.int .u8, qsh, csh]
abbrev rqv (f : Fr) : PV := .st [tkv f.tk, .i .u16 f.ep, .i .u32 f.co]
abbrev frv (f : Fr) : PV := .st [.i .u8 f.k, .st [tkv f.tk, .i .u16 f.ep, .i .u32 f.co], cmv f.cm]
structure Fr.ok (f : Fr) : Prop where
  k : 0 ≤ f.k ∧ f.k < 256
  tk : f.tk.ok
  ep : 0 ≤ f.ep ∧ f.ep < 65536
  co : 0 ≤ f.co ∧ f.co < 4294967296
  cm : f.cm.ok
def l00 : Lm := ⟨0, 0, 0⟩
def c00 : Cm := ⟨0, 0, 0, l00, l00, l00, 0, 0, 0, zd⟩
theorem Tk.eq_iff (x y : Tk) : x = y ↔ x.t = y.t ∧ x.u = y.u ∧ x.e = y.e ∧ x.x = y.x ∧ x.d = y.d := by
  obtain ⟨a, b, c, d, e⟩ := x
  obtain ⟨a', b', c', d', e'⟩ := y
  simp
theorem Lm.eq_iff (x y : Lm) : x = y ↔ x.b = y.b ∧ x.r = y.r ∧ x.p = y.p := by
  obtain ⟨a, b, c⟩ := x
  obtain ⟨a', b', c'⟩ := y
  simp
theorem Cm.eq_iff (x y : Cm) : x = y ↔ x.op = y.op ∧ x.t = y.t ∧ x.u = y.u ∧ x.l0 = y.l0 ∧ x.l1 = y.l1 ∧ x.l2 = y.l2 ∧ x.us = y.us ∧ x.en = y.en ∧ x.x = y.x ∧ x.d = y.d := by
  obtain ⟨a, b, c, d, e, f, g, h, i, j⟩ := x
  obtain ⟨a', b', c', d', e', f', g', h', i', j'⟩ := y
  simp
theorem Fr.eq_iff (x y : Fr) : x = y ↔ x.k = y.k ∧ x.tk = y.tk ∧ x.ep = y.ep ∧ x.co = y.co ∧ x.cm = y.cm := by
  obtain ⟨a, b, c, d, e⟩ := x
  obtain ⟨a', b', c', d', e'⟩ := y
  simp
instance : DecidableEq Tk := fun x y => decidable_of_iff _ (Tk.eq_iff x y).symm
instance : DecidableEq Lm := fun x y => decidable_of_iff _ (Lm.eq_iff x y).symm
instance : DecidableEq Cm := fun x y => decidable_of_iff _ (Cm.eq_iff x y).symm
instance : DecidableEq Fr := fun x y => decidable_of_iff _ (Fr.eq_iff x y).symm
theorem same_lm (x y : Lm) : PV.same (lmv x) (lmv y) = decide (x = y) := by
  rw [Bool.eq_iff_iff, decide_eq_true_iff, Lm.eq_iff]
  simp [PV.same, PV.sameL]
theorem same_tk (x y : Tk) : PV.same (tkv x) (tkv y) = decide (x = y) := by
  rw [Bool.eq_iff_iff, decide_eq_true_iff, Tk.eq_iff]
  simp only [PV.same, PV.sameL, sameL_bv]
  simp
theorem same_cm (x y : Cm) : PV.same (cmv x) (cmv y) = decide (x = y) := by
  rw [Bool.eq_iff_iff, decide_eq_true_iff, Cm.eq_iff]
  have h : ∀ a b : Lm, PV.same (.st [.i .i64 a.b, .i .i64 a.r, .i .i64 a.p]) (.st [.i .i64 b.b, .i .i64 b.r, .i .i64 b.p]) = decide (a = b) := same_lm
  simp only [PV.same, PV.sameL, sameL_bv] at h ⊢
  simp only [h]
  simp [and_assoc]
theorem same_rq (f g : Fr) : PV.same (rqv f) (rqv g) = decide (f.tk = g.tk ∧ f.ep = g.ep ∧ f.co = g.co) := by
  have h : PV.same (tkv f.tk) (tkv g.tk) = decide (f.tk = g.tk) := same_tk _ _
  rw [Bool.eq_iff_iff, decide_eq_true_iff]
  show (PV.same (tkv f.tk) (tkv g.tk) && (PV.same (.i .u16 f.ep) (.i .u16 g.ep) && (PV.same (.i .u32 f.co) (.i .u32 g.co) && PV.sameL [] []))) = true ↔ _
  rw [h]
  simp [PV.same, PV.sameL]
theorem same_fr (f g : Fr) : PV.same (frv f) (frv g) = decide (f = g) := by
  have h1 := same_rq f g
  have h2 := same_cm f.cm g.cm
  rw [Bool.eq_iff_iff, decide_eq_true_iff, Fr.eq_iff]
  show (PV.same (.i .u8 f.k) (.i .u8 g.k) && (PV.same (rqv f) (rqv g) && (PV.same (cmv f.cm) (cmv g.cm) && PV.sameL [] []))) = true ↔ _
  rw [h1, h2]
  simp [PV.same, PV.sameL, and_assoc]
def noRq (f : Fr) : Prop := f.tk = t0T ∧ f.ep = 0 ∧ f.co = 0
instance (f : Fr) : Decidable (noRq f) := by unfold noRq; infer_instance
def okF (f : Fr) : Prop := (f.k = 1 ∧ f.cm = c00 ∧ f.tk.t < 16) ∨ (f.k = 2 ∧ noRq f ∧ okC f.cm)
instance (f : Fr) : Decidable (okF f) := by unfold okF; infer_instance
def chkFr (f : Fr) : Int := if okF f then 0 else 8
theorem cf_0 {f : Fr} (h : okF f) : (0 : Int) = chkFr f := by unfold chkFr; rw [if_pos h]
theorem cf_8 {f : Fr} (h : ¬ okF f) : (8 : Int) = chkFr f := by unfold chkFr; rw [if_neg h]
theorem chkFr_ne {f : Fr} : (chkFr f != 0) = !decide (okF f) := by
  unfold chkFr
  by_cases h : okF f <;> simp [h]
theorem f23_ok (f : Fr) (hf : f.ok) : Fn Tryd.prog X.G 23 [.p (frv f)] (.p (.i .i64 (chkFr f))) := by
  refine Fn.intro (I := []) hX hm 0 Tryd.func23 rfl rfl (by kernel_rfl) rfl ?_
  have c1 := f57_ok f.cm hf.cm
  have e1 : ∀ b, PV.same (cmv f.cm) (cmv c00) = b → decide (f.cm = c00) = b := fun b h => by rw [← same_cm]; exact h
  have e2 : ∀ b, PV.same (rqv f) (rqv ⟨0, t0T, 0, 0, c00⟩) = b → decide (noRq f) = b := fun b h => by
    rw [same_rq] at h
    exact h
  conv => whnf
  refine iteC (fun k1 => ?_) (fun k1 => ?_)
  · have k1 : f.k = 1 := by simpa using k1
    have k2 : (f.k == 2) = false := beq_eq_false_iff_ne.2 (by omega)
    conv => whnf
    refine iteC (fun g1 => ?_) (fun g1 => ?_)
    · have g1 : f.cm = c00 := of_decide_eq_true (e1 _ g1)
      conv => whnf
      refine iteC (fun g2 => ?_) (fun g2 => ?_)
      · have g2 : f.tk.t < 16 := of_decide_eq_true g2
        rw [← cf_0 (.inl ⟨k1, g1, g2⟩)]
        rfl
      · have g2 : ¬ f.tk.t < 16 := of_decide_eq_false g2
        rw [← cf_8 (by rintro (h | h); exact g2 h.2.2; omega)]
        conv => whnf
        refine iteF k2 ?_
        rfl
    · have g1 : ¬ f.cm = c00 := of_decide_eq_false (e1 _ g1)
      rw [← cf_8 (by rintro (h | h); exact g1 h.2.1; omega)]
      conv => whnf
      refine iteF k2 ?_
      rfl
  · have k1 : f.k ≠ 1 := by simpa using k1
    conv => whnf
    refine iteC (fun k2 => ?_) (fun k2 => ?_)
    · have k2 : f.k = 2 := by simpa using k2
      conv => whnf
      refine iteC (fun g1 => ?_) (fun g1 => ?_)
      · have g1 : noRq f := of_decide_eq_true (e2 _ g1)
        conv => whnf
        refine ⟨_, c1, ?_⟩
        conv => whnf
        refine iteC (fun g2 => ?_) (fun g2 => ?_)
        · have g2 : okC f.cm := of_decide_eq_true g2
          rw [← cf_0 (.inr ⟨k2, g1, g2⟩)]
          rfl
        · have g2 : ¬ okC f.cm := of_decide_eq_false g2
          rw [← cf_8 (by rintro (h | h); omega; exact g2 h.2.2)]
          rfl
      · have g1 : ¬ noRq f := of_decide_eq_false (e2 _ g1)
        rw [← cf_8 (by rintro (h | h); omega; exact g1 h.2.1)]
        rfl
    · have k2 : f.k ≠ 2 := by simpa using k2
      rw [← cf_8 (by rintro (h | h); omega; omega)]
      rfl
theorem f5_ok (f : Fr) (hf : f.ok) : Fn Tryd.prog X.G 5 [.p (frv f)] (.p (.i .i64 (chkFr f))) := by
  refine Fn.intro (I := []) hX hm 0 Tryd.func5 rfl rfl (by kernel_rfl) rfl ?_
  have c1 := f19_ok f.cm hf.cm
  have e1 : ∀ b, PV.same (cmv f.cm) (cmv c00) = b → decide (f.cm = c00) = b := fun b h => by rw [← same_cm]; exact h
  have e2 : ∀ b, PV.same (rqv f) (rqv ⟨0, t0T, 0, 0, c00⟩) = b → decide (noRq f) = b := fun b h => by
    rw [same_rq] at h
    exact h
  conv => whnf
  refine iteC (fun k1 => ?_) (fun k1 => ?_)
  · have k1 : f.k = 1 := by simpa using k1
    conv => whnf
    refine iteC (fun g1 => ?_) (fun g1 => ?_)
    · have g1 : f.cm = c00 := of_decide_eq_true (e1 _ g1)
      conv => whnf
      refine iteC (fun g2 => ?_) (fun g2 => ?_)
      · have g2 : f.tk.t < 16 := of_decide_eq_true g2
        rw [← cf_0 (.inl ⟨k1, g1, g2⟩)]
        rfl
      · have g2 : ¬ f.tk.t < 16 := of_decide_eq_false g2
        rw [← cf_8 (by rintro (h | h); exact g2 h.2.2; omega)]
        rfl
    · have g1 : ¬ f.cm = c00 := of_decide_eq_false (e1 _ g1)
      rw [← cf_8 (by rintro (h | h); exact g1 h.2.1; omega)]
      rfl
  · have k1 : f.k ≠ 1 := by simpa using k1
    conv => whnf
    refine iteC (fun k2 => ?_) (fun k2 => ?_)
    · have k2 : f.k = 2 := by simpa using k2
      conv => whnf
      refine iteC (fun g1 => ?_) (fun g1 => ?_)
      · have g1 : noRq f := of_decide_eq_true (e2 _ g1)
        conv => whnf
        refine ⟨_, c1, ?_⟩
        conv => whnf
        refine iteC (fun g2 => ?_) (fun g2 => ?_)
        · have g2 : okC f.cm := of_decide_eq_true g2
          rw [← cf_0 (.inr ⟨k2, g1, g2⟩)]
          rfl
        · have g2 : ¬ okC f.cm := of_decide_eq_false g2
          rw [← cf_8 (by rintro (h | h); omega; exact g2 h.2.2)]
          rfl
      · have g1 : ¬ noRq f := of_decide_eq_false (e2 _ g1)
        rw [← cf_8 (by rintro (h | h); omega; exact g1 h.2.1)]
        rfl
    · have k2 : f.k ≠ 2 := by simpa using k2
      rw [← cf_8 (by rintro (h | h); omega; omega)]
      rfl
end Go.Proofs.YtipmkjfbdflneaaDoor.AM

namespace Go.Proofs.YtipmkjfbdflneaaDoor.AM
def fitL (l : Lm) : Prop := (0 ≤ l.b ∧ l.b < 4294967296) ∧ (0 ≤ l.r ∧ l.r < 4294967296) ∧ (0 ≤ l.p ∧ l.p < 4294967296)
def fitC (c : Cm) : Prop := fitL c.l0 ∧ fitL c.l1 ∧ fitL c.l2
theorem okC_fit {c : Cm} (h : okC c) : fitC c := by
  obtain ⟨q0, q1, q2⟩ := okC_lims h
  exact ⟨lim_range q0, lim_range q1, lim_range q2⟩
theorem rowC_ok' {c : Cm} (ho : c.ok) (h : fitC c) : ∀ f ∈ rowC c, f.ok := by
  obtain ⟨⟨a0, a1, a2⟩, ⟨b0, b1, b2⟩, ⟨d0, d1, d2⟩⟩ := h
  have k1 := ho.op
  have k2 := ho.t
  have k3 := ho.u
  have k4 := ho.us
  have k5 := ho.en
  have k6 := ho.x
  intro f hf
  simp only [rowC, List.mem_cons, List.not_mem_nil, or_false] at hf
  rcases hf with rfl | rfl | rfl | rfl | rfl | rfl | rfl | rfl | rfl | rfl | rfl | rfl | rfl | rfl | rfl | rfl | rfl
  case inr.inr.inr.inr.inr.inr.inr.inr.inr.inr.inr.inr.inr.inr.inr.inr =>
    exact ⟨(by decide : (0 : Int) ≤ 6 ∧ (6 : Int) < 256), (by decide : (0 : Int) ≤ 0 ∧ (0 : Int) < 18446744073709551616), ho.d⟩
  all_goals exact numF_ok (by decide) (by omega)
theorem rowC_ok {c : Cm} (ho : c.ok) (h : okC c) : ∀ f ∈ rowC c, f.ok := rowC_ok' ho (okC_fit h)
theorem rowC_fine' {c : Cm} (ho : c.ok) (h : fitC c) : rowE (rowC c) = 0 := by
  obtain ⟨⟨a0, a1, a2⟩, ⟨b0, b1, b2⟩, ⟨d0, d1, d2⟩⟩ := h
  have k1 := ho.op
  have k2 := ho.t
  have k3 := ho.u
  have k4 := ho.us
  have k5 := ho.en
  have k6 := ho.x
  refine row_of (by simp [rowC]) fun f hf => ?_
  simp only [rowC, List.mem_cons, List.not_mem_nil, or_false] at hf
  rcases hf with rfl | rfl | rfl | rfl | rfl | rfl | rfl | rfl | rfl | rfl | rfl | rfl | rfl | rfl | rfl | rfl | rfl <;> simp [badF, widK, mostK] <;> omega
theorem rowC_fine {c : Cm} (ho : c.ok) (h : okC c) : rowE (rowC c) = 0 := rowC_fine' ho (okC_fit h)
def bytesC (c : Cm) : List Int := msgC c ++ c.d
theorem rowC_flat {c : Cm} (ho : c.ok) : flatF (rowC c) = bytesC c := by
  have e2 : oneF (numF 2 2) = [2] := by decide
  have e3 : oneF (numF 2 c.op) = [c.op] := byteU_1 ho.op
  have e4 : oneF (numF 2 c.us) = [c.us] := byteU_1 ho.us
  have e5 : oneF (numF 2 c.en) = [c.en] := byteU_1 ho.en
  have e6 : ∀ n, oneF (numF 4 n) = bytesU n 4 := fun n => rfl
  have e7 : ∀ n, oneF (numF 5 n) = bytesU n 8 := fun n => rfl
  have e8 : oneF ⟨6, 0, c.d⟩ = c.d := rfl
  simp only [flatF, rowC, bytesC, msgC, List.flatMap_cons, List.flatMap_nil, e2, e3, e4, e5, e6, e7, e8, List.append_nil, List.append_assoc, List.cons_append, List.nil_append]
theorem msgC_len (c : Cm) : (msgC c).length = 56 := by simp [msgC, bytesU_length]
theorem bytesC_len {c : Cm} (ho : c.ok) : (bytesC c).length = 88 := by simp [bytesC, msgC_len, ho.d.1]
def bytesR (f : Fr) : List Int := [1] ++ bytesT f.tk ++ (bytesU f.ep 2 ++ bytesU f.co 4)
def bytesF (f : Fr) : List Int := if f.k = 2 then bytesC f.cm else bytesR f
def writeF (f : Fr) : List Int := if okF f then bytesF f else []
def tenF (f : Fr) : Int := if okF f then (if f.k = 2 then f.cm.t else f.tk.t) else 0
def rowQ (f : Fr) : List Fd := [numF 3 f.ep, numF 4 f.co]
def rowQw (f : Fr) : List Fd := [numF 3 (IntKind.u64.wrap f.ep), numF 4 (IntKind.u64.wrap f.co)]
theorem rowQw_eq {f : Fr} (hf : f.ok) : rowQw f = rowQ f := by
  have h1 := hf.ep
  have h2 := hf.co
  unfold rowQw rowQ
  rw [wr_u64 h1.1 (by omega), wr_u64 h2.1 (by omega)]
theorem rowQ_ok {f : Fr} (hf : f.ok) : ∀ g ∈ rowQ f, g.ok := by
  have h1 := hf.ep
  have h2 := hf.co
  intro g hg
  simp only [rowQ, List.mem_cons, List.not_mem_nil, or_false] at hg
  rcases hg with rfl | rfl <;> exact numF_ok (by decide) (by omega)
theorem rowQ_fine {f : Fr} (hf : f.ok) : rowE (rowQ f) = 0 := by
  have h1 := hf.ep
  have h2 := hf.co
  refine row_of (by simp [rowQ]) fun g hg => ?_
  simp only [rowQ, List.mem_cons, List.not_mem_nil, or_false] at hg
  rcases hg with rfl | rfl <;> simp [badF, widK, mostK] <;> omega
theorem rowQ_flat (f : Fr) : flatF (rowQ f) = bytesU f.ep 2 ++ bytesU f.co 4 := by
  have e1 : ∀ n, oneF (numF 3 n) = bytesU n 2 := fun n => rfl
  have e6 : ∀ n, oneF (numF 4 n) = bytesU n 4 := fun n => rfl
  simp only [flatF, rowQ, List.flatMap_cons, List.flatMap_nil, e1, e6, List.append_nil]
theorem f8_ok (f : Fr) (hf : f.ok) : Fn Tryd.prog X.G 8 [.p (frv f)] (.tup [bvs (writeF f), .p (.i .i64 (chkFr f))]) := by
  refine Fn.intro (I := []) hX hm 0 Tryd.func8 rfl rfl (by kernel_rfl) rfl ?_
  have c1 := f23_ok f hf
  have hbt := bytesT_len hf.tk
  conv => whnf
  refine ⟨_, c1, ?_⟩
  conv => whnf
  refine iteC (fun h => ?_) (fun h => ?_)
  · rw [chkFr_ne] at h
    have h : ¬ okF f := by simpa using h
    rw [show writeF f = [] from by unfold writeF; rw [if_neg h]]
    rfl
  rw [chkFr_ne] at h
  have h : okF f := by simpa using h
  rw [show writeF f = bytesF f from by unfold writeF; rw [if_pos h], ← cf_0 h]
  conv => whnf
  refine iteC (fun k => ?_) (fun k => ?_)
  · have k : f.k = 2 := by simpa using k
    have hc : okC f.cm := by
      rcases h with h | h
      · omega
      · exact h.2.2
    have c2 := f29_ok f.cm
    rw [rowCw_eq hf.cm hc] at c2
    have c3 := f28_ok (rowC f.cm) (rowC_ok hf.cm hc) (by simp [rowC])
    rw [rowC_fine hf.cm hc, rowL_eq (rowC_fine hf.cm hc), rowC_flat hf.cm] at c3
    rw [show bytesF f = bytesC f.cm from by unfold bytesF; rw [if_pos k]]
    generalize rowC f.cm = R at *
    conv => whnf
    refine ⟨_, c2, ?_⟩
    conv => whnf
    refine ⟨_, c3, ?_⟩
    rfl
  · have k : f.k ≠ 2 := by simpa using k
    have c3 := f28_ok (rowQ f) (rowQ_ok hf) (by simp [rowQ])
    rw [rowQ_fine hf, rowL_eq (rowQ_fine hf), rowQ_flat, ← rowQw_eq hf] at c3
    rw [show bytesF f = bytesR f from by unfold bytesF; rw [if_neg k]]
    have c4 := f30_ok f.tk hf.tk
    unfold bytesR
    generalize hq : bytesU f.ep 2 ++ bytesU f.co 4 = q at *
    have hql : q.length = 6 := by rw [← hq]; simp [bytesU_length]
    generalize bytesT f.tk = B at *
    rw [show bvs ([1] ++ B ++ q) = AV.ro ush (bv [1] ++ bv B ++ bv q) from by simp [bvs]]
    conv => whnf
    refine ⟨_, c3, ?_⟩
    conv => whnf
    refine ⟨_, c4, ?_⟩
    conv => whnf
    conv => arg 2; repeat (first | rw [capN _ (by simp; omega)] | (whnf; arg 2))
    conv => whnf
    conv => arg 2; repeat (first | rw [capN _ (by simp; omega)] | (whnf; arg 2))
    conv => whnf
    rfl
def befC (c : Cm) : List Int := if okC c then msgC c else []
def befE (c : Cm) : Int := if okC c then 0 else 8
theorem f36_ok (c : Cm) (hc : c.ok) : Fn Tryd.prog X.G 36 [.p (cmv c)] (.tup [bvs (befC c), .p (.i .i64 (befE c))]) := by
  refine Fn.intro (I := []) hX hm 0 Tryd.func36 rfl rfl (by kernel_rfl) rfl ?_
  conv => whnf
  refine ⟨_, f57_ok c hc, ?_⟩
  conv => whnf
  refine iteC (fun h => ?_) (fun h => ?_)
  · have h : okC c := of_decide_eq_true h
    have c2 := f29_ok c
    rw [rowCw_eq hc h] at c2
    have c3 := f28_ok (rowC c) (rowC_ok hc h) (by simp [rowC])
    rw [rowC_fine hc h, rowL_eq (rowC_fine hc h), rowC_flat hc] at c3
    have hml := msgC_len c
    have hbl := bytesC_len hc
    have e8 : List.take ((56 : Int)).toNat (List.drop 0 (bv (bytesC c))) = bv (msgC c) := by
      show List.take 56 (bv (msgC c ++ c.d)) = bv (msgC c)
      rw [bv_app, List.take_left' (by simp [hml])]
    have c4 := f70_ok (msgC c) (by omega)
    rw [show befC c = msgC c from by unfold befC; rw [if_pos h], show befE c = 0 from by unfold befE; rw [if_pos h]]
    unfold bvs at c4
    rw [← e8] at c4
    have d1 : decide ((56 : Int) ≤ ((bv (bytesC c)).length : Int)) = true := decide_eq_true (by rw [List.length_map, hbl]; decide)
    generalize bytesC c = B at *
    generalize msgC c = m at *
    generalize rowC c = R at *
    conv => whnf
    refine ⟨_, c2, ?_⟩
    conv => whnf
    refine ⟨_, c3, ?_⟩
    conv => whnf
    conv => arg 2; repeat (first | rw [d1] | (whnf; arg 2))
    conv => whnf
    refine ⟨_, c4, ?_⟩
    conv => whnf
    exact congrArg (fun l => some (AV.tup [.ro ush l, .p (.i .i64 0)])) e8
  · have h : ¬ okC c := of_decide_eq_false h
    rw [show befC c = [] from by unfold befC; rw [if_neg h], show befE c = 8 from by unfold befE; rw [if_neg h]]
    rfl
theorem bytesF_len {f : Fr} (hf : f.ok) : (bytesF f).length = if f.k = 2 then 88 else 59 := by
  have hbt := bytesT_len hf.tk
  unfold bytesF
  split
  · exact bytesC_len hf.cm
  · simp [bytesR, bytesU_length, hbt]
theorem writeF_len {f : Fr} (hf : f.ok) : (writeF f).length ≤ 88 := by
  unfold writeF
  split
  · rw [bytesF_len hf]
    split <;> decide
  · simp
theorem befC_len (c : Cm) : (befC c).length ≤ 56 := by
  unfold befC
  split
  · rw [msgC_len]; decide
  · simp
theorem arrS_of {n : Nat} {s : Sh} {y : PV} (h1 : y.sh = .arr n s) (h2 : y.ok) (h3 : y.wf) : ∃ l, y = .arr n s l ∧ l.length = n ∧ ∀ z ∈ l, z.sh = s ∧ z.ok ∧ z.wf := by
  cases y with
  | arr n' s' l =>
    simp only [PV.sh, Sh.arr.injEq] at h1
    obtain ⟨rfl, rfl⟩ := h1
    obtain ⟨g1, g2, g3⟩ := h2
    exact ⟨l, rfl, g1, fun z hz => ⟨PV.allSh_iff.1 g3 z hz, PV.okL_iff.1 g2 z hz, PV.wfL_iff.1 h3 z hz⟩⟩
  | _ => simp [PV.sh] at h1
theorem lm_of {y : PV} (h1 : y.sh = lsh) (h3 : y.wf) : ∃ l : Lm, y = lmv l ∧ l.ok := by
  obtain ⟨ys, rfl, h, hw⟩ := st_of h1 h3
  obtain ⟨n0, y0, rfl, w0, h, hw⟩ := shL_int h hw
  obtain ⟨n1, y1, rfl, w1, h, hw⟩ := shL_int h hw
  obtain ⟨n2, y2, rfl, w2, h, hw⟩ := shL_int h hw
  obtain rfl := shL_nil h
  exact ⟨⟨n0, n1, n2⟩, rfl, ⟨wf_i64 w0, wf_i64 w1, wf_i64 w2⟩⟩
theorem cm_of {y : PV} (h1 : y.sh = csh) (h2 : y.ok) (h3 : y.wf) : ∃ c : Cm, y = cmv c ∧ c.ok := by
  obtain ⟨ys, rfl, h, hw⟩ := st_of h1 h3
  have hok : PV.okL ys := h2
  obtain ⟨n0, y0, rfl, w0, h, hw⟩ := shL_int h hw
  obtain ⟨n1, y1, rfl, w1, h, hw⟩ := shL_int h hw
  obtain ⟨n2, y2, rfl, w2, h, hw⟩ := shL_int h hw
  obtain ⟨t3, y3, rfl, ht3, hw3, h, hw⟩ := shL_cons h hw
  obtain ⟨n4, y4, rfl, w4, h, hw⟩ := shL_int h hw
  obtain ⟨n5, y5, rfl, w5, h, hw⟩ := shL_int h hw
  obtain ⟨n6, y6, rfl, w6, h, hw⟩ := shL_int h hw
  obtain ⟨t7, y7, rfl, ht7, hw7, h, hw⟩ := shL_cons h hw
  obtain rfl := shL_nil h
  obtain ⟨d, rfl, hd⟩ := dg_of ht7 hok.2.2.2.2.2.2.2.1 hw7
  obtain ⟨l, rfl, hl, hz⟩ := arrS_of ht3 hok.2.2.2.1 hw3
  match l, hl with
  | [a, b, c], _ =>
    obtain ⟨a, rfl, ha⟩ := lm_of (hz a (by simp)).1 (hz a (by simp)).2.2
    obtain ⟨b, rfl, hb⟩ := lm_of (hz b (by simp)).1 (hz b (by simp)).2.2
    obtain ⟨c, rfl, hc⟩ := lm_of (hz c (by simp)).1 (hz c (by simp)).2.2
    exact ⟨⟨n0, n1, n2, a, b, c, n4, n5, n6, d⟩, rfl, ⟨wf_u8 w0, wf_u32 w1, wf_u32 w2, ha, hb, hc, wf_u8 w4, wf_u8 w5, wf_u64 w6, hd⟩⟩
theorem fr_of {y : PV} (h1 : y.sh = frsh) (h2 : y.ok) (h3 : y.wf) : ∃ f : Fr, y = frv f ∧ f.ok := by
  obtain ⟨ys, rfl, h, hw⟩ := st_of h1 h3
  have hok : PV.okL ys := h2
  obtain ⟨n0, y0, rfl, w0, h, hw⟩ := shL_int h hw
  obtain ⟨t1, y1, rfl, ht1, hw1, h, hw⟩ := shL_cons h hw
  obtain ⟨t2, y2, rfl, ht2, hw2, h, hw⟩ := shL_cons h hw
  obtain rfl := shL_nil h
  obtain ⟨c, rfl, hc⟩ := cm_of ht2 hok.2.2.1 hw2
  have hok1 := hok.2.1
  obtain ⟨zs, rfl, h, hw⟩ := st_of ht1 hw1
  have hokz : PV.okL zs := hok1
  obtain ⟨t3, y3, rfl, ht3, hw3, h, hw⟩ := shL_cons h hw
  obtain ⟨n4, y4, rfl, w4, h, hw⟩ := shL_int h hw
  obtain ⟨n5, y5, rfl, w5, h, hw⟩ := shL_int h hw
  obtain rfl := shL_nil h
  obtain ⟨t, rfl, ht⟩ := tk_of ht3 hokz.1 hw3
  exact ⟨⟨n0, t, n4, n5, c⟩, rfl, ⟨wf_u8 w0, ht, wf_u16 w4, wf_u32 w5, hc⟩⟩
end Go.Proofs.YtipmkjfbdflneaaDoor.AM
