/- Frames: plain data, checks, bytes, tenants. -/
import Derived.Test.YtjgffjofgeppoaaFrameB
import Derived.Test.YtjgffjofgeppoaaTokB
namespace Go.Proofs.Ytjgffjofgeppoaa.AM
open Go Go.Proofs
set_option maxRecDepth 100000
structure Fr where
  k : Int
  tk : Tk
  ep : Int
  co : Int
  cm : Cm
abbrev qsh : Sh := .st [tsh, .int .u16, .int .u32]
abbrev frsh : Sh := .st [.int .u8, qsh, csh]
abbrev rqv (f : Fr) : PV := .st [tkv f.tk, .i .u16 f.ep, .i .u32 f.co]
abbrev frv (f : Fr) : PV := .st [.i .u8 f.k, .st [tkv f.tk, .i .u16 f.ep, .i .u32 f.co], cmv f.cm]
structure Fr.ok (f : Fr) : Prop where
  k : 0 ≤ f.k ∧ f.k < 256
  tk : f.tk.ok
  ep : 0 ≤ f.ep ∧ f.ep < 65536
  co : 0 ≤ f.co ∧ f.co < 4294967296
  cm : f.cm.ok
def l00 : Lm := ⟨0, 0, 0⟩
def c00 : Cm := ⟨0, 0, 0, l00, l00, l00, 0, 0, 0, zd⟩
theorem Tk.eq_iff (x y : Tk) : x = y ↔ x.t = y.t ∧ x.u = y.u ∧ x.e = y.e ∧ x.x = y.x ∧ x.d = y.d := by
  obtain ⟨a, b, c, d, e⟩ := x
  obtain ⟨a', b', c', d', e'⟩ := y
  simp
theorem Lm.eq_iff (x y : Lm) : x = y ↔ x.b = y.b ∧ x.r = y.r ∧ x.p = y.p := by
  obtain ⟨a, b, c⟩ := x
  obtain ⟨a', b', c'⟩ := y
  simp
theorem Cm.eq_iff (x y : Cm) : x = y ↔ x.op = y.op ∧ x.t = y.t ∧ x.u = y.u ∧ x.l0 = y.l0 ∧ x.l1 = y.l1 ∧ x.l2 = y.l2 ∧ x.us = y.us ∧ x.en = y.en ∧ x.x = y.x ∧ x.d = y.d := by
  obtain ⟨a, b, c, d, e, f, g, h, i, j⟩ := x
  obtain ⟨a', b', c', d', e', f', g', h', i', j'⟩ := y
  simp
theorem Fr.eq_iff (x y : Fr) : x = y ↔ x.k = y.k ∧ x.tk = y.tk ∧ x.ep = y.ep ∧ x.co = y.co ∧ x.cm = y.cm := by
  obtain ⟨a, b, c, d, e⟩ := x
  obtain ⟨a', b', c', d', e'⟩ := y
  simp
instance : DecidableEq Tk := fun x y => decidable_of_iff _ (Tk.eq_iff x y).symm
instance : DecidableEq Lm := fun x y => decidable_of_iff _ (Lm.eq_iff x y).symm
instance : DecidableEq Cm := fun x y => decidable_of_iff _ (Cm.eq_iff x y).symm
instance : DecidableEq Fr := fun x y => decidable_of_iff _ (Fr.eq_iff x y).symm
theorem same_lm (x y : Lm) : PV.same (lmv x) (lmv y) = decide (x = y) := by
  rw [Bool.eq_iff_iff, decide_eq_true_iff, Lm.eq_iff]
  simp [PV.same, PV.sameL]
theorem same_tk (x y : Tk) : PV.same (tkv x) (tkv y) = decide (x = y) := by
  rw [Bool.eq_iff_iff, decide_eq_true_iff, Tk.eq_iff]
  simp only [PV.same, PV.sameL, sameL_bv]
  simp
theorem same_cm (x y : Cm) : PV.same (cmv x) (cmv y) = decide (x = y) := by
  rw [Bool.eq_iff_iff, decide_eq_true_iff, Cm.eq_iff]
  have h : ∀ a b : Lm, PV.same (.st [.i .i64 a.b, .i .i64 a.r, .i .i64 a.p]) (.st [.i .i64 b.b, .i .i64 b.r, .i .i64 b.p]) = decide (a = b) := same_lm
  simp only [PV.same, PV.sameL, sameL_bv] at h ⊢
  simp only [h]
  simp [and_assoc]
theorem same_rq (f g : Fr) : PV.same (rqv f) (rqv g) = decide (f.tk = g.tk ∧ f.ep = g.ep ∧ f.co = g.co) := by
  have h : PV.same (tkv f.tk) (tkv g.tk) = decide (f.tk = g.tk) := same_tk _ _
  rw [Bool.eq_iff_iff, decide_eq_true_iff]
  show (PV.same (tkv f.tk) (tkv g.tk) && (PV.same (.i .u16 f.ep) (.i .u16 g.ep) && (PV.same (.i .u32 f.co) (.i .u32 g.co) && PV.sameL [] []))) = true ↔ _
  rw [h]
  simp [PV.same, PV.sameL]
theorem same_fr (f g : Fr) : PV.same (frv f) (frv g) = decide (f = g) := by
  have h1 := same_rq f g
  have h2 := same_cm f.cm g.cm
  rw [Bool.eq_iff_iff, decide_eq_true_iff, Fr.eq_iff]
  show (PV.same (.i .u8 f.k) (.i .u8 g.k) && (PV.same (rqv f) (rqv g) && (PV.same (cmv f.cm) (cmv g.cm) && PV.sameL [] []))) = true ↔ _
  rw [h1, h2]
  simp [PV.same, PV.sameL, and_assoc]
def noRq (f : Fr) : Prop := f.tk = t0T ∧ f.ep = 0 ∧ f.co = 0
instance (f : Fr) : Decidable (noRq f) := by unfold noRq; infer_instance
def okF (f : Fr) : Prop := (f.k = 1 ∧ f.cm = c00 ∧ f.tk.t < 16) ∨ (f.k = 2 ∧ noRq f ∧ okC f.cm)
instance (f : Fr) : Decidable (okF f) := by unfold okF; infer_instance
def chkFr (f : Fr) : Int := if okF f then 0 else 8
theorem cf_0 {f : Fr} (h : okF f) : (0 : Int) = chkFr f := by unfold chkFr; rw [if_pos h]
theorem cf_8 {f : Fr} (h : ¬ okF f) : (8 : Int) = chkFr f := by unfold chkFr; rw [if_neg h]
theorem chkFr_ne {f : Fr} : (chkFr f != 0) = !decide (okF f) := by
  unfold chkFr
  by_cases h : okF f <;> simp [h]
theorem f58_ok (f : Fr) (hf : f.ok) : Fn Try.prog X.G 58 [.p (frv f)] (.p (.i .i64 (chkFr f))) := by
  refine Fn.intro (I := []) hX hm 0 Try.func58 rfl rfl (by kernel_rfl) rfl ?_
  have c1 := f92_ok f.cm hf.cm
  have e1 : ∀ b, PV.same (cmv f.cm) (cmv c00) = b → decide (f.cm = c00) = b := fun b h => by rw [← same_cm]; exact h
  have e2 : ∀ b, PV.same (rqv f) (rqv ⟨0, t0T, 0, 0, c00⟩) = b → decide (noRq f) = b := fun b h => by
    rw [same_rq] at h
    exact h
  conv => whnf
  refine iteC (fun k1 => ?_) (fun k1 => ?_)
  · have k1 : f.k = 1 := by simpa using k1
    have k2 : (f.k == 2) = false := beq_eq_false_iff_ne.2 (by omega)
    conv => whnf
    refine iteC (fun g1 => ?_) (fun g1 => ?_)
    · have g1 : f.cm = c00 := of_decide_eq_true (e1 _ g1)
      conv => whnf
      refine iteC (fun g2 => ?_) (fun g2 => ?_)
      · have g2 : f.tk.t < 16 := of_decide_eq_true g2
        rw [← cf_0 (.inl ⟨k1, g1, g2⟩)]
        rfl
      · have g2 : ¬ f.tk.t < 16 := of_decide_eq_false g2
        rw [← cf_8 (by rintro (h | h); exact g2 h.2.2; omega)]
        conv => whnf
        refine iteF k2 ?_
        rfl
    · have g1 : ¬ f.cm = c00 := of_decide_eq_false (e1 _ g1)
      rw [← cf_8 (by rintro (h | h); exact g1 h.2.1; omega)]
      conv => whnf
      refine iteF k2 ?_
      rfl
  · have k1 : f.k ≠ 1 := by simpa using k1
    conv => whnf
    refine iteC (fun k2 => ?_) (fun k2 => ?_)
    · have k2 : f.k = 2 := by simpa using k2
      conv => whnf
      refine iteC (fun g1 => ?_) (fun g1 => ?_)
      · have g1 : noRq f := of_decide_eq_true (e2 _ g1)
        conv => whnf
        refine ⟨_, c1, ?_⟩
        conv => whnf
        refine iteC (fun g2 => ?_) (fun g2 => ?_)
        · have g2 : okC f.cm := of_decide_eq_true g2
          rw [← cf_0 (.inr ⟨k2, g1, g2⟩)]
          rfl
        · have g2 : ¬ okC f.cm := of_decide_eq_false g2
          rw [← cf_8 (by rintro (h | h); omega; exact g2 h.2.2)]
          rfl
      · have g1 : ¬ noRq f := of_decide_eq_false (e2 _ g1)
        rw [← cf_8 (by rintro (h | h); omega; exact g1 h.2.1)]
        rfl
    · have k2 : f.k ≠ 2 := by simpa using k2
      rw [← cf_8 (by rintro (h | h); omega; omega)]
      rfl
theorem f59_ok (f : Fr) (hf : f.ok) : Fn Try.prog X.G 59 [.p (frv f)] (.p (.i .i64 (chkFr f))) := by
  refine Fn.intro (I := []) hX hm 0 Try.func59 rfl rfl (by kernel_rfl) rfl ?_
  have c1 := f65_ok f.cm hf.cm
  have e1 : ∀ b, PV.same (cmv f.cm) (cmv c00) = b → decide (f.cm = c00) = b := fun b h => by rw [← same_cm]; exact h
  have e2 : ∀ b, PV.same (rqv f) (rqv ⟨0, t0T, 0, 0, c00⟩) = b → decide (noRq f) = b := fun b h => by
    rw [same_rq] at h
    exact h
  conv => whnf
  refine iteC (fun k1 => ?_) (fun k1 => ?_)
  · have k1 : f.k = 1 := by simpa using k1
    conv => whnf
    refine iteC (fun g1 => ?_) (fun g1 => ?_)
    · have g1 : f.cm = c00 := of_decide_eq_true (e1 _ g1)
      conv => whnf
      refine iteC (fun g2 => ?_) (fun g2 => ?_)
      · have g2 : f.tk.t < 16 := of_decide_eq_true g2
        rw [← cf_0 (.inl ⟨k1, g1, g2⟩)]
        rfl
      · have g2 : ¬ f.tk.t < 16 := of_decide_eq_false g2
        rw [← cf_8 (by rintro (h | h); exact g2 h.2.2; omega)]
        rfl
    · have g1 : ¬ f.cm = c00 := of_decide_eq_false (e1 _ g1)
      rw [← cf_8 (by rintro (h | h); exact g1 h.2.1; omega)]
      rfl
  · have k1 : f.k ≠ 1 := by simpa using k1
    conv => whnf
    refine iteC (fun k2 => ?_) (fun k2 => ?_)
    · have k2 : f.k = 2 := by simpa using k2
      conv => whnf
      refine iteC (fun g1 => ?_) (fun g1 => ?_)
      · have g1 : noRq f := of_decide_eq_true (e2 _ g1)
        conv => whnf
        refine ⟨_, c1, ?_⟩
        conv => whnf
        refine iteC (fun g2 => ?_) (fun g2 => ?_)
        · have g2 : okC f.cm := of_decide_eq_true g2
          rw [← cf_0 (.inr ⟨k2, g1, g2⟩)]
          rfl
        · have g2 : ¬ okC f.cm := of_decide_eq_false g2
          rw [← cf_8 (by rintro (h | h); omega; exact g2 h.2.2)]
          rfl
      · have g1 : ¬ noRq f := of_decide_eq_false (e2 _ g1)
        rw [← cf_8 (by rintro (h | h); omega; exact g1 h.2.1)]
        rfl
    · have k2 : f.k ≠ 2 := by simpa using k2
      rw [← cf_8 (by rintro (h | h); omega; omega)]
      rfl
end Go.Proofs.Ytjgffjofgeppoaa.AM
