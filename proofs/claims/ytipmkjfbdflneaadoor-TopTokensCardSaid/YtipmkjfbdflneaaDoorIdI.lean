/- Tables: one minted and told from another; the order of two tokens; what comes of a table that is fine. -/
import Derived.Test.YtipmkjfbdflneaaDoorIdZ
namespace Go.Proofs.YtipmkjfbdflneaaDoor.AM
open Go Go.Proofs
set_option maxRecDepth 100000

theorem neqS (x : Int) : (!(x == x)) = false := by rw [beq_self_eq_true]; rfl
theorem eq0 {x : Int} (h : ¬ x = 0) : (x == 0) = false := beq_eq_false_iff_ne.2 h
theorem reqF_ok {t : Tk} {en co : Int} (h : t.ok) (he : 0 ≤ en ∧ en < 65536) (hc : 0 ≤ co ∧ co < 4294967296) : (reqF t en co).ok := ⟨rngI rfl, h, he, hc, c00_okI⟩
theorem reqF_okF {t : Tk} {en co : Int} (h : t.t < 16) : okF (reqF t en co) := Or.inl ⟨rfl, rfl, h⟩
theorem same_req {d : Id} {t : Tk} {en co : Int} : sameP d (reqF t en co) ↔ t ∈ d.ts := ⟨fun h => h.elim (fun h => h.2) fun h => absurd h.1 (show ¬ (1 : Int) = 2 by decide), fun h => .inl ⟨rfl, h⟩⟩
theorem fine_nil : (⟨[], []⟩ : Id).fine := ⟨by simp [Id.n], ⟨by simp, by simp⟩, ⟨by simp, by simp⟩⟩
/-- An accepted token: the table that comes of it. -/
theorem same_of {d : Id} {f : Fr} (e : pErr d f = 0) (h : thereP d f) : sameP d f := by
  obtain ⟨hF, hk, _⟩ := pErr_0 e
  apply Classical.byContradiction
  intro hn
  rw [pErr_14 (fine_iff.2 hF) hk h hn] at e
  cases e
theorem not_full {d : Id} {f : Fr} (e : pErr d f = 0) (h : ¬ thereP d f) : ¬ d.n = 100 := by
  obtain ⟨hF, hk, _⟩ := pErr_0 e
  intro hn
  rw [pErr_4 (fine_iff.2 hF) hk h hn] at e
  cases e
section
variable {d : Id} {t u : Tk} {c : Cm}
theorem addT_fine (e : pErr d (tokF t) = 0) : chkI (addT d t) = 0 := by
  obtain ⟨hF, hk, _⟩ := pErr_0 e
  by_cases h : thereP d (tokF t)
  · rw [addT_old e h]; exact fine_iff.2 hF
  · rw [addT_new e h]; exact newT hF (tokF_okF.1 hk) h (not_full e h)
theorem addC_fine (e : pErr d (comF c) = 0) : chkI (addC d c) = 0 := by
  obtain ⟨hF, hk, _⟩ := pErr_0 e
  by_cases h : thereP d (comF c)
  · rw [addC_old e h]; exact fine_iff.2 hF
  · rw [addC_new e h]; exact newC hF (comF_okF.1 hk) h (not_full e h)
theorem addT_ok (hd : d.ok) (ht : t.ok) : (addT d t).ok := by
  by_cases e : pErr d (tokF t) = 0
  · by_cases h : thereP d (tokF t)
    · rw [addT_old e h]; exact hd
    · rw [addT_new e h]
      have := (pErr_0 e).1.n
      exact okT_snoc hd ht (by omega)
  · rw [addT_err e]; exact ok_nil
theorem addC_ok (hd : d.ok) (hc : c.ok) : (addC d c).ok := by
  by_cases e : pErr d (comF c) = 0
  · by_cases h : thereP d (comF c)
    · rw [addC_old e h]; exact hd
    · rw [addC_new e h]
      have := (pErr_0 e).1.n
      exact okC_snoc hd hc (by omega)
  · rw [addC_err e]; exact ok_nil
theorem same_addT {f : Fr} (e : pErr d (tokF t) = 0) : sameP (addT d t) f ↔ sameP d f ∨ (f.k = 1 ∧ f.tk = t) := by
  by_cases h : thereP d (tokF t)
  · rw [addT_old e h]
    refine ⟨.inl, fun h2 => h2.elim id fun h3 => .inl ⟨h3.1, ?_⟩⟩
    rw [h3.2]
    exact same_t.1 (same_of e h)
  · rw [addT_new e h]
    unfold sameP
    simp only [List.mem_append, List.mem_singleton]
    constructor
    · rintro (⟨h1, h2 | h2⟩ | h2)
      · exact .inl (.inl ⟨h1, h2⟩)
      · exact .inr ⟨h1, h2⟩
      · exact .inl (.inr h2)
    · rintro ((⟨h1, h2⟩ | h2) | ⟨h1, h2⟩)
      · exact .inl ⟨h1, .inl h2⟩
      · exact .inr h2
      · exact .inl ⟨h1, .inr h2⟩
theorem same_addC {f : Fr} (e : pErr d (comF c) = 0) : sameP (addC d c) f ↔ sameP d f ∨ (f.k = 2 ∧ f.cm = c) := by
  by_cases h : thereP d (comF c)
  · rw [addC_old e h]
    refine ⟨.inl, fun h2 => h2.elim id fun h3 => .inr ⟨h3.1, ?_⟩⟩
    rw [h3.2]
    exact same_c.1 (same_of e h)
  · rw [addC_new e h]
    unfold sameP
    simp only [List.mem_append, List.mem_singleton]
    constructor
    · rintro (h2 | ⟨h1, h2 | h2⟩)
      · exact .inl (.inl h2)
      · exact .inl (.inr ⟨h1, h2⟩)
      · exact .inr ⟨h1, h2⟩
    · rintro ((h2 | ⟨h1, h2⟩) | ⟨h1, h2⟩)
      · exact .inl h2
      · exact .inr ⟨h1, .inl h2⟩
      · exact .inr ⟨h1, .inr h2⟩
/-- A second time: as it is. -/
theorem againT (e : pErr d (tokF t) = 0) : pErr (addT d t) (tokF t) = 0 ∧ addT (addT d t) t = addT d t := by
  have hs : sameP (addT d t) (tokF t) := (same_addT e).2 (.inr ⟨rfl, rfl⟩)
  have e2 := pErr_same (addT_fine e) (pErr_0 e).2.1 hs
  exact ⟨e2, addT_old e2 (same_there hs)⟩
theorem againC (e : pErr d (comF c) = 0) : pErr (addC d c) (comF c) = 0 ∧ addC (addC d c) c = addC d c := by
  have hs : sameP (addC d c) (comF c) := (same_addC e).2 (.inr ⟨rfl, rfl⟩)
  have e2 := pErr_same (addC_fine e) (pErr_0 e).2.1 hs
  exact ⟨e2, addC_old e2 (same_there hs)⟩
/-- The order of two tokens. -/
theorem order_new (ht : pErr d (tokF t) = 0) (hu : pErr d (tokF u) = 0) (h1 : thereP d (tokF t)) : pErr (addT d t) (tokF u) = pErr (addT d u) (tokF t) := by
  rw [addT_old ht h1, hu]
  exact (pErr_same (addT_fine hu) (pErr_0 ht).2.1 ((same_addT hu).2 (.inl (same_of ht h1)))).symm
theorem order_err (ht : pErr d (tokF t) = 0) (hu : pErr d (tokF u) = 0) : pErr (addT d t) (tokF u) = pErr (addT d u) (tokF t) := by
  by_cases h1 : thereP d (tokF t)
  · exact order_new ht hu h1
  by_cases h2 : thereP d (tokF u)
  · exact (order_new hu ht h2).symm
  have f1 := addT_fine ht
  have f2 := addT_fine hu
  have k1 := (pErr_0 ht).2.1
  have k2 := (pErr_0 hu).2.1
  rw [addT_new ht h1] at f1 ⊢
  rw [addT_new hu h2] at f2 ⊢
  by_cases hb : bareK t = bareK u
  · by_cases htu : t = u
    · subst htu; rfl
    · rw [pErr_14 f1 k2 (there_t.2 ⟨t, by simp, hb⟩) (fun h => ?_), pErr_14 f2 k1 (there_t.2 ⟨u, by simp, hb.symm⟩) (fun h => ?_)]
      · rcases List.mem_append.1 (same_t.1 h) with h | h
        · exact h1 (there_t.2 ⟨_, h, rfl⟩)
        · exact htu (List.mem_singleton.1 h)
      · rcases List.mem_append.1 (same_t.1 h) with h | h
        · exact h2 (there_t.2 ⟨_, h, rfl⟩)
        · exact htu (List.mem_singleton.1 h).symm
  · have n1 : ¬ thereP ⟨d.ts ++ [t], d.cs⟩ (tokF u) := fun h => by
      obtain ⟨x, hx, he⟩ := there_t.1 h
      rcases List.mem_append.1 hx with hx | hx
      · exact h2 (there_t.2 ⟨x, hx, he⟩)
      · rw [List.mem_singleton.1 hx] at he; exact hb he
    have n2 : ¬ thereP ⟨d.ts ++ [u], d.cs⟩ (tokF t) := fun h => by
      obtain ⟨x, hx, he⟩ := there_t.1 h
      rcases List.mem_append.1 hx with hx | hx
      · exact h1 (there_t.2 ⟨x, hx, he⟩)
      · rw [List.mem_singleton.1 hx] at he; exact hb he.symm
    by_cases hn : d.n + 1 = 100
    · rw [pErr_4 f1 k2 n1 (by simp only [Id.n, List.length_append, List.length_singleton] at *; omega), pErr_4 f2 k1 n2 (by simp only [Id.n, List.length_append, List.length_singleton] at *; omega)]
    · rw [pErr_new f1 k2 n1 (by simp only [Id.n, List.length_append, List.length_singleton] at *; omega), pErr_new f2 k1 n2 (by simp only [Id.n, List.length_append, List.length_singleton] at *; omega)]
theorem order_same {f : Fr} (ht : pErr d (tokF t) = 0) (hu : pErr d (tokF u) = 0) (h : pErr (addT d t) (tokF u) = 0) : sameB (addT (addT d t) u) f = sameB (addT (addT d u) t) f := by
  have h' := order_err ht hu
  rw [h] at h'
  have e : sameP (addT (addT d t) u) f ↔ sameP (addT (addT d u) t) f := by
    rw [same_addT h, same_addT h'.symm, same_addT ht, same_addT hu]
    constructor
    · rintro ((h | h) | h)
      · exact .inl (.inl h)
      · exact .inr h
      · exact .inl (.inr h)
    · rintro ((h | h) | h)
      · exact .inl (.inl h)
      · exact .inr h
      · exact .inl (.inr h)
  by_cases h2 : sameP (addT (addT d t) u) f
  · rw [sameB_t h2, sameB_t (e.1 h2)]
  · rw [sameB_f h2, sameB_f fun x => h2 (e.2 x)]
end
/-! ### alive -/
def tA : Tk := ⟨1, 2, 0, 0, 9 :: List.replicate 31 0⟩
def tB : Tk := ⟨1, 2, 0, 0, 8 :: List.replicate 31 0⟩
theorem tag_okI {n : Int} (h : 0 ≤ n ∧ n < 256) : byt (n :: List.replicate 31 0) := fun x hx => by
  rcases List.mem_cons.1 hx with rfl | hx
  · exact h
  · rw [List.mem_replicate] at hx; rw [hx.2]; decide
theorem tA_ok : tA.ok := ⟨rngI rfl, rngI rfl, rngI rfl, rngI rfl, ⟨rfl, tag_okI (by decide)⟩⟩
theorem tB_ok : tB.ok := ⟨rngI rfl, rngI rfl, rngI rfl, rngI rfl, ⟨rfl, tag_okI (by decide)⟩⟩
theorem tA_new : ¬ thereP ⟨[], []⟩ (tokF tA) := fun h => by obtain ⟨x, hx, _⟩ := there_t.1 h; simp at hx
theorem tA_err : pErr ⟨[], []⟩ (tokF tA) = 0 := pErr_new (fine_iff.2 fine_nil) (tokF_okF.2 (by decide)) tA_new (by simp [Id.n])
theorem tA_add : addT ⟨[], []⟩ tA = ⟨[tA], []⟩ := addT_new tA_err tA_new
theorem tA_fine : chkI ⟨[tA], []⟩ = 0 := by
  have := addT_fine tA_err
  rwa [tA_add] at this
theorem tAB : tA ≠ tB := fun h => by have := congrArg (fun t : Tk => t.d) h; simp [tA, tB] at this
theorem tB_not : ¬ sameP ⟨[tA], []⟩ (tokF tB) := fun h => tAB (List.mem_singleton.1 (same_t.1 h)).symm
theorem tB_err : pErr ⟨[tA], []⟩ (tokF tB) = 14 := pErr_14 tA_fine (tokF_okF.2 (by decide)) (there_t.2 ⟨tA, by simp, rfl⟩) tB_not
theorem f14_ok : Fn Tryd.prog X.G 14 [] (.p (.b true)) := by
  refine Fn.intro (I := []) hX hm 0 Tryd.func14 rfl rfl (by kernel_rfl) rfl ?_
  have okA : (⟨[tA], []⟩ : Id).ok := by have := addT_ok ok_nil tA_ok; rwa [tA_add] at this
  have c0 := f22_ok
  have c1 := f21_ok ⟨[], []⟩ tA ok_nil tA_ok
  have c2 := f21_ok ⟨[tA], []⟩ tB okA tB_ok
  have c3 := f15_ok tB 0 0
  have c4 := f17_ok ⟨[tA], []⟩ (reqF tB 0 0) okA (reqF_ok tB_ok (by decide) (by decide))
  have c5 := f15_ok tA 0 0
  have c6 := f46_ok ⟨[tA], []⟩ (reqF tA 0 0) okA (reqF_ok tA_ok (by decide) (by decide))
  have c7 := f15_ok tA 65535 4294967295
  have c8 := f46_ok ⟨[tA], []⟩ (reqF tA 65535 4294967295) okA (reqF_ok tA_ok (by decide) (by decide))
  rw [tA_add, tA_err] at c1
  rw [tB_err, addT_err (by rw [tB_err]; decide)] at c2
  rw [accB_0 tA_fine (reqF_okF (by decide)), accE_0 tA_fine (reqF_okF (by decide)), sameB_f fun h => tAB (List.mem_singleton.1 (same_req.1 h)).symm] at c4
  rw [acc_same tA_fine (reqF_okF (by decide)), sameB_t (same_req.2 (by simp))] at c6 c8
  conv => whnf
  refine ⟨_, c0, ?_⟩
  conv => whnf
  refine ⟨_, c1, ?_⟩
  conv => whnf
  refine ⟨_, c2, ?_⟩
  conv => whnf
  refine ⟨_, c3, ?_⟩
  conv => whnf
  refine ⟨_, c4, ?_⟩
  conv => whnf
  refine iteF rfl ?_
  conv => whnf
  refine iteT rfl ?_
  conv => whnf
  refine ⟨_, c5, ?_⟩
  conv => whnf
  refine ⟨_, c6, ?_⟩
  conv => whnf
  refine iteT rfl ?_
  conv => whnf
  refine ⟨_, c7, ?_⟩
  conv => whnf
  refine ⟨_, c8, ?_⟩
  conv => whnf
  refine iteT rfl ?_
  conv => whnf
  refine iteT rfl ?_
  conv => whnf
  refine iteT rfl ?_
  rfl
end Go.Proofs.YtipmkjfbdflneaaDoor.AM
