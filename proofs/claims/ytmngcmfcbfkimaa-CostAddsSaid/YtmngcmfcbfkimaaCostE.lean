/- CostPlain: the walk of the law. -/
import Derived.Test.YtmngcmfcbfkimaaCostD
namespace Go.Proofs.Ytmngcmfcbfkimaa.AM
open Go Go.Proofs
set_option maxRecDepth 100000
structure R.ok (r : R) : Prop where
  fr : 0 ≤ r.fr ∧ r.fr < 65536
  to : 0 ≤ r.to ∧ r.to < 65536
  most : 0 ≤ r.most ∧ r.most < 4294967296
  fac : 0 ≤ r.fac ∧ r.fac < 4294967296
  plus : 0 ≤ r.plus ∧ r.plus < 4294967296
def plainR (r : R) : R := ⟨r.fr, r.to, r.most, r.cls, 1, 0⟩
theorem wrapU64 {n : Int} (h1 : 0 ≤ n) (h2 : n < 18446744073709551616) : IntKind.u64.wrap n = n := by
  simp [IntKind.wrap, IntKind.signed, IntKind.bits]
  omega
theorem mul_le {a b : Int} (h1 : 0 ≤ a) (h2 : a ≤ 10000) (h3 : 0 ≤ b) (h4 : b < 4294967296) : 0 ≤ a * b ∧ a * b ≤ 42949672960000 := by
  refine ⟨Int.mul_nonneg h1 h3, ?_⟩
  have := Int.mul_le_mul h2 (Int.le_of_lt h4) h3 (by omega)
  omega
theorem costR_eq {r : R} {n : Int} (hr : r.ok) (hv : validR r = true) (h1 : 0 ≤ n) (h2 : n < 4294967296) : costR r n = r.fac * n + r.plus := by
  simp only [validR, Bool.and_eq_true, decide_eq_true_eq] at hv
  obtain ⟨_, _, _, h3, h4⟩ := hv
  have := mul_le hr.fac.1 h3 h1 h2
  have p1 := hr.plus.1
  have f1 := hr.fac.1
  unfold costR
  rw [wrapU64 f1 (by omega), wrapU64 h1 (by omega), wrapU64 p1 (by omega), wrapU64 this.1 (by omega), wrapU64 (by omega) (by omega)]
theorem check_plain {l : List R} (h : checkL l = 0) : checkL (l.map plainR) = 0 := by
  have hl := checkL_len h
  have hall : ∀ r ∈ l, validR r = true := fun r hr => by
    obtain ⟨i, hi, rfl⟩ := List.mem_iff_getElem.1 hr
    exact checkL_valid h hi
  unfold checkL
  rw [if_neg (by simp; omega), if_pos]
  rw [List.all_eq_true]
  intro x hx
  obtain ⟨r, hr, rfl⟩ := List.mem_map.1 hx
  have := hall r hr
  simp only [validR, Bool.and_eq_true] at this ⊢
  exact ⟨this.1, this.2.1, this.2.2.1, rfl, rfl⟩
theorem plainR_ok {r : R} (h : r.ok) : (plainR r).ok := ⟨h.fr, h.to, h.most, ⟨by show (0:Int) ≤ 1; decide, by show (1:Int) < 4294967296; decide⟩, ⟨by show (0:Int) ≤ 0; decide, by show (0:Int) < 4294967296; decide⟩⟩
theorem find_plain {l : List R} {a n : Int} (h : checkL l = 0) : findL (l.map plainR) a n = findL l a n := by
  unfold findL
  rw [check_plain h, h, if_neg (by simp), if_neg (by simp), List.findIdx?_map]
  rfl
theorem getR_map {l : List R} {i : Nat} (h : i < l.length) : getR (l.map plainR) i = plainR l[i] := by
  simp [getR, h]
theorem getR_at {l : List R} {i : Nat} (h : i < l.length) : getR l i = l[i] := by
  simp [getR, h]
theorem price_plain {l : List R} (hl : ∀ r ∈ l, r.ok) {a n : Int} (h : checkL l = 0) (h1 : 0 ≤ n) (h2 : n < 4294967296) :
    priceL (l.map plainR) a n = if (findL l a n).2 ≠ 0 then (0, 0, (findL l a n).2) else ((priceL l a n).1, n, 0) := by
  unfold priceL
  rw [find_plain h]
  split
  · rfl
  · rename_i h3
    obtain ⟨i, hi, he⟩ := findL_at (l := l) (a := a) (n := n) (by simpa using h3)
    rw [he, getR_map hi, getR_at hi]
    have hv := check_plain h
    have := checkL_valid (l := l.map plainR) hv (i := i) (by simpa using hi)
    rw [costR_eq (r := plainR l[i]) (n := n)]
    · simp [plainR]
    · exact plainR_ok (hl _ (List.getElem_mem hi))
    · simpa using this
    · exact h1
    · exact h2
theorem price_find (l : List R) (a n : Int) : (priceL l a n).2.2 = (findL l a n).2 := by
  unfold priceL
  split
  · rfl
  · rename_i h; simp at h; simp [h]
theorem find_less {l : List R} {a n m : Int} (hnm : n ≤ m) (h : (findL l a m).2 = 0) : (findL l a n).2 = 0 := by
  have hc : checkL l = 0 := by
    unfold findL at h
    split at h
    · rename_i h1; exact absurd h h1
    · rename_i h1; simpa using h1
  unfold findL at h ⊢
  rw [if_neg (by simp [hc])] at h ⊢
  cases hf : l.findIdx? (fitsR · a n) with
  | some i => rfl
  | none =>
    rw [List.findIdx?_eq_none_iff] at hf
    cases hg : l.findIdx? (fitsR · a m) with
    | none => rw [hg] at h; simp at h
    | some i =>
      rw [List.findIdx?_eq_some_iff_getElem] at hg
      obtain ⟨h1, h2, _⟩ := hg
      have := hf l[i] (List.getElem_mem h1)
      simp only [fitsR, Bool.and_eq_true, Bool.and_eq_false_iff, decide_eq_true_eq, decide_eq_false_iff_not] at h2 this
      omega
theorem price_more {l : List R} (hl : ∀ r ∈ l, r.ok) {a n m : Int} (h1 : 0 ≤ n) (hnm : n ≤ m) (h2 : m < 4294967296) (hc : checkL l = 0) (hm : (findL l a m).2 = 0) (he : (findL l a n).1 = (findL l a m).1) :
    (priceL l a m).2.1 ≥ (priceL l a n).2.1 := by
  have hn := find_less hnm hm
  unfold priceL
  rw [if_neg (by simp [hm]), if_neg (by simp [hn])]
  obtain ⟨i, hi, hi2⟩ := findL_at hm
  rw [he, hi2, getR_at hi]
  have ho := hl _ (List.getElem_mem hi)
  have hv := checkL_valid hc hi
  show costR l[i] m ≥ costR l[i] n
  rw [costR_eq ho hv h1 (by omega), costR_eq ho hv (by omega) h2]
  have := Int.mul_le_mul_of_nonneg_left hnm ho.fac.1
  omega
theorem plain_step {l : List R} {i : Nat} (h : i < l.length) : (l.map plainR).take (i + 1) = (l.map plainR).take i ++ [plainR l[i]] := by
  rw [List.take_add_one]
  simp [h]
theorem f9_ok (l : List R) (hl : ∀ r ∈ l, r.ok) (a n m : Int) (hn : 0 ≤ n) (hm' : m < 4294967296) :
    Fn Try.prog X.G 9 [rvs l, .p (.i .u16 a), .p (.i .u32 n), .p (.i .u32 m)] (.p (.b true)) := by
  refine Fn.intro (I := []) hX hm 0 Try.func9 rfl rfl (by kernel_rfl) rfl ?_
  conv => whnf
  refine ⟨_, f35_ok, ?_⟩
  conv => whnf
  refine ⟨_, f29_ok l, ?_⟩
  conv => whnf
  refine iteC (fun h => ?_) (fun h => ?_)
  · conv => whnf
    rfl
  have h : checkL l = 0 := by simpa using h
  conv => whnf
  refine iteC (fun h2 => ?_) (fun h2 => ?_)
  · conv => whnf
    rfl
  have h2 := of_decide_eq_false h2
  have hlen := checkL_len h
  conv => whnf
  refine LoopJ.nil 10 1000 rsh rfl rfl ?_
  refine LoopJ.intro (I := []) (base' := 0) hX hm (by kernel_rfl) (σ := Nat) (fun i => [(0, rvs l), (1, .p (.i .u16 a)), (2, .p (.i .u32 n)), (3, .p (.i .u32 m)), (9, .p (.b true)), (10, .own 1000), (11, .p (.i .i64 i))])
    (fun i => [(1000, .els true rsh (((l.map plainR).take i).map rv))]) (fun i => i ≤ l.length) (fun i => l.length - i) 0 []
    (by omega) ⟨nofun, rfl, ⟨rfl, rfl, rfl, rfl, rfl, rfl, rfl, rfl, rfl, rfl, rfl, rfl, rfl, rfl, trivial⟩, ⟨rfl, rfl, trivial⟩⟩ ?_
  intro i hi
  conv => whnf
  refine iteC (fun h3 => ?_) (fun h3 => ?_)
  · have h3 := of_decide_eq_true h3
    rw [List.length_map] at h3
    have hlt : i < l.length := by omega
    have hg := getI_map (f := rv) hlt
    have hst := plain_step hlt
    conv => whnf
    conv => arg 2; repeat (first | rw [hg] | (whnf; arg 2))
    conv => whnf
    conv => arg 2; repeat (first | rw [capT _ (by simp; omega)] | (whnf; arg 2))
    conv => whnf
    refine ⟨i + 1, [(1000, 440)], by omega, by dsimp only; omega, nofun, rfl, ⟨rfl, rfl, rfl, rfl, rfl, rfl, rfl, rfl, rfl, rfl, rfl, rfl, inc_eq hlt (by omega), rfl, trivial⟩, ⟨?_, rfl, trivial⟩⟩
    rw [hst, List.map_append]
    rfl
  have h3 := of_decide_eq_false h3
  rw [List.length_map] at h3
  have htk : (l.map plainR).take i = l.map plainR := List.take_of_length_le (by simp; omega)
  rw [htk]
  have c1 := f26_ok l a n
  have c2 := f26_ok (l.map plainR) a n
  have c3 := f24_ok l a n
  have c4 := f24_ok l a m
  have c5 := f26_ok l a m
  have p1 := price_plain hl (a := a) h hn (by omega : n < 4294967296)
  have p2 := price_find l a n
  have p3 := price_find l a m
  have p4 := find_less (l := l) (a := a) (n := n) (m := m) (by omega)
  have p5 := price_more hl (a := a) hn (by omega : n ≤ m) hm' h
  generalize priceL l a n = v1 at *
  generalize priceL l a m = v2 at *
  generalize priceL (l.map plainR) a n = v3 at *
  generalize findL l a n = u1 at *
  generalize findL l a m = u2 at *
  obtain ⟨v11, v12, v13⟩ := v1
  obtain ⟨v21, v22, v23⟩ := v2
  obtain ⟨v31, v32, v33⟩ := v3
  obtain ⟨u11, u12⟩ := u1
  obtain ⟨u21, u22⟩ := u2
  dsimp only at *
  conv => whnf
  refine ⟨_, c1, ?_⟩
  conv => whnf
  refine ⟨_, c2, ?_⟩
  conv => whnf
  have hv : v31 = (if u12 ≠ 0 then 0 else v11) ∧ v32 = (if u12 ≠ 0 then 0 else n) ∧ v33 = u12 := by
    by_cases hu : u12 = 0
    · simpa [hu] using p1
    · simpa [hu] using p1
  obtain ⟨hv1, hv2, rfl⟩ := hv
  subst p2 p3
  clear p1 htk h3 hi hlen
  have hw : IntKind.u64.wrap n = n := wrapU64 hn (by omega)
  repeat' (first
    | (refine ⟨_, c3, ?_⟩; conv => whnf)
    | (refine ⟨_, c4, ?_⟩; conv => whnf)
    | (refine ⟨_, c5, ?_⟩; conv => whnf)
    | (refine iteC (fun hh => ?_) (fun hh => ?_) <;> conv => whnf))
  any_goals rfl
  all_goals (clear c1 c2 c3 c4 c5 hl; exfalso; by_cases hu : v13 = 0 <;> simp_all <;> omega)
end Go.Proofs.Ytmngcmfcbfkimaa.AM
