/- CostFirst: the walk of the law. -/
import Derived.Test.YtmngcmfcbfkimaaCostE
namespace Go.Proofs.Ytmngcmfcbfkimaa.AM
open Go Go.Proofs
set_option maxRecDepth 100000
theorem check_all {l : List R} (h : checkL l = 0) : l.all validR = true := by
  unfold checkL at h
  split at h
  · cases h
  · split at h
    · assumption
    · cases h
theorem check_of {l : List R} (h1 : l.length ≤ 20) (h2 : l.all validR = true) : checkL l = 0 := by
  unfold checkL
  rw [if_neg (by omega), if_pos h2]
def findV (l : List R) (a n : Int) : Int × Int :=
  match l.findIdx? (fitsR · a n) with
  | some i => (i, 0)
  | none => (0, 6)
theorem findL_eq {l : List R} {a n : Int} (hc : checkL l = 0) : findL l a n = findV l a n := by
  unfold findL findV
  rw [hc]
  rfl
theorem find_snoc {l : List R} {x : R} {a n : Int} (hc : checkL l = 0) (hx : validR x = true) (hl : l.length ≤ 19) :
    findL (l ++ [x]) a n = if (findL l a n).2 = 0 then findL l a n else if fitsR x a n = true then ((l.length : Int), 0) else (0, 6) := by
  have h1 : checkL (l ++ [x]) = 0 := check_of (by simp; omega) (by simp [check_all hc, hx])
  rw [findL_eq h1, findL_eq hc]
  unfold findV
  rw [List.findIdx?_append]
  cases hf : l.findIdx? (fitsR · a n) with
  | some i => simp
  | none =>
    by_cases hx2 : fitsR x a n = true
    · simp [List.findIdx?_cons, hx2]
    · have hx2 : fitsR x a n = false := by simpa using hx2
      simp [List.findIdx?_cons, hx2]
theorem getR_cons {l : List R} {x : R} {i : Nat} : getR (x :: l) ((i : Int) + 1) = getR l i := by
  unfold getR
  have h1 : ((i : Int) + 1).toNat = i + 1 := by omega
  have h2 : ((i : Int)).toNat = i := by omega
  rw [h1, h2]
  rfl
theorem price_cons {l : List R} {x : R} {a n : Int} (hc : checkL l = 0) (hx : validR x = true) (hl : l.length ≤ 19) :
    priceL (x :: l) a n = if fitsR x a n = true then (x.cls, costR x n, 0) else priceL l a n := by
  have h1 : checkL (x :: l) = 0 := check_of (by simp; omega) (by simp [check_all hc, hx])
  have e : findL (x :: l) a n = if fitsR x a n = true then (0, 0) else if (findL l a n).2 = 0 then ((findL l a n).1 + 1, 0) else findL l a n := by
    rw [findL_eq h1, findL_eq hc]
    unfold findV
    rw [List.findIdx?_cons]
    by_cases hx2 : fitsR x a n = true
    · simp [hx2]
    · have hx2 : fitsR x a n = false := by simpa using hx2
      cases hf : l.findIdx? (fitsR · a n) with
      | some i => simp [hx2]
      | none => simp [hx2]
  unfold priceL
  rw [e]
  by_cases hx2 : fitsR x a n = true
  · simp [hx2, getR]
  · have hx2 : fitsR x a n = false := by simpa using hx2
    by_cases h3 : (findL l a n).2 = 0
    · obtain ⟨i, hi, he⟩ := findL_at h3
      simp [hx2, h3, he, getR_cons]
    · simp [hx2, h3]
theorem find_none {l : List R} {a n : Int} (hc : checkL l = 0) (h : (findL l a n).2 ≠ 0) : (findL l a n).2 = 6 ∧ ∀ (j : Nat) (hj : j < l.length), fitsR l[j] a n = false := by
  unfold findL at h ⊢
  rw [hc, if_neg (by simp)] at h ⊢
  cases hf : l.findIdx? (fitsR · a n) with
  | some i => rw [hf] at h; simp at h
  | none =>
    rw [List.findIdx?_eq_none_iff] at hf
    exact ⟨rfl, fun j hj => hf _ (List.getElem_mem hj)⟩
theorem find_some {l : List R} {a n : Int} (hc : checkL l = 0) (h : (findL l a n).2 = 0) :
    ∃ (i : Nat) (hi : i < l.length), findL l a n = ((i : Int), 0) ∧ priceL l a n = (l[i].cls, costR l[i] n, 0) ∧ fitsR l[i] a n = true ∧ ∀ (j : Nat) (hj : j < l.length), j < i → fitsR l[j] a n = false := by
  have hf0 := h
  unfold findL at h
  rw [hc, if_neg (by simp)] at h
  cases hf : l.findIdx? (fitsR · a n) with
  | none => rw [hf] at h; simp at h
  | some i =>
    have hf' := hf
    rw [List.findIdx?_eq_some_iff_getElem] at hf'
    obtain ⟨h1, h2, h3⟩ := hf'
    have e : findL l a n = ((i : Int), 0) := by
      unfold findL
      rw [hc, if_neg (by simp), hf]
    refine ⟨i, h1, e, ?_, h2, fun j hj hji => by simpa using h3 j hji⟩
    unfold priceL
    rw [e, if_neg (by simp), getR_at h1]
end Go.Proofs.Ytmngcmfcbfkimaa.AM
