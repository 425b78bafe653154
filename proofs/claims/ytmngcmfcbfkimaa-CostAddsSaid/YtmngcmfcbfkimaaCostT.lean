/- Totals add up: plain laws of what Totals computes. -/
import Derived.Test.YtmngcmfcbfkimaaCostF
import Derived.Test.YtmngcmfcbfkimaaCostC
import Derived.Test.YtmngcmfcbfkimaaAm30
namespace Go.Proofs.Ytmngcmfcbfkimaa.AM
open Go Go.Proofs
set_option maxRecDepth 100000
def cntL (c : Int) (ps : List (Int × Int × Int)) : Nat := ps.countP (fun p => decide (p.1 = c))
def totI (c : Int) : List (Int × Int × Int) → Int
  | [] => 0
  | p :: ps => (if p.1 = c then p.2.1 else 0) + totI c ps
theorem totI_app (c : Int) (ps qs : List (Int × Int × Int)) : totI c (ps ++ qs) = totI c ps + totI c qs := by
  induction ps with
  | nil => simp [totI]
  | cons p ps ih => simp only [List.cons_append, totI, ih]; omega
theorem wrap_add (a b : Int) : IntKind.u64.wrap (IntKind.u64.wrap a + b) = IntKind.u64.wrap (a + b) := by
  simp [IntKind.wrap, IntKind.signed, IntKind.bits]
theorem wrap_add2 (a b : Int) : IntKind.u64.wrap (IntKind.u64.wrap a + IntKind.u64.wrap b) = IntKind.u64.wrap (a + b) := by
  simp [IntKind.wrap, IntKind.signed, IntKind.bits]
theorem sumL_fold (c : Int) : ∀ (ps : List (Int × Int × Int)) (a : Nat) (t : Int), a + ps.length ≤ 1000 →
    ps.foldl (accL c) ((a : Int), IntKind.u64.wrap t) = (((a + cntL c ps : Nat) : Int), IntKind.u64.wrap (t + totI c ps))
  | [], a, t, _ => by simp [cntL, totI]
  | p :: ps, a, t, h => by
    rw [List.length_cons] at h
    rw [List.foldl_cons]
    unfold accL
    by_cases hp : p.1 = c
    · rw [if_pos hp]
      have e1 : IntKind.i64.wrap ((a : Int) + 1) = ((a + 1 : Nat) : Int) := by
        rw [wr_i64 (by omega) (by omega)]
        omega
      dsimp only
      rw [e1, wrap_add]
      have := sumL_fold c ps (a + 1) (t + p.2.1) (by omega)
      unfold accL at this
      rw [this]
      have e2 : cntL c (p :: ps) = cntL c ps + 1 := by simp [cntL, hp]
      rw [e2]
      simp only [totI, if_pos hp]
      rw [show a + 1 + cntL c ps = a + (cntL c ps + 1) by omega, Int.add_assoc]
    · rw [if_neg hp]
      have := sumL_fold c ps a t (by omega)
      unfold accL at this
      rw [this]
      have e2 : cntL c (p :: ps) = cntL c ps := by simp [cntL, hp]
      rw [e2]
      simp only [totI, if_neg hp]
      rw [Int.zero_add]
theorem sumL_is {c : Int} {ps : List (Int × Int × Int)} (h : ps.length ≤ 1000) : sumL c ps = ((cntL c ps : Int), IntKind.u64.wrap (totI c ps)) := by
  have := sumL_fold c ps 0 0 (by omega)
  rw [Nat.zero_add, Int.zero_add] at this
  exact this
theorem cntL_app (c : Int) (ps qs : List (Int × Int × Int)) : cntL c (ps ++ qs) = cntL c ps + cntL c qs := by simp [cntL]
theorem totI_none {c : Int} {ps : List (Int × Int × Int)} (h : cntL c ps = 0) : totI c ps = 0 := by
  induction ps with
  | nil => rfl
  | cons p ps ih =>
    have hp : ¬ p.1 = c := fun hp => by simp [cntL, hp] at h
    have h2 : cntL c ps = 0 := by simpa [cntL, hp] using h
    simp only [totI, if_neg hp, ih h2]
    rfl
theorem lines_comm {ps qs : List (Int × Int × Int)} (h : ps.length + qs.length ≤ 1000) (n : Nat) : linesL n (ps ++ qs) = linesL n (qs ++ ps) := by
  unfold linesL
  refine congrArg (fun f => (List.range n).filterMap f) (funext fun c => ?_)
  unfold lineL
  rw [sumL_is (by simp; omega), sumL_is (by simp; omega), cntL_app, cntL_app, totI_app, totI_app, Nat.add_comm, Int.add_comm]
theorem lines_mem {ps : List (Int × Int × Int)} (h : ps.length ≤ 1000) {n : Nat} {x : Ln} (hx : x ∈ linesL n ps) :
    ∃ c : Nat, c < n ∧ 0 < cntL c ps ∧ x = ⟨c, cntL c ps, IntKind.u64.wrap (totI c ps)⟩ := by
  unfold linesL at hx
  obtain ⟨c, hc, hl⟩ := List.mem_filterMap.1 hx
  unfold lineL at hl
  rw [sumL_is h] at hl
  split at hl
  · rename_i hp
    exact ⟨c, List.mem_range.1 hc, by dsimp only at hp; omega, (Option.some.inj hl).symm⟩
  · cases hl
theorem lines_sorted {ps : List (Int × Int × Int)} (h : ps.length ≤ 1000) (n : Nat) : (linesL n ps).Pairwise (fun x y => x.cls < y.cls) := by
  induction n with
  | zero => simp [linesL]
  | succ n ih =>
    rw [linesL_step, List.pairwise_append]
    refine ⟨ih, ?_, ?_⟩
    · cases lineL ps n <;> simp
    · intro x hx y hy
      obtain ⟨c, hc, _, rfl⟩ := lines_mem h hx
      unfold lineL at hy
      split at hy
      · simp only [Option.toList, List.mem_cons, List.not_mem_nil, or_false] at hy
        subst hy
        dsimp only
        omega
      · simp at hy
def lineOf (a : List Ln) (k : Int) : Ln := match a.find? (fun x => decide (x.cls = k)) with
  | some x => x
  | none => ⟨k, 0, 0⟩
theorem lineOf_lines {ps : List (Int × Int × Int)} (h : ps.length ≤ 1000) {k n : Nat} (hk : k < n) : lineOf (linesL n ps) k = ⟨k, cntL k ps, IntKind.u64.wrap (totI k ps)⟩ := by
  unfold lineOf
  split
  · rename_i x hx
    have h1 : x.cls = k := by simpa using List.find?_some hx
    obtain ⟨c, hc, _, rfl⟩ := lines_mem h (List.mem_of_find?_eq_some hx)
    have : (c : Int) = k := h1
    have : c = k := by omega
    subst this
    rfl
  · rename_i hx
    have h0 : cntL k ps = 0 := by
      refine Nat.eq_zero_of_not_pos fun hp => ?_
      have hm : (⟨k, (sumL k ps).1, (sumL k ps).2⟩ : Ln) ∈ linesL n ps := by
        unfold linesL
        refine List.mem_filterMap.2 ⟨k, List.mem_range.2 hk, ?_⟩
        unfold lineL
        rw [if_pos (by rw [sumL_is h]; dsimp only; omega)]
      have := List.find?_eq_none.1 hx _ hm
      simp at this
    rw [totI_none h0, h0]
    rfl
def cntSum : List Ln → Int
  | [] => 0
  | x :: l => x.cnt + cntSum l
theorem cntSum_app (a b : List Ln) : cntSum (a ++ b) = cntSum a + cntSum b := by
  induction a with
  | nil => simp [cntSum]
  | cons x a ih => simp only [List.cons_append, cntSum, ih]; omega
theorem count_lt (ps : List (Int × Int × Int)) (n : Nat) (hps : ∀ p ∈ ps, 0 ≤ p.1) : ps.countP (fun p => decide (p.1 < ((n + 1 : Nat) : Int))) = ps.countP (fun p => decide (p.1 < (n : Int))) + cntL n ps := by
  induction ps with
  | nil => rfl
  | cons p ps ih =>
    have ih := ih fun q hq => hps q (by simp [hq])
    simp only [List.countP_cons, cntL] at ih ⊢
    rw [ih]
    have key : p.1 < n ∨ p.1 = n ∨ p.1 > n := by omega
    rcases key with k | k | k
    · rw [decide_eq_true (by omega), decide_eq_true k, decide_eq_false (by omega)]
      simp
      omega
    · rw [decide_eq_true (by omega), decide_eq_false (by omega), decide_eq_true k]
      simp
      omega
    · rw [decide_eq_false (by omega), decide_eq_false (by omega), decide_eq_false (by omega)]
      simp
theorem cntSum_lines {ps : List (Int × Int × Int)} (h : ps.length ≤ 1000) (hps : ∀ p ∈ ps, 0 ≤ p.1) (n : Nat) : cntSum (linesL n ps) = ps.countP (fun p => decide (p.1 < (n : Int))) := by
  induction n with
  | zero =>
    have : ps.countP (fun p => decide (p.1 < ((0 : Nat) : Int))) = 0 := by
      rw [List.countP_eq_zero]
      intro p hp
      have := hps p hp
      simp
      omega
    rw [this]
    rfl
  | succ n ih =>
    rw [linesL_step, cntSum_app, ih, count_lt ps n hps]
    unfold lineL
    rw [sumL_is h]
    split
    · simp [cntSum]
    · rename_i hp
      have : cntL n ps = 0 := by dsimp only at hp; omega
      rw [this]
      simp [cntSum]
theorem cntSum_all {ps : List (Int × Int × Int)} (h : ps.length ≤ 1000) (hps : ∀ p ∈ ps, 0 ≤ p.1 ∧ p.1 < 10) : cntSum (linesL 10 ps) = ps.length := by
  rw [cntSum_lines h (fun p hp => (hps p hp).1)]
  congr 1
  rw [List.countP_eq_length]
  intro p hp
  have := (hps p hp).2
  simp
  omega
theorem cntSum_step {l : List Ln} {i : Nat} (h : i < l.length) : cntSum (l.take (i + 1)) = cntSum (l.take i) + l[i].cnt := by
  rw [List.take_add_one, List.getElem?_eq_getElem h, cntSum_app]
  simp [cntSum]
theorem cntSum_part {l : List Ln} (h : ∀ x ∈ l, 0 ≤ x.cnt) (i : Nat) : 0 ≤ cntSum (l.take i) ∧ cntSum (l.take i) ≤ cntSum l := by
  have nn : ∀ m : List Ln, (∀ x ∈ m, 0 ≤ x.cnt) → 0 ≤ cntSum m := by
    intro m
    induction m with
    | nil => intro _; simp [cntSum]
    | cons x m ih =>
      intro hm
      have h1 := hm x (by simp)
      have h2 := ih fun y hy => hm y (by simp [hy])
      simp only [cntSum]
      omega
  have h1 := nn (l.take i) fun x hx => h x (List.mem_of_mem_take hx)
  have h2 := nn (l.drop i) fun x hx => h x (List.mem_of_mem_drop hx)
  have h3 := cntSum_app (l.take i) (l.drop i)
  rw [List.take_append_drop] at h3
  omega
theorem err_is {l : List R} {r : List Q} (hc : checkL l = 0) (hr : r.length ≤ 60) : (errQ l r = 0 ∧ ∀ q ∈ r, (priceQ l q).2.2 = 0) ∨ (errQ l r = 6 ∧ ∃ q ∈ r, (priceQ l q).2.2 ≠ 0) := by
  unfold errQ
  rw [if_neg (by simp [hc]), if_neg (by omega)]
  split
  · rename_i q hq
    right
    have h1 : (priceQ l q).2.2 ≠ 0 := by simpa using List.find?_some hq
    refine ⟨?_, q, List.mem_of_find?_eq_some hq, h1⟩
    have h2 : (findL l q.ep q.cost).2 ≠ 0 := by
      rw [← price_find]
      exact h1
    have h3 := (find_none hc h2).1
    rw [← price_find] at h3
    exact h3
  · rename_i hq
    left
    refine ⟨rfl, fun q hm => ?_⟩
    have := List.find?_eq_none.1 hq q hm
    simpa using this
theorem err_app {l : List R} {r s : List Q} (hc : checkL l = 0) (hrs : r.length + s.length ≤ 60) : errQ l (r ++ s) = if errQ l r = 0 ∧ errQ l s = 0 then 0 else 6 := by
  rcases err_is (r := r ++ s) hc (by simp; omega) with ⟨h, h1⟩ | ⟨h, q, h1, h2⟩
  · rw [h]
    rcases err_is (r := r) hc (by omega) with ⟨g, _⟩ | ⟨g, q, g1, g2⟩
    · rcases err_is (r := s) hc (by omega) with ⟨k, _⟩ | ⟨k, q, k1, k2⟩
      · rw [if_pos ⟨g, k⟩]
      · exact absurd (h1 q (List.mem_append_right _ k1)) k2
    · exact absurd (h1 q (List.mem_append_left _ g1)) g2
  · rw [h, if_neg]
    rintro ⟨g, k⟩
    rcases err_is (r := r) hc (by omega) with ⟨_, g1⟩ | ⟨g', _⟩
    · rcases err_is (r := s) hc (by omega) with ⟨_, k1⟩ | ⟨k', _⟩
      · rcases List.mem_append.1 h1 with hm | hm
        · exact h2 (g1 q hm)
        · exact h2 (k1 q hm)
      · omega
    · omega
end Go.Proofs.Ytmngcmfcbfkimaa.AM
