/- Totals: requests and lines as plain data, and what the functions over them compute. -/
import Derived.Test.YtmngcmfcbfkimaaCostA
namespace Go.Proofs.Ytmngcmfcbfkimaa.AM
open Go Go.Proofs
set_option maxRecDepth 100000

abbrev toksh : Sh := .st [.int .u32, .int .u32, .int .u32, .int .u64, .arr 32 (.int .u8)]
abbrev qsh : Sh := .st [toksh, .int .u16, .int .u32]
abbrev lnsh : Sh := .st [.int .i64, .int .i64, .int .u64]
structure Q where
  ten : Int
  usr : Int
  epo : Int
  exp : Int
  tag : List Int
  ep : Int
  cost : Int
structure Ln where
  cls : Int
  cnt : Int
  tot : Int
instance : DecidableEq Ln := fun x y =>
  if h : x.cls = y.cls ∧ x.cnt = y.cnt ∧ x.tot = y.tot then isTrue (by cases x; cases y; simp_all) else isFalse (by rintro rfl; exact h ⟨rfl, rfl, rfl⟩)
abbrev qv (q : Q) : PV := .st [.st [.i .u32 q.ten, .i .u32 q.usr, .i .u32 q.epo, .i .u64 q.exp, .arr 32 (.int .u8) (q.tag.map (.i .u8))], .i .u16 q.ep, .i .u32 q.cost]
abbrev qvs (l : List Q) : AV := .ro qsh (l.map qv)
abbrev lv (x : Ln) : PV := .st [.i .i64 x.cls, .i .i64 x.cnt, .i .u64 x.tot]
abbrev lvs (l : List Ln) : AV := .ro lnsh (l.map lv)

theorem same_lv (x y : Ln) : PV.same (lv x) (lv y) = decide (x = y) := by
  obtain ⟨a, b, c⟩ := x
  obtain ⟨d, e, f⟩ := y
  simp only [PV.same, PV.sameL, Ln.mk.injEq, Bool.and_true]
  by_cases h1 : a = d <;> by_cases h2 : b = e <;> by_cases h3 : c = f <;> simp [h1, h2, h3]
theorem ext_idx {α : Type} {a b : List α} (hl : a.length = b.length) (h : ∀ j (h1 : j < a.length) (h2 : j < b.length), a[j] = b[j]) : a = b := List.ext_getElem hl h
theorem f32_ok (a b : List Ln) (hla : a.length < 9223372036854775808) : Fn Try.prog X.G 32 [lvs a, lvs b] (.p (.b (decide (a = b)))) := by
  refine Fn.intro (I := []) hX hm 0 Try.func32 rfl rfl (by kernel_rfl) rfl ?_
  conv => whnf
  refine iteC (fun h => ?_) (fun h => ?_)
  · conv => whnf
    rw [decide_eq_false (by rintro rfl; simp at h)]
    rfl
  · have h : a.length = b.length := Int.ofNat.inj (by simpa using h)
    conv => whnf
    refine LoopJ.intro (I := []) (base' := 0) hX hm (by kernel_rfl) (σ := Nat) (fun i => [(0, lvs a), (1, lvs b), (5, .p (.i .i64 i))]) (fun _ => []) (fun i => i ≤ a.length ∧ ∀ j (h1 : j < a.length) (h2 : j < b.length), j < i → a[j] = b[j]) (fun i => a.length - i) 0 []
      ⟨Nat.zero_le _, by intro j _ _ h; omega⟩ ⟨nofun, rfl, ⟨rfl, rfl, rfl, rfl, rfl, rfl, trivial⟩, trivial⟩ ?_
    intro i hi
    conv => whnf
    refine iteC (fun hlt => ?_) (fun hlt => ?_)
    · have hlt := of_decide_eq_true hlt
      rw [List.length_map] at hlt
      have h1 : i < a.length := by omega
      have h2 : i < b.length := by omega
      conv => whnf
      have ga := getI_map (f := lv) h1
      have gb := getI_map (f := lv) h2
      conv => arg 2; repeat (first | rw [ga] | (whnf; arg 2))
      conv => whnf
      conv => arg 2; repeat (first | rw [gb] | (whnf; arg 2))
      conv => whnf
      refine iteC (fun he => ?_) (fun he => ?_)
      · have he : (!PV.same (lv a[i]) (lv b[i])) = true := he
        rw [same_lv] at he
        conv => whnf
        rw [decide_eq_false (by rintro rfl; simp at he)]
        rfl
      · have he : (!PV.same (lv a[i]) (lv b[i])) = false := he
        rw [same_lv] at he
        conv => whnf
        refine ⟨i + 1, [], ⟨by omega, fun j g1 g2 hj => ?_⟩, by dsimp only; omega, nofun, rfl, ⟨rfl, rfl, rfl, rfl, inc_eq h1 (by omega), rfl, trivial⟩, trivial⟩
        by_cases hji : j = i
        · subst hji; simpa using he
        · exact hi.2 j g1 g2 (by omega)
    · have hlt := of_decide_eq_false hlt
      rw [List.length_map] at hlt
      conv => whnf
      rw [decide_eq_true (ext_idx h fun j g1 g2 => hi.2 j g1 g2 (by omega))]
      rfl

theorem f32_nil : Fn Try.prog X.G 32 [.ro .one [], .ro .one []] (.p (.b true)) := by
  refine Fn.intro (I := []) hX hm 0 Try.func32 rfl rfl (by kernel_rfl) rfl ?_
  conv => whnf
  refine iteF rfl ?_
  conv => whnf
  refine LoopJ.unroll (I := []) (base' := 0) hX hm (by kernel_rfl) ?_
  conv => whnf
  refine iteF rfl ?_
  rfl
def priceQ (l : List R) (q : Q) : Int × Int × Int := priceL l q.ep q.cost
def accL (c : Int) (s : Int × Int) (p : Int × Int × Int) : Int × Int := if p.1 = c then (IntKind.i64.wrap (s.1 + 1), IntKind.u64.wrap (s.2 + p.2.1)) else s
def sumL (c : Int) (ps : List (Int × Int × Int)) : Int × Int := ps.foldl (accL c) (0, 0)
def lineL (ps : List (Int × Int × Int)) (c : Nat) : Option Ln := if (sumL c ps).1 > 0 then some ⟨c, (sumL c ps).1, (sumL c ps).2⟩ else none
def linesL (n : Nat) (ps : List (Int × Int × Int)) : List Ln := (List.range n).filterMap (lineL ps)
def errQ (l : List R) (r : List Q) : Int :=
  if checkL l ≠ 0 then checkL l else if r.length > 60 then 4 else
  match r.find? (fun q => decide ((priceQ l q).2.2 ≠ 0)) with
  | some q => (priceQ l q).2.2
  | none => 0
def totA (l : List R) (r : List Q) : AV := if errQ l r ≠ 0 then .ro .one [] else lvs (linesL 10 (r.map (priceQ l)))
theorem sumL_step {c : Int} {ps : List (Int × Int × Int)} {i : Nat} (h : i < ps.length) : sumL c (ps.take (i + 1)) = accL c (sumL c (ps.take i)) ps[i] := by
  unfold sumL
  rw [List.take_add_one, List.foldl_append]
  simp [h]
theorem linesL_step (n : Nat) (ps : List (Int × Int × Int)) : linesL (n + 1) ps = linesL n ps ++ (lineL ps n).toList := by
  unfold linesL
  rw [List.range_succ, List.filterMap_append]
  cases h : lineL ps n <;> simp [h]
theorem linesL_len (n : Nat) (ps : List (Int × Int × Int)) : (linesL n ps).length ≤ n := by
  have := List.length_filterMap_le (lineL ps) (List.range n)
  simpa [linesL] using this
theorem capT (n : Nat) (h : n ≤ 1000000) : decide (n ≤ 140737488351232) = true := decide_eq_true (by omega)
theorem f31_ok (l : List R) (r : List Q) : Fn Try.prog X.G 31 [rvs l, qvs r] (.tup [totA l r, .p (.i .i64 (errQ l r))]) := by
  refine Fn.intro (I := []) hX hm 0 Try.func31 rfl rfl (by kernel_rfl) rfl ?_
  conv => whnf
  refine ⟨_, f29_ok l, ?_⟩
  conv => whnf
  refine iteC (fun h => ?_) (fun h => ?_)
  · have h : checkL l ≠ 0 := by simpa using h
    conv => whnf
    refine ⟨_, f29_ok l, ?_⟩
    have e : errQ l r = checkL l := by unfold errQ; rw [if_pos h]
    unfold totA
    rw [e, if_pos h]
    rfl
  have h : checkL l = 0 := by simpa using h
  conv => whnf
  refine iteC (fun h2 => ?_) (fun h2 => ?_)
  · have h2 := of_decide_eq_true h2
    rw [List.length_map] at h2
    have e : errQ l r = 4 := by unfold errQ; rw [if_neg (by simp [h]), if_pos (by omega)]
    unfold totA
    rw [e, if_pos (by decide)]
    rfl
  have h2 := of_decide_eq_false h2
  rw [List.length_map] at h2
  have hps : (r.map (priceQ l)).length = r.length := by simp
  generalize hP : r.map (priceQ l) = ps at hps
  conv => whnf
  refine LoopJ.nil 6 1000 lnsh rfl rfl ?_
  refine LoopJ.intro (I := []) (base' := 0) hX hm (by kernel_rfl) (σ := Nat) (fun c => [(0, rvs l), (1, qvs r), (6, .own 1000), (7, .p (.i .i64 c))]) (fun c => [(1000, .els true lnsh ((linesL c ps).map lv))])
    (fun c => c ≤ 10 ∧ (0 < c → ∀ j (hj : j < r.length), (priceQ l r[j]).2.2 = 0)) (fun c => 10 - c) 0 []
    ⟨by omega, fun h => by omega⟩ ⟨nofun, rfl, ⟨rfl, rfl, rfl, rfl, rfl, rfl, rfl, rfl, trivial⟩, ⟨rfl, rfl, trivial⟩⟩ ?_
  intro c hc
  conv => whnf
  refine iteC (fun h3 => ?_) (fun h3 => ?_)
  · have h3 := of_decide_eq_true h3
    conv => whnf
    refine LoopJ.intro (I := []) (base' := 0) hX hm (by kernel_rfl) (σ := Nat) (fun i => [(0, rvs l), (1, qvs r), (6, .own 1000), (7, .p (.i .i64 c)), (8, .ptr 64 []), (9, .p (.i .i64 i))])
      (fun i => [(1000, .els true lnsh ((linesL c ps).map lv)), (64, .var (.p (lv ⟨c, (sumL c (ps.take i)).1, (sumL c (ps.take i)).2⟩)))])
      (fun i => i ≤ r.length ∧ ∀ j (hj : j < r.length), j < i → (priceQ l r[j]).2.2 = 0) (fun i => r.length - i) 0 []
      ⟨Nat.zero_le _, by intro j _ h; omega⟩ ⟨nofun, rfl, ⟨rfl, rfl, rfl, rfl, rfl, rfl, rfl, rfl, rfl, rfl, rfl, rfl, trivial⟩, ⟨rfl, rfl, rfl, rfl, trivial⟩⟩ ?_
    intro i hi
    conv => whnf
    refine iteC (fun h4 => ?_) (fun h4 => ?_)
    · have h4 := of_decide_eq_true h4
      rw [List.length_map] at h4
      have hlt : i < r.length := by omega
      have hg := getI_map (f := qv) hlt
      conv => whnf
      conv => arg 2; repeat (first | rw [hg] | (whnf; arg 2))
      conv => whnf
      conv => arg 2; repeat (first | rw [hg] | (whnf; arg 2))
      conv => whnf
      refine ⟨_, f27_ok l r[i].ep r[i].cost, ?_⟩
      conv => whnf
      refine iteC (fun h5 => ?_) (fun h5 => ?_)
      · have h5 : (priceQ l r[i]).2.2 ≠ 0 := by
          have : (priceL l r[i].ep r[i].cost).2.2 ≠ 0 := by simpa using h5
          exact this
        conv => whnf
        have hf : r.find? (fun q => decide ((priceQ l q).2.2 ≠ 0)) = some r[i] := by
          rw [List.find?_eq_some_iff_getElem]
          refine ⟨by simpa using h5, i, hlt, rfl, fun j hj => by simp [hi.2 j (by omega) hj]⟩
        have e : errQ l r = (priceQ l r[i]).2.2 := by unfold errQ; rw [if_neg (by simp [h]), if_neg (by omega), hf]
        unfold totA
        rw [e, if_pos h5]
        rfl
      · have h5 : (priceQ l r[i]).2.2 = 0 := by
          have : (priceL l r[i].ep r[i].cost).2.2 = 0 := by simpa using h5
          exact this
        have hinv : ∀ j (hj : j < r.length), j < i + 1 → (priceQ l r[j]).2.2 = 0 := fun j hj hji => by
          by_cases hj2 : j = i
          · subst hj2; exact h5
          · exact hi.2 j hj (by omega)
        have hpi : ps[i]'(by omega) = priceL l r[i].ep r[i].cost := by subst hP; simp [priceQ]
        have hst := sumL_step (c := c) (ps := ps) (i := i) (by omega)
        rw [hpi] at hst
        conv => whnf
        refine iteC (fun h6 => ?_) (fun h6 => ?_)
        · have h6 : (priceL l r[i].ep r[i].cost).1 = c := by simpa using h6
          conv => whnf
          refine ⟨i + 1, [], ⟨by omega, hinv⟩, by dsimp only; omega, nofun, rfl, ⟨rfl, rfl, rfl, rfl, rfl, rfl, rfl, rfl, rfl, rfl, inc_eq hlt (by omega), rfl, trivial⟩, ⟨rfl, rfl, ?_, rfl, trivial⟩⟩
          rw [hst, accL, if_pos h6]
          rfl
        · have h6 : ¬ (priceL l r[i].ep r[i].cost).1 = c := by simpa using h6
          conv => whnf
          refine ⟨i + 1, [], ⟨by omega, hinv⟩, by dsimp only; omega, nofun, rfl, ⟨rfl, rfl, rfl, rfl, rfl, rfl, rfl, rfl, rfl, rfl, inc_eq hlt (by omega), rfl, trivial⟩, ⟨rfl, rfl, ?_, rfl, trivial⟩⟩
          rw [hst, accL, if_neg h6]
          rfl
    · have h4 := of_decide_eq_false h4
      rw [List.length_map] at h4
      have hir : i = r.length := by omega
      have htk : ps.take i = ps := List.take_of_length_le (by omega)
      have hall : ∀ j (hj : j < r.length), (priceQ l r[j]).2.2 = 0 := fun j hj => hi.2 j hj (by omega)
      rw [htk]
      have hls := linesL_step c ps
      conv => whnf
      refine iteC (fun h5 => ?_) (fun h5 => ?_)
      · have h5 := of_decide_eq_true h5
        have : lineL ps c = some ⟨c, (sumL c ps).1, (sumL c ps).2⟩ := by unfold lineL; rw [if_pos h5]
        rw [this] at hls
        have hlen := linesL_len c ps
        conv => whnf
        conv => arg 2; repeat (first | rw [capT _ (by simp; omega)] | (whnf; arg 2))
        conv => whnf
        refine ⟨c + 1, [(1000, 560)], ⟨by omega, fun _ => hall⟩, by dsimp only; omega, nofun, rfl, ⟨rfl, rfl, rfl, rfl, rfl, rfl, inc_eq (n := 10) (by omega) (by decide), rfl, trivial⟩, ⟨?_, rfl, trivial⟩⟩
        rw [hls, List.map_append]
        rfl
      · have h5 := of_decide_eq_false h5
        have : lineL ps c = none := by unfold lineL; rw [if_neg h5]
        rw [this] at hls
        conv => whnf
        refine ⟨c + 1, [], ⟨by omega, fun _ => hall⟩, by dsimp only; omega, nofun, rfl, ⟨rfl, rfl, rfl, rfl, rfl, rfl, inc_eq (n := 10) (by omega) (by decide), rfl, trivial⟩, ⟨?_, rfl, trivial⟩⟩
        rw [hls]
        simp
        rfl
  · have h3 := of_decide_eq_false h3
    have hc10 : c = 10 := by omega
    subst hc10
    conv => whnf
    have hf : r.find? (fun q => decide ((priceQ l q).2.2 ≠ 0)) = none := by
      rw [List.find?_eq_none]
      intro q hq
      obtain ⟨j, hj, rfl⟩ := List.mem_iff_getElem.1 hq
      simp [hc.2 (by omega) j hj]
    have e : errQ l r = 0 := by unfold errQ; rw [if_neg (by simp [h]), if_neg (by omega), hf]
    unfold totA
    rw [e, if_neg (by simp), hP]
    rfl

def acc3 (c : Int) (s : Ln) (p : Int × Int × Int) : Ln := if p.1 = c then ⟨c, IntKind.i64.wrap (s.cnt + 1), IntKind.u64.wrap (s.tot + p.2.1)⟩ else s
def sum3 (c : Int) (ps : List (Int × Int × Int)) : Ln := ps.foldl (acc3 c) ⟨0, 0, 0⟩
def arr3 (ps : List (Int × Int × Int)) : List PV := (List.range 10).map fun (c : Nat) => lv (sum3 c ps)
theorem sum3_step {c : Int} {ps : List (Int × Int × Int)} {i : Nat} (h : i < ps.length) : sum3 c (ps.take (i + 1)) = acc3 c (sum3 c (ps.take i)) ps[i] := by
  unfold sum3
  rw [List.take_add_one, List.foldl_append]
  simp [h]
theorem sum3_spec (c : Int) (ps : List (Int × Int × Int)) : (sum3 c ps).cnt = (sumL c ps).1 ∧ (sum3 c ps).tot = (sumL c ps).2 ∧ ((sum3 c ps).cnt ≠ 0 → (sum3 c ps).cls = c) := by
  have key : ∀ (qs : List (Int × Int × Int)) (s : Ln) (u : Int × Int), s.cnt = u.1 → s.tot = u.2 → (s.cnt ≠ 0 → s.cls = c) →
      (qs.foldl (acc3 c) s).cnt = (qs.foldl (accL c) u).1 ∧ (qs.foldl (acc3 c) s).tot = (qs.foldl (accL c) u).2 ∧ ((qs.foldl (acc3 c) s).cnt ≠ 0 → (qs.foldl (acc3 c) s).cls = c) := by
    intro qs
    induction qs with
    | nil => intro s u h1 h2 h3; exact ⟨h1, h2, h3⟩
    | cons p qs ih =>
      intro s u h1 h2 h3
      simp only [List.foldl_cons]
      refine ih _ _ ?_ ?_ ?_
      · unfold acc3 accL; split <;> simp [h1]
      · unfold acc3 accL; split <;> simp [h2]
      · unfold acc3; split
        · intro _; rfl
        · exact h3
  exact key ps ⟨0, 0, 0⟩ (0, 0) rfl rfl (by simp)
theorem checkL_valid {l : List R} (h : checkL l = 0) {i : Nat} (hi : i < l.length) : validR l[i] = true := by
  unfold checkL at h
  split at h
  · cases h
  · split at h
    · rename_i hall
      exact List.all_eq_true.1 hall _ (List.getElem_mem hi)
    · cases h
theorem price_cls {l : List R} {a n : Int} (hc : checkL l = 0) (h : (priceL l a n).2.2 = 0) : ∃ k : Nat, k < 10 ∧ (priceL l a n).1 = k := by
  unfold priceL at h ⊢
  split at h
  · rename_i h1; exact absurd h h1
  · rename_i h1
    rw [if_neg h1]
    obtain ⟨i, hi, he⟩ := findL_at (l := l) (a := a) (n := n) (by simpa using h1)
    have hv := checkL_valid hc hi
    simp only [validR, Bool.and_eq_true, decide_eq_true_eq] at hv
    refine ⟨l[i].cls.toNat, by omega, ?_⟩
    simp only [he, getR]
    simp [hi]
    omega
theorem arr3_length (ps : List (Int × Int × Int)) : (arr3 ps).length = 10 := by simp [arr3]
theorem getI_arr3 (ps : List (Int × Int × Int)) {k : Nat} (hk : k < 10) : getI (arr3 ps) (k : Int) = some (lv (sum3 k ps)) := by
  unfold getI
  rw [decide_eq_true (by omega)]
  simp [arr3, hk]
theorem nth_arr3 (ps : List (Int × Int × Int)) {k : Nat} (hk : k < 10) : (arr3 ps)[(k : Int).toNat]? = some (lv (sum3 k ps)) := by
  simp [arr3, hk]
theorem getI_set {l : List PV} {k : Nat} (hk : k < l.length) (v : PV) : getI (l.set (k : Int).toNat v) (k : Int) = some v := by
  unfold getI
  rw [decide_eq_true (by omega)]
  simp [hk]
theorem nth_set {l : List PV} {k : Nat} (hk : k < l.length) (v : PV) : (l.set (k : Int).toNat v)[(k : Int).toNat]? = some v := by
  simp [hk]
theorem arr3_step {ps : List (Int × Int × Int)} {i k : Nat} (hi : i < ps.length) (hk : ps[i].1 = (k : Int)) :
    (arr3 (ps.take i)).set (k : Int).toNat (lv ⟨k, IntKind.i64.wrap ((sum3 k (ps.take i)).cnt + 1), IntKind.u64.wrap ((sum3 k (ps.take i)).tot + ps[i].2.1)⟩) = arr3 (ps.take (i + 1)) := by
  refine List.ext_getElem (by simp [arr3]) fun j h1 h2 => ?_
  simp only [Int.toNat_natCast, List.getElem_set]
  simp only [arr3, List.getElem_map, List.getElem_range]
  rw [sum3_step hi]
  unfold acc3
  by_cases hj : k = j
  · subst hj
    rw [if_pos rfl, if_pos hk]
  · rw [if_neg hj, if_neg (by rw [hk]; omega)]
theorem f30_ok (l : List R) (r : List Q) : Fn Try.prog X.G 30 [rvs l, qvs r] (.tup [totA l r, .p (.i .i64 (errQ l r))]) := by
  refine Fn.intro (I := []) hX hm 0 Try.func30 rfl rfl (by kernel_rfl) rfl ?_
  conv => whnf
  refine ⟨_, f28_ok l, ?_⟩
  conv => whnf
  refine iteC (fun h => ?_) (fun h => ?_)
  · have h : checkL l ≠ 0 := by simpa using h
    have e : errQ l r = checkL l := by unfold errQ; rw [if_pos h]
    unfold totA
    rw [e, if_pos h]
    rfl
  have h : checkL l = 0 := by simpa using h
  conv => whnf
  refine iteC (fun h2 => ?_) (fun h2 => ?_)
  · have h2 := of_decide_eq_true h2
    rw [List.length_map] at h2
    have e : errQ l r = 4 := by unfold errQ; rw [if_neg (by simp [h]), if_pos (by omega)]
    unfold totA
    rw [e, if_pos (by decide)]
    rfl
  have h2 := of_decide_eq_false h2
  rw [List.length_map] at h2
  have hps : (r.map (priceQ l)).length = r.length := by simp
  generalize hP : r.map (priceQ l) = ps at hps
  conv => whnf
  refine LoopJ.intro (I := []) (base' := 0) hX hm (by kernel_rfl) (σ := Nat) (fun i => [(0, rvs l), (1, qvs r), (7, .ptr 56 []), (24, qvs r), (25, .p (.i .i64 r.length)), (26, .p (.i .i64 i))])
    (fun i => [(56, .var (.p (.arr 10 lnsh (arr3 (ps.take i)))))]) (fun i => i ≤ r.length ∧ ∀ j (hj : j < r.length), j < i → (priceQ l r[j]).2.2 = 0) (fun i => r.length - i) 0 []
    ⟨Nat.zero_le _, by intro j _ h; omega⟩ ⟨nofun, rfl, ⟨rfl, rfl, rfl, rfl, rfl, rfl, rfl, rfl, ?_, rfl, rfl, rfl, trivial⟩, ⟨rfl, rfl, trivial⟩⟩ ?_
  · show AV.p (.i .i64 ((r.map qv).length : Int)) = .p (.i .i64 r.length)
    rw [List.length_map]
  intro i hi
  conv => whnf
  refine iteC (fun h4 => ?_) (fun h4 => ?_)
  · have h4 := of_decide_eq_true h4
    have hlt : i < r.length := by omega
    have hg := getI_map (f := qv) hlt
    conv => whnf
    conv => arg 2; repeat (first | rw [hg] | (whnf; arg 2))
    conv => whnf
    have c26 := f26_ok l r[i].ep r[i].cost
    by_cases h5 : (priceQ l r[i]).2.2 ≠ 0
    · refine ⟨_, c26, ?_⟩
      conv => whnf
      refine iteT (by have : (priceL l r[i].ep r[i].cost).2.2 ≠ 0 := h5
                      simpa using this) ?_
      conv => whnf
      have hf : r.find? (fun q => decide ((priceQ l q).2.2 ≠ 0)) = some r[i] := by
        rw [List.find?_eq_some_iff_getElem]
        refine ⟨by simpa using h5, i, hlt, rfl, fun j hj => by simp [hi.2 j (by omega) hj]⟩
      have e : errQ l r = (priceQ l r[i]).2.2 := by unfold errQ; rw [if_neg (by simp [h]), if_neg (by omega), hf]
      unfold totA
      rw [e, if_pos h5]
      rfl
    · have h5 : (priceQ l r[i]).2.2 = 0 := by simpa using h5
      obtain ⟨k, hk, hcls⟩ := price_cls (l := l) (a := r[i].ep) (n := r[i].cost) h h5
      rw [hcls] at c26
      refine ⟨_, c26, ?_⟩
      conv => whnf
      refine iteF (by have : (priceL l r[i].ep r[i].cost).2.2 = 0 := h5
                      simpa using this) ?_
      have g1 := getI_arr3 (ps.take i) hk
      have g2 := nth_arr3 (ps.take i) hk
      have hl := arr3_length (ps.take i)
      generalize hl0 : arr3 (ps.take i) = A at g1 g2 hl
      have g3 : ∀ v, getI (A.set (k : Int).toNat v) (k : Int) = some v := fun v => getI_set (by omega) v
      have g4 : ∀ v, (A.set (k : Int).toNat v)[(k : Int).toNat]? = some v := fun v => nth_set (by omega) v
      have g5 : ∀ u v, getI ((A.set (k : Int).toNat u).set (k : Int).toNat v) (k : Int) = some v := fun u v => getI_set (by simp; omega) v
      have g6 : ∀ u v, ((A.set (k : Int).toNat u).set (k : Int).toNat v)[(k : Int).toNat]? = some v := fun u v => nth_set (by simp; omega) v
      conv => whnf
      repeat (conv => arg 2; repeat (first | rw [g1] | rw [g2] | rw [g3] | rw [g4] | rw [g5] | rw [g6] | (whnf; arg 2))
              conv => whnf)
      subst hl0
      refine ⟨i + 1, [], ⟨by omega, fun j hj hji => ?_⟩, by dsimp only; omega, nofun, rfl, ⟨rfl, rfl, rfl, rfl, rfl, rfl, rfl, rfl, rfl, rfl, inc_eq hlt (by omega), rfl, trivial⟩, ⟨?_, rfl, trivial⟩⟩
      · by_cases hj2 : j = i
        · subst hj2; exact h5
        · exact hi.2 j hj (by omega)
      · have hpi : ps[i]'(by omega) = priceL l r[i].ep r[i].cost := by subst hP; simp [priceQ]
        have hst := arr3_step (ps := ps) (i := i) (k := k) (by omega) (by rw [hpi]; exact hcls)
        rw [hpi] at hst
        rw [← hst]
        refine congrArg (fun l => some (Blk.var (.p (.arr 10 lnsh l)))) ?_
        rw [List.set_set, List.set_set]
        rfl
  · have h4 := of_decide_eq_false h4
    have hir : i = r.length := by omega
    have htk : ps.take i = ps := List.take_of_length_le (by omega)
    have hall : ∀ j (hj : j < r.length), (priceQ l r[j]).2.2 = 0 := fun j hj => hi.2 j hj (by omega)
    rw [htk]
    conv => whnf
    refine LoopJ.nil 13 1000 lnsh rfl rfl ?_
    refine LoopJ.intro (I := []) (base' := 0) hX hm (by kernel_rfl) (σ := Nat) (fun c => [(13, .own 1000), (63, .p (.arr 10 lnsh (arr3 ps))), (64, .p (.i .i64 c))])
      (fun c => [(1000, .els true lnsh ((linesL c ps).map lv))]) (fun c => c ≤ 10) (fun c => 10 - c) 0 []
      (by omega) ⟨nofun, rfl, ⟨rfl, rfl, rfl, rfl, rfl, rfl, trivial⟩, ⟨rfl, rfl, trivial⟩⟩ ?_
    intro c hc
    conv => whnf
    refine iteC (fun h5 => ?_) (fun h5 => ?_)
    · have h5 := of_decide_eq_true h5
      have g1 := getI_arr3 ps (k := c) (by omega)
      obtain ⟨e1, e2, e3⟩ := sum3_spec c ps
      have hls := linesL_step c ps
      have hlen := linesL_len c ps
      conv => whnf
      conv => arg 2; repeat (first | rw [g1] | (whnf; arg 2))
      conv => whnf
      refine iteC (fun h6 => ?_) (fun h6 => ?_)
      · have h6 : (sum3 c ps).cnt > 0 := of_decide_eq_true h6
        have : lineL ps c = some (sum3 c ps) := by
          unfold lineL
          rw [← e1, ← e2, if_pos h6]
          have := e3 (by omega)
          have key : ∀ x : Ln, x.cls = (c : Int) → (⟨(c : Int), x.cnt, x.tot⟩ : Ln) = x := by
            rintro ⟨_, _, _⟩ rfl
            rfl
          rw [key _ this]
        rw [this] at hls
        conv => whnf
        conv => arg 2; repeat (first | rw [capT _ (by simp; omega)] | (whnf; arg 2))
        conv => whnf
        refine ⟨c + 1, [(1000, 584)], by omega, by dsimp only; omega, nofun, rfl, ⟨rfl, rfl, rfl, rfl, inc_eq (n := 10) (by omega) (by decide), rfl, trivial⟩, ⟨?_, rfl, trivial⟩⟩
        rw [hls, List.map_append]
        rfl
      · have h6 : ¬ (sum3 c ps).cnt > 0 := of_decide_eq_false h6
        have : lineL ps c = none := by unfold lineL; rw [← e1, if_neg h6]
        rw [this] at hls
        conv => whnf
        refine ⟨c + 1, [], by omega, by dsimp only; omega, nofun, rfl, ⟨rfl, rfl, rfl, rfl, inc_eq (n := 10) (by omega) (by decide), rfl, trivial⟩, ⟨?_, rfl, trivial⟩⟩
        rw [hls]
        simp
        rfl
    · have h5 := of_decide_eq_false h5
      have hc10 : c = 10 := by omega
      subst hc10
      conv => whnf
      have hf : r.find? (fun q => decide ((priceQ l q).2.2 ≠ 0)) = none := by
        rw [List.find?_eq_none]
        intro q hq
        obtain ⟨j, hj, rfl⟩ := List.mem_iff_getElem.1 hq
        simp [hall j hj]
      have e : errQ l r = 0 := by unfold errQ; rw [if_neg (by simp [h]), if_neg (by omega), hf]
      unfold totA
      rw [e, if_neg (by simp), hP]
      rfl
end Go.Proofs.Ytmngcmfcbfkimaa.AM
