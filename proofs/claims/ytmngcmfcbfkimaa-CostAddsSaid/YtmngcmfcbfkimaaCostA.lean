/- Prices: the rules as plain data, and what the functions over them compute. -/
import Derived.Test.YtmngcmfcbfkimaaAm29
import Derived.Test.YtmngcmfcbfkimaaProg
namespace Go.Proofs.Ytmngcmfcbfkimaa.AM
open Go Go.Proofs

def tt : TT := [
  (3, ⟨.int .i64, 1, 8, false, some (.p (.i .i64 0))⟩),
  (4, ⟨.bool, 1, 1, false, some (.p (.b false))⟩),
  (5, ⟨.int .u8, 1, 1, false, some (.p (.i .u8 0))⟩),
  (22, ⟨.int .u64, 1, 8, false, some (.p (.i .u64 0))⟩),
  (23, ⟨.slice 22, 1, 24, false, some (.nil)⟩),
  (25, ⟨.int .i64, 1, 8, false, some (.p (.i .i64 0))⟩),
  (30, ⟨.slice 3, 1, 24, false, some (.nil)⟩),
  (40, ⟨.slice 69, 1, 24, false, some (.nil)⟩),
  (41, ⟨.int .u16, 1, 2, false, some (.p (.i .u16 0))⟩),
  (42, ⟨.int .u32, 1, 4, false, some (.p (.i .u32 0))⟩),
  (54, ⟨.slice 65, 1, 24, false, some (.nil)⟩),
  (55, ⟨.slice 77, 1, 24, false, some (.nil)⟩),
  (61, ⟨.arr 32 5, 32, 32, true, some (.p (.arr 32 (.int .u8) (List.replicate 32 (.i .u8 0))))⟩),
  (63, ⟨.st [(0, 42), (1, 42), (2, 42), (3, 22), (4, 61)], 36, 56, true, some (.p (.st [(.i .u32 0), (.i .u32 0), (.i .u32 0), (.i .u64 0), (.arr 32 (.int .u8) (List.replicate 32 (.i .u8 0)))]))⟩),
  (65, ⟨.st [(0, 63), (36, 41), (37, 42)], 38, 64, true, some (.p (.st [(.st [(.i .u32 0), (.i .u32 0), (.i .u32 0), (.i .u64 0), (.arr 32 (.int .u8) (List.replicate 32 (.i .u8 0)))]), (.i .u16 0), (.i .u32 0)]))⟩),
  (69, ⟨.st [(0, 41), (1, 41), (2, 42), (3, 3), (4, 42), (5, 42)], 6, 24, true, some (.p (.st [(.i .u16 0), (.i .u16 0), (.i .u32 0), (.i .i64 0), (.i .u32 0), (.i .u32 0)]))⟩),
  (77, ⟨.st [(0, 3), (1, 3), (2, 22)], 3, 24, true, some (.p (.st [(.i .i64 0), (.i .i64 0), (.i .u64 0)]))⟩),
  (97, ⟨.arr 10 77, 30, 240, true, some (.p (.arr 10 (.st [(.int .i64), (.int .i64), (.int .u64)]) (List.replicate 10 (.st [(.i .i64 0), (.i .i64 0), (.i .u64 0)]))))⟩)
]
def X : Ctx := ⟨tt, []⟩
theorem hX : X.ok Try.prog := ttB_ok (by kernel_rfl)
theorem hm : Try.prog.follows .mixedOrders = true := by kernel_rfl
theorem noG (w : World) : GlobOK w X.G := fun g x hg => by cases hg
set_option maxRecDepth 100000

structure R where
  fr : Int
  to : Int
  most : Int
  cls : Int
  fac : Int
  plus : Int
abbrev rsh : Sh := .st [.int .u16, .int .u16, .int .u32, .int .i64, .int .u32, .int .u32]
abbrev rv (r : R) : PV := .st [.i .u16 r.fr, .i .u16 r.to, .i .u32 r.most, .i .i64 r.cls, .i .u32 r.fac, .i .u32 r.plus]
abbrev rvs (l : List R) : AV := .ro rsh (l.map rv)

def validR (r : R) : Bool := decide (r.fr ≤ r.to) && (decide (r.cls ≥ 0) && (decide (r.cls ≤ 9) && (decide (r.fac ≤ 10000) && decide (r.plus ≤ 10000))))
def fitsR (r : R) (e n : Int) : Bool := decide (r.fr ≤ e) && (decide (e ≤ r.to) && decide (n ≤ r.most))
def firstI (p : R → Bool) (l : List R) : Int :=
  match l.findIdx? p with
  | some i => i
  | none => -1
def checkL (l : List R) : Int := if l.length > 20 then 4 else if l.all validR then 0 else 8
def findL (l : List R) (e n : Int) : Int × Int :=
  if checkL l ≠ 0 then (0, checkL l) else
  match l.findIdx? (fitsR · e n) with
  | some i => (i, 0)
  | none => (0, 6)

theorem wrapI64 {n : Int} (h1 : 0 ≤ n) (h2 : n < 9223372036854775808) : IntKind.i64.wrap n = n := by
  simp [IntKind.wrap, IntKind.signed, IntKind.bits]
  omega
theorem getI_map {α : Type} {f : α → PV} {l : List α} {i : Nat} (h : i < l.length) : getI (l.map f) (i : Int) = some (f l[i]) := by
  unfold getI
  rw [decide_eq_true (by omega)]
  simp [h]

theorem f36_ok (r : R) : Fn Try.prog X.G 36 [.p (rv r)] (.p (.b (validR r))) := by
  refine Fn.intro (I := []) hX hm 0 Try.func36 rfl rfl (by kernel_rfl) rfl ?_
  conv => whnf
  refine iteC (fun h1 => ?_) (fun h1 => ?_)
  · conv => whnf
    refine iteC (fun h2 => ?_) (fun h2 => ?_)
    · conv => whnf
      refine iteC (fun h3 => ?_) (fun h3 => ?_)
      · conv => whnf
        refine iteC (fun h4 => ?_) (fun h4 => ?_)
        · conv => whnf
          refine iteC (fun h5 => ?_) (fun h5 => ?_)
          all_goals (rw [show validR r = _ from by unfold validR; rw [h1, h2, h3, h4, h5]]; rfl)
        · rw [show validR r = _ from by unfold validR; rw [h1, h2, h3, h4]]; rfl
      · rw [show validR r = _ from by unfold validR; rw [h1, h2, h3]]; rfl
    · rw [show validR r = _ from by unfold validR; rw [h1, h2]]; rfl
  · rw [show validR r = _ from by unfold validR; rw [h1]]; rfl

theorem f52_ok (r : R) : Fn Try.prog X.G 52 [.p (rv r)] (.p (.b (!validR r))) := by
  refine Fn.intro (I := []) hX hm 0 Try.func52 rfl rfl (by kernel_rfl) rfl ?_
  have e : ∀ {a b : Int}, decide (a ≤ b) = !decide (a > b) := fun {a b} => by by_cases h : a ≤ b <;> simp [h] <;> omega
  have e' : ∀ {a b : Int}, decide (a ≥ b) = !decide (a < b) := fun {a b} => by by_cases h : a ≥ b <;> simp [h] <;> omega
  have ev : validR r = (!decide (r.fr > r.to) && (!decide (r.cls < 0) && (!decide (r.cls > 9) && (!decide (r.fac > 10000) && !decide (r.plus > 10000))))) := by
    unfold validR
    rw [e, e', e, e, e]
  conv => whnf
  refine iteC (fun h1 => ?_) (fun h1 => ?_)
  · rw [show validR r = _ from by rw [ev, h1]]; rfl
  conv => whnf
  refine iteC (fun h2 => ?_) (fun h2 => ?_)
  · rw [show validR r = _ from by rw [ev, h1, h2]]; rfl
  conv => whnf
  refine iteC (fun h3 => ?_) (fun h3 => ?_)
  · rw [show validR r = _ from by rw [ev, h1, h2, h3]]; rfl
  conv => whnf
  refine iteC (fun h4 => ?_) (fun h4 => ?_)
  · rw [show validR r = _ from by rw [ev, h1, h2, h3, h4]]; rfl
  conv => whnf
  refine iteC (fun h5 => ?_) (fun h5 => ?_)
  all_goals (rw [show validR r = _ from by rw [ev, h1, h2, h3, h4, h5]]; rfl)
theorem f37_ok (r : R) (a n : Int) : Fn Try.prog X.G 37 [.p (rv r), .p (.i .u16 a), .p (.i .u32 n)] (.p (.b (fitsR r a n))) := by
  refine Fn.intro (I := []) hX hm 0 Try.func37 rfl rfl (by kernel_rfl) rfl ?_
  conv => whnf
  refine iteC (fun h1 => ?_) (fun h1 => ?_)
  case refine_2 => rw [show fitsR r a n = _ from by unfold fitsR; rw [h1]]; rfl
  conv => whnf
  refine iteC (fun h2 => ?_) (fun h2 => ?_)
  case refine_2 => rw [show fitsR r a n = _ from by unfold fitsR; rw [h1, h2]]; rfl
  conv => whnf
  refine iteC (fun h3 => ?_) (fun h3 => ?_)
  all_goals (rw [show fitsR r a n = _ from by unfold fitsR; rw [h1, h2, h3]]; rfl)
theorem f59_ok (r : R) (a n : Int) : Fn Try.prog X.G 59 [.p (rv r), .rp (.p (.i .u16 a)), .rp (.p (.i .u32 n))] (.p (.b (fitsR r a n))) := by
  refine Fn.intro (I := []) hX hm 0 Try.func59 rfl rfl (by kernel_rfl) rfl ?_
  have ev : fitsR r a n = (decide (a ≥ r.fr) && (decide (a ≤ r.to) && decide (n ≤ r.most))) := rfl
  conv => whnf
  refine iteC (fun h1 => ?_) (fun h1 => ?_)
  case refine_2 => rw [show fitsR r a n = _ from by rw [ev, h1]]; rfl
  conv => whnf
  refine iteC (fun h2 => ?_) (fun h2 => ?_)
  case refine_2 => rw [show fitsR r a n = _ from by rw [ev, h1, h2]]; rfl
  conv => whnf
  refine iteC (fun h3 => ?_) (fun h3 => ?_)
  all_goals (rw [show fitsR r a n = _ from by rw [ev, h1, h2, h3]]; rfl)
theorem firstI_at {p : R → Bool} {l : List R} {i : Nat} (h : i < l.length) (hb : ∀ j (hj : j < l.length), j < i → p l[j] = false) (hp : p l[i] = true) : l.findIdx? p = some i := by
  rw [List.findIdx?_eq_some_iff_getElem]
  exact ⟨h, hp, fun j hj => by simp [hb j (by omega) hj]⟩
theorem firstI_none {p : R → Bool} {l : List R} (hb : ∀ j (hj : j < l.length), p l[j] = false) : l.findIdx? p = none := by
  rw [List.findIdx?_eq_none_iff]
  intro x hx
  obtain ⟨j, hj, rfl⟩ := List.mem_iff_getElem.1 hx
  exact hb j hj
theorem f58_ok (p : R → Bool) (l : List R) (f : Nat) (caps : List AV) (hl : l.length < 9223372036854775808) (hr : AV.refsL caps = []) (hren : ∀ m, AV.renL m caps = caps) (hsh : ∀ L, shutAll L caps = some caps)
    (hf : ∀ r, Fn Try.prog X.G f (.p (rv r) :: caps) (.p (.b (p r)))) : Fn Try.prog X.G 58 [rvs l, .fn f caps] (.p (.i .i64 (firstI p l))) := by
  refine Fn.intro (I := []) hX hm 0 Try.func58 rfl rfl (by kernel_rfl) rfl ?_
  conv => whnf
  refine LoopJ.intro (I := []) (base' := 0) hX hm (by kernel_rfl) (σ := Nat) (fun i => [(0, rvs l), (1, .fn f caps), (7, .p (.i .i64 l.length)), (8, .p (.i .i64 i))]) (fun _ => []) (fun i => i ≤ l.length ∧ ∀ j (hj : j < l.length), j < i → p l[j] = false) (fun i => l.length - i) 0 []
    ⟨Nat.zero_le _, by intro j _ h; omega⟩ ⟨nofun, rfl, ⟨rfl, rfl, ?_, ?_, ?_, rfl, rfl, rfl, trivial⟩, trivial⟩ ?_
  · show AV.fn f caps = .fn f (AV.renL _ caps)
    rw [hren]
  · show subN (AV.refsL caps) _ = true
    rw [hr]; rfl
  · show AV.p (.i .i64 ((l.map rv).length : Int)) = .p (.i .i64 l.length)
    rw [List.length_map]
  intro i hi
  conv => whnf
  refine iteC (fun h1 => ?_) (fun h1 => ?_)
  · have h1 := of_decide_eq_true h1
    have hlt : i < l.length := by omega
    have hg := getI_map (f := rv) hlt
    conv => whnf
    conv => arg 2; repeat (first | rw [hg] | (whnf; arg 2))
    conv => whnf
    conv => arg 2; whnf; arg 2; change shutAll (find []) caps; rw [hsh]
    conv => whnf
    refine ⟨_, hf l[i], ?_⟩
    conv => whnf
    refine iteC (fun h2 => ?_) (fun h2 => ?_)
    · conv => whnf
      have : firstI p l = i := by unfold firstI; rw [firstI_at hlt hi.2 h2]
      rw [this]
      rfl
    · conv => whnf
      refine ⟨i + 1, [], ⟨by omega, fun j hj hji => ?_⟩, by dsimp only; omega, nofun, rfl, ⟨rfl, rfl, ?_, ?_, rfl, rfl, ?_, rfl, trivial⟩, trivial⟩
      · by_cases hj2 : j = i
        · subst hj2; exact h2
        · exact hi.2 j hj (by omega)
      · show AV.fn f caps = .fn f (AV.renL _ caps)
        rw [hren]
      · show subN (AV.refsL caps) _ = true
        rw [hr]; rfl
      · show AV.p (.i .i64 (IntKind.i64.wrap ((i : Int) + 1))) = AV.p (.i .i64 ((i + 1 : Nat) : Int))
        rw [wrapI64 (by omega) (by omega)]
        simp
  · have h1 := of_decide_eq_false h1
    conv => whnf
    have : firstI p l = -1 := by unfold firstI; rw [firstI_none fun j hj => hi.2 j hj (by omega)]
    rw [this]
    rfl
theorem f53_ok (p : R → Bool) (l : List R) (f : Nat) (hl : l.length < 9223372036854775808)
    (hf : ∀ r, Fn Try.prog X.G f [.p (rv r)] (.p (.b (p r)))) : Fn Try.prog X.G 53 [rvs l, .fn f []] (.p (.b (l.any p))) := by
  refine Fn.intro (I := []) hX hm 0 Try.func53 rfl rfl (by kernel_rfl) rfl ?_
  conv => whnf
  refine ⟨_, f58_ok p l f [] hl rfl (fun _ => rfl) (fun _ => rfl) hf, ?_⟩
  have : decide (firstI p l ≥ 0) = l.any p := by
    unfold firstI
    cases h : l.findIdx? p with
    | none =>
      rw [List.findIdx?_eq_none_iff] at h
      have : l.any p = false := by simpa using h
      rw [this]; rfl
    | some i =>
      rw [List.findIdx?_eq_some_iff_getElem] at h
      obtain ⟨h1, h2, _⟩ := h
      have : l.any p = true := List.any_eq_true.2 ⟨l[i], List.getElem_mem h1, h2⟩
      rw [this]
      simp
  conv => whnf
  refine iteC (fun h => ?_) (fun h => ?_)
  all_goals (rw [← this, h]; rfl)
theorem any_not (l : List R) : l.any (fun r => !validR r) = !l.all validR := by
  induction l with
  | nil => rfl
  | cons x l ih => simp [ih]
theorem f28_ok (l : List R) : Fn Try.prog X.G 28 [rvs l] (.p (.i .i64 (checkL l))) := by
  refine Fn.intro (I := []) hX hm 0 Try.func28 rfl rfl (by kernel_rfl) rfl ?_
  conv => whnf
  refine iteC (fun h => ?_) (fun h => ?_)
  · have h := of_decide_eq_true h
    rw [List.length_map] at h
    rw [show checkL l = 4 from by unfold checkL; rw [if_pos (by omega)]]
    rfl
  · have h := of_decide_eq_false h
    rw [List.length_map] at h
    conv => whnf
    refine ⟨_, f53_ok (fun r => !validR r) l 52 (by omega) f52_ok, ?_⟩
    conv => whnf
    refine iteC (fun h2 => ?_) (fun h2 => ?_)
    · rw [any_not] at h2
      rw [show checkL l = 8 from by unfold checkL; rw [if_neg (by omega), if_neg (by simpa using h2)]]
      rfl
    · rw [any_not] at h2
      rw [show checkL l = 0 from by unfold checkL; rw [if_neg (by omega), if_pos (by simpa using h2)]]
      rfl
theorem f51_ok (l : List R) (a n : Int) (hl : l.length < 9223372036854775808) : Fn Try.prog X.G 51 [rvs l, .p (.i .u16 a), .p (.i .u32 n)] (.p (.i .i64 (firstI (fitsR · a n) l))) := by
  refine Fn.intro (I := []) hX hm 0 Try.func51 rfl rfl (by kernel_rfl) rfl ?_
  conv => whnf
  refine ⟨_, f58_ok (fitsR · a n) l 59 [.rp (.p (.i .u16 a)), .rp (.p (.i .u32 n))] hl rfl (fun _ => rfl) (fun _ => rfl) (fun r => f59_ok r a n), ?_⟩
  rfl
theorem checkL_len {l : List R} (h : checkL l = 0) : l.length ≤ 20 := by
  unfold checkL at h
  split at h
  · cases h
  · omega
theorem f24_ok (l : List R) (a n : Int) : Fn Try.prog X.G 24 [rvs l, .p (.i .u16 a), .p (.i .u32 n)] (.tup [.p (.i .i64 (findL l a n).1), .p (.i .i64 (findL l a n).2)]) := by
  refine Fn.intro (I := []) hX hm 0 Try.func24 rfl rfl (by kernel_rfl) rfl ?_
  conv => whnf
  refine ⟨_, f28_ok l, ?_⟩
  conv => whnf
  refine iteC (fun h => ?_) (fun h => ?_)
  · have h : checkL l ≠ 0 := by simpa using h
    rw [show findL l a n = (0, checkL l) from by unfold findL; rw [if_pos h]]
    rfl
  · have h : checkL l = 0 := by simpa using h
    have hlen := checkL_len h
    conv => whnf
    refine ⟨_, f51_ok l a n (by omega), ?_⟩
    conv => whnf
    refine iteC (fun h2 => ?_) (fun h2 => ?_)
    · have h2 := of_decide_eq_true h2
      have : findL l a n = (0, 6) := by
        unfold findL
        rw [if_neg (by simp [h])]
        unfold firstI at h2
        cases hf : l.findIdx? (fitsR · a n) with
        | none => rfl
        | some i => rw [hf] at h2; simp at h2; omega
      rw [this]
      rfl
    · have h2 := of_decide_eq_false h2
      have : findL l a n = (firstI (fitsR · a n) l, 0) := by
        unfold findL
        rw [if_neg (by simp [h])]
        unfold firstI at h2 ⊢
        cases hf : l.findIdx? (fitsR · a n) with
        | none => rw [hf] at h2; simp at h2
        | some i => rfl
      rw [this]
      rfl

theorem inc_eq {i n : Nat} (h : i < n) (hn : n < 9223372036854775808) : AV.p (.i .i64 (IntKind.i64.wrap ((i : Int) + 1))) = AV.p (.i .i64 ((i + 1 : Nat) : Int)) := by
  rw [wrapI64 (by omega) (by omega)]
  simp
theorem f29_ok (l : List R) : Fn Try.prog X.G 29 [rvs l] (.p (.i .i64 (checkL l))) := by
  refine Fn.intro (I := []) hX hm 0 Try.func29 rfl rfl (by kernel_rfl) rfl ?_
  conv => whnf
  refine iteC (fun h => ?_) (fun h => ?_)
  · have h := of_decide_eq_true h
    rw [List.length_map] at h
    rw [show checkL l = 4 from by unfold checkL; rw [if_pos (by omega)]]
    rfl
  · have h := of_decide_eq_false h
    rw [List.length_map] at h
    conv => whnf
    refine LoopJ.intro (I := []) (base' := 0) hX hm (by kernel_rfl) (σ := Nat) (fun i => [(0, rvs l), (3, .p (.i .i64 i))]) (fun _ => []) (fun i => i ≤ l.length ∧ ∀ j (hj : j < l.length), j < i → validR l[j] = true) (fun i => l.length - i) 0 []
      ⟨Nat.zero_le _, by intro j _ h; omega⟩ ⟨nofun, rfl, ⟨rfl, rfl, rfl, rfl, trivial⟩, trivial⟩ ?_
    intro i hi
    conv => whnf
    refine iteC (fun h1 => ?_) (fun h1 => ?_)
    · have h1 := of_decide_eq_true h1
      rw [List.length_map] at h1
      have hlt : i < l.length := by omega
      have hg := getI_map (f := rv) hlt
      conv => whnf
      conv => arg 2; repeat (first | rw [hg] | (whnf; arg 2))
      conv => whnf
      refine ⟨_, f36_ok l[i], ?_⟩
      conv => whnf
      refine iteC (fun h2 => ?_) (fun h2 => ?_)
      · conv => whnf
        refine ⟨i + 1, [], ⟨by omega, fun j hj hji => ?_⟩, by dsimp only; omega, nofun, rfl, ⟨rfl, rfl, inc_eq hlt (by omega), rfl, trivial⟩, trivial⟩
        by_cases hj2 : j = i
        · subst hj2; exact h2
        · exact hi.2 j hj (by omega)
      · conv => whnf
        have : checkL l = 8 := by
          unfold checkL
          rw [if_neg (by omega), if_neg]
          intro hall
          have := List.all_eq_true.1 hall _ (List.getElem_mem hlt)
          rw [h2] at this
          cases this
        rw [this]
        rfl
    · have h1 := of_decide_eq_false h1
      rw [List.length_map] at h1
      conv => whnf
      have : checkL l = 0 := by
        unfold checkL
        rw [if_neg (by omega), if_pos]
        rw [List.all_eq_true]
        intro x hx
        obtain ⟨j, hj, rfl⟩ := List.mem_iff_getElem.1 hx
        exact hi.2 j hj (by omega)
      rw [this]
      rfl
theorem f25_ok (l : List R) (a n : Int) : Fn Try.prog X.G 25 [rvs l, .p (.i .u16 a), .p (.i .u32 n)] (.tup [.p (.i .i64 (findL l a n).1), .p (.i .i64 (findL l a n).2)]) := by
  refine Fn.intro (I := []) hX hm 0 Try.func25 rfl rfl (by kernel_rfl) rfl ?_
  conv => whnf
  refine ⟨_, f29_ok l, ?_⟩
  conv => whnf
  refine iteC (fun h => ?_) (fun h => ?_)
  · have h : checkL l ≠ 0 := by simpa using h
    conv => whnf
    refine ⟨_, f29_ok l, ?_⟩
    rw [show findL l a n = (0, checkL l) from by unfold findL; rw [if_pos h]]
    rfl
  · have h : checkL l = 0 := by simpa using h
    have hlen := checkL_len h
    conv => whnf
    refine LoopJ.intro (I := []) (base' := 0) hX hm (by kernel_rfl) (σ := Nat) (fun i => [(0, rvs l), (1, .p (.i .u16 a)), (2, .p (.i .u32 n)), (8, .p (.i .i64 i))]) (fun _ => []) (fun i => i ≤ l.length ∧ ∀ j (hj : j < l.length), j < i → fitsR l[j] a n = false) (fun i => l.length - i) 0 []
      ⟨Nat.zero_le _, by intro j _ h; omega⟩ ⟨nofun, rfl, ⟨rfl, rfl, rfl, rfl, rfl, rfl, rfl, rfl, trivial⟩, trivial⟩ ?_
    intro i hi
    conv => whnf
    refine iteC (fun h1 => ?_) (fun h1 => ?_)
    · have h1 := of_decide_eq_true h1
      rw [List.length_map] at h1
      have hlt : i < l.length := by omega
      have hg := getI_map (f := rv) hlt
      conv => whnf
      conv => arg 2; repeat (first | rw [hg] | (whnf; arg 2))
      conv => whnf
      refine ⟨_, f37_ok l[i] a n, ?_⟩
      conv => whnf
      refine iteC (fun h2 => ?_) (fun h2 => ?_)
      · conv => whnf
        have : findL l a n = ((i : Int), 0) := by
          unfold findL
          rw [if_neg (by simp [h]), firstI_at hlt hi.2 h2]
        rw [this]
        rfl
      · conv => whnf
        refine ⟨i + 1, [], ⟨by omega, fun j hj hji => ?_⟩, by dsimp only; omega, nofun, rfl, ⟨rfl, rfl, rfl, rfl, rfl, rfl, inc_eq hlt (by omega), rfl, trivial⟩, trivial⟩
        by_cases hj2 : j = i
        · subst hj2; exact h2
        · exact hi.2 j hj (by omega)
    · have h1 := of_decide_eq_false h1
      rw [List.length_map] at h1
      conv => whnf
      have : findL l a n = (0, 6) := by
        unfold findL
        rw [if_neg (by simp [h]), firstI_none (p := (fitsR · a n)) fun j hj => hi.2 j hj (by omega)]
      rw [this]
      rfl
def getR (l : List R) (i : Int) : R := l.getD i.toNat ⟨0, 0, 0, 0, 0, 0⟩
def costR (r : R) (n : Int) : Int := IntKind.u64.wrap (IntKind.u64.wrap (IntKind.u64.wrap r.fac * IntKind.u64.wrap n) + IntKind.u64.wrap r.plus)
def priceL (l : List R) (a n : Int) : Int × Int × Int :=
  if (findL l a n).2 ≠ 0 then (0, 0, (findL l a n).2) else ((getR l (findL l a n).1).cls, costR (getR l (findL l a n).1) n, 0)
theorem findL_at {l : List R} {a n : Int} (h : (findL l a n).2 = 0) : ∃ i, i < l.length ∧ (findL l a n).1 = (i : Nat) := by
  unfold findL at h ⊢
  split at h
  · rename_i h1; exact absurd h h1
  · rename_i h1
    rw [if_neg h1]
    cases hf : l.findIdx? (fitsR · a n) with
    | none => rw [hf] at h; cases h
    | some i =>
      rw [List.findIdx?_eq_some_iff_getElem] at hf
      exact ⟨i, hf.1, rfl⟩
theorem f26_ok (l : List R) (a n : Int) : Fn Try.prog X.G 26 [rvs l, .p (.i .u16 a), .p (.i .u32 n)] (.tup [.p (.i .i64 (priceL l a n).1), .p (.i .u64 (priceL l a n).2.1), .p (.i .i64 (priceL l a n).2.2)]) := by
  refine Fn.intro (I := []) hX hm 0 Try.func26 rfl rfl (by kernel_rfl) rfl ?_
  conv => whnf
  refine ⟨_, f24_ok l a n, ?_⟩
  conv => whnf
  refine iteC (fun h => ?_) (fun h => ?_)
  · have h : (findL l a n).2 ≠ 0 := by simpa using h
    rw [show priceL l a n = (0, 0, (findL l a n).2) from by unfold priceL; rw [if_pos h]]
    rfl
  · have h : (findL l a n).2 = 0 := by simpa using h
    obtain ⟨i, hi, he⟩ := findL_at h
    have hg := getI_map (f := rv) hi
    rw [← he] at hg
    conv => whnf
    conv => arg 2; repeat (first | rw [hg] | (whnf; arg 2))
    conv => whnf
    conv => arg 2; repeat (first | rw [hg] | (whnf; arg 2))
    conv => whnf
    conv => arg 2; repeat (first | rw [hg] | (whnf; arg 2))
    conv => whnf
    rw [show priceL l a n = (l[i].cls, costR l[i] n, 0) from by unfold priceL; rw [if_neg (by simp [h])]; simp [getR, he, hi]]
    rfl
theorem f27_ok (l : List R) (a n : Int) : Fn Try.prog X.G 27 [rvs l, .p (.i .u16 a), .p (.i .u32 n)] (.tup [.p (.i .i64 (priceL l a n).1), .p (.i .u64 (priceL l a n).2.1), .p (.i .i64 (priceL l a n).2.2)]) := by
  refine Fn.intro (I := []) hX hm 0 Try.func27 rfl rfl (by kernel_rfl) rfl ?_
  conv => whnf
  refine ⟨_, f25_ok l a n, ?_⟩
  conv => whnf
  refine iteC (fun h => ?_) (fun h => ?_)
  · have h : (findL l a n).2 ≠ 0 := by simpa using h
    rw [show priceL l a n = (0, 0, (findL l a n).2) from by unfold priceL; rw [if_pos h]]
    rfl
  · have h : (findL l a n).2 = 0 := by simpa using h
    obtain ⟨i, hi, he⟩ := findL_at h
    have hg := getI_map (f := rv) hi
    rw [← he] at hg
    conv => whnf
    conv => arg 2; repeat (first | rw [hg] | (whnf; arg 2))
    conv => whnf
    conv => arg 2; repeat (first | rw [hg] | (whnf; arg 2))
    conv => whnf
    conv => arg 2; repeat (first | rw [hg] | (whnf; arg 2))
    conv => whnf
    rw [show priceL l a n = (l[i].cls, costR l[i] n, 0) from by unfold priceL; rw [if_neg (by simp [h])]; simp [getR, he, hi]]
    rfl

theorem f4_ok (l : List R) (a n : Int) : Fn Try.prog X.G 4 [rvs l, .p (.i .u16 a), .p (.i .u32 n)] (.p (.b true)) := by
  refine Fn.intro (I := []) hX hm 0 Try.func4 rfl rfl (by kernel_rfl) rfl ?_
  conv => whnf
  refine iteC (fun h => ?_) (fun h => ?_)
  · rfl
  have c24 := f24_ok l a n
  have c25 := f25_ok l a n
  have c26 := f26_ok l a n
  have c27 := f27_ok l a n
  have c28 := f28_ok l
  have c29 := f29_ok l
  generalize findL l a n = u at c24 c25
  generalize priceL l a n = v at c26 c27
  generalize checkL l = m at c28 c29
  obtain ⟨u1, u2⟩ := u
  obtain ⟨v1, v2, v3⟩ := v
  conv => whnf
  refine ⟨_, c24, ?_⟩
  conv => whnf
  refine ⟨_, c25, ?_⟩
  conv => whnf
  refine ⟨_, c26, ?_⟩
  conv => whnf
  refine ⟨_, c27, ?_⟩
  conv => whnf
  refine ⟨_, c28, ?_⟩
  conv => whnf
  refine ⟨_, c29, ?_⟩
  conv => whnf
  refine iteT (beq_self_eq_true _) ?_
  conv => whnf
  refine iteT (beq_self_eq_true _) ?_
  conv => whnf
  refine iteT (beq_self_eq_true _) ?_
  conv => whnf
  refine iteT (beq_self_eq_true _) ?_
  conv => whnf
  refine iteT (beq_self_eq_true _) ?_
  conv => whnf
  refine iteT (beq_self_eq_true _) ?_
  rfl
end Go.Proofs.Ytmngcmfcbfkimaa.AM
