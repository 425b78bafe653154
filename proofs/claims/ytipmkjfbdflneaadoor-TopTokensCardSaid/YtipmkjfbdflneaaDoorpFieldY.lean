/- Fields: the first of two texts. -/
import Derived.Test.YtipmkjfbdflneaaDoorShaD
import Derived.Test.YtipmkjfbdflneaaDoorLaidD
namespace Go.Proofs.YtipmkjfbdflneaaDoor.AM
open Go Go.Proofs
set_option maxRecDepth 100000

structure Fd where
  k : Int
  n : Int
  d : List Int
abbrev fsh : Sh := .st [.int .u8, .int .u64, dsh]
abbrev fv (f : Fd) : PV := .st [.i .u8 f.k, .i .u64 f.n, dv f.d]
abbrev fvs (l : List Fd) : AV := .ro fsh (l.map fv)
instance : DecidableEq Fd := fun x y =>
  if h : x.k = y.k ∧ x.n = y.n ∧ x.d = y.d then isTrue (by cases x; cases y; simp_all) else isFalse (by rintro rfl; exact h ⟨rfl, rfl, rfl⟩)

def widK (k : Int) : Int :=
  if k = 1 then 1 else if k = 2 then 1 else if k = 7 then 1 else if k = 3 then 2 else if k = 4 then 4 else if k = 5 then 8 else if k = 6 then 32 else 0
def mostK (k : Int) : Int :=
  if k = 1 then 1 else if k = 2 then 255 else if k = 3 then 65535 else if k = 4 then 4294967295 else if k = 5 then 18446744073709551615 else 0
def badF (f : Fd) : Bool := decide (widK f.k = 0) || (decide (f.n > mostK f.k) || (decide (f.k ≠ 6) && decide (f.d ≠ zd)))
def chkF (f : Fd) : Int := if badF f = true then 8 else 0

theorem kinds8 {k : Int} (h0 : 0 ≤ k) : k = 0 ∨ k = 1 ∨ k = 2 ∨ k = 3 ∨ k = 4 ∨ k = 5 ∨ k = 6 ∨ k = 7 ∨ 8 ≤ k := by omega
theorem widK_big {k : Int} (h : 8 ≤ k) : widK k = 0 := by
  unfold widK
  repeat rw [if_neg (by omega)]
theorem mostK_big {k : Int} (h : 8 ≤ k) : mostK k = 0 := by
  unfold mostK
  repeat rw [if_neg (by omega)]
theorem f64_ok (k : Int) (h0 : 0 ≤ k) (h1 : k < 256) : Fn Tryd.prog X.G 64 [.p (.i .u8 k)] (.p (.i .i64 (widK k))) := by
  refine Fn.intro (I := []) hX hm 0 Tryd.func64 rfl rfl (by kernel_rfl) rfl ?_
  rcases kinds8 h0 with rfl | rfl | rfl | rfl | rfl | rfl | rfl | rfl | h
  case inr.inr.inr.inr.inr.inr.inr.inr =>
    rw [widK_big h]
    conv => whnf
    refine iteT (decide_eq_true (by rw [wr_i64 (by omega) (by omega)]; omega)) ?_
    rfl
  all_goals
    conv => whnf
    refine iteF rfl ?_
    rfl
theorem f87_ok (k : Int) (h0 : 0 ≤ k) (h1 : k < 256) : Fn Tryd.prog X.G 87 [.p (.i .u8 k)] (.p (.i .u64 (mostK k))) := by
  refine Fn.intro (I := []) hX hm 0 Tryd.func87 rfl rfl (by kernel_rfl) rfl ?_
  have c := f64_ok k h0 h1
  rcases kinds8 h0 with rfl | rfl | rfl | rfl | rfl | rfl | rfl | rfl | h
  case inr.inr.inr.inr.inr.inr.inr.inr =>
    rw [mostK_big h]
    rw [widK_big h] at c
    conv => whnf
    repeat (refine iteF (beq_eq_false_iff_ne.2 (by omega)) ?_; conv => whnf)
    refine ⟨_, c, ?_⟩
    rfl
  all_goals
    conv => whnf
    repeat (first | (refine iteF rfl ?_; conv => whnf) | (refine iteT rfl ?_; conv => whnf))
    first | rfl | (refine ⟨_, c, ?_⟩; rfl)
theorem sameL_bv (a b : List Int) : PV.sameL (bv a) (bv b) = decide (a = b) := by
  induction a generalizing b with
  | nil => cases b <;> simp [PV.sameL]
  | cons x a ih =>
    cases b with
    | nil => simp [PV.sameL]
    | cons y b => simp only [List.map_cons, PV.sameL, PV.same, ih, List.cons.injEq]; by_cases h1 : x = y <;> simp [h1]
theorem same_zero (d : List Int) : PV.sameL (bv d) (List.replicate 32 (.i .u8 0)) = decide (d = zd) := sameL_bv d zd
structure Fd.ok (f : Fd) : Prop where
  k : 0 ≤ f.k ∧ f.k < 256
  n : 0 ≤ f.n ∧ f.n < 18446744073709551616
  d : f.d.length = 32 ∧ ∀ x ∈ f.d, 0 ≤ x ∧ x < 256
theorem f63_ok (f : Fd) (hf : f.ok) : Fn Tryd.prog X.G 63 [.p (fv f)] (.p (.i .i64 (chkF f))) := by
  refine Fn.intro (I := []) hX hm 0 Tryd.func63 rfl rfl (by kernel_rfl) rfl ?_
  have c1 := f64_ok f.k hf.k.1 hf.k.2
  have c2 := f87_ok f.k hf.k.1 hf.k.2
  conv => whnf
  repeat' (first
    | (refine ⟨_, c1, ?_⟩; conv => whnf)
    | (refine ⟨_, c2, ?_⟩; conv => whnf)
    | (refine iteC (fun hh => ?_) (fun hh => ?_) <;> conv => whnf))
  all_goals (try simp only [PV.same] at *; try rw [same_zero] at *)
  all_goals first
    | (rw [show chkF f = 8 from by (simp_all [chkF, badF]; done)]; rfl)
    | (rw [show chkF f = 0 from by (simp_all [chkF, badF]; done)]; rfl)

def numB (b : List Int) : Int := b.foldl (fun n x => IntKind.u64.wrap (IntKind.u64.wrap (256 * n) + IntKind.u64.wrap x)) 0
theorem numB_step {b : List Int} {i : Nat} (h : i < b.length) : numB (b.take (i + 1)) = IntKind.u64.wrap (IntKind.u64.wrap (256 * numB (b.take i)) + IntKind.u64.wrap b[i]) := by
  unfold numB
  rw [List.take_add_one, List.foldl_append]
  simp [h]
theorem byteU_nat (m i : Nat) (hi : i ≤ 8) : byteU (m : Int) (8 * i) = ((m / 256 ^ i % 256 : Nat) : Int) := by
  unfold byteU
  have h1 : min (8 * (i : Int)).toNat 64 = 8 * i := by omega
  have h2 : (256 : Nat) ^ i = 2 ^ (8 * i) := by rw [Nat.pow_mul]
  have h3 : (2 : Int) ^ (8 * i) = ((2 ^ (8 * i) : Nat) : Int) := by norm_cast
  rw [h1, h2, h3]
  rw [Int.fdiv_eq_ediv_of_nonneg _ (Int.natCast_nonneg _), ← Int.natCast_ediv, ← h2]
  simp [IntKind.wrap, IntKind.signed, IntKind.bits]
theorem pow8 (w : Nat) (h : w ≤ 8) : (256 : Nat) ^ w ≤ 18446744073709551616 := by
  have := Nat.pow_le_pow_right (n := 256) (by omega) h
  simpa using this
theorem numB_fold (m : Nat) : ∀ (w a : Nat), w ≤ 8 → a < 256 ^ (8 - w) →
    (bytesU m w).foldl (fun n x => IntKind.u64.wrap (IntKind.u64.wrap (256 * n) + IntKind.u64.wrap x)) (a : Int) = ((a * 256 ^ w + m % 256 ^ w : Nat) : Int)
  | 0, a, _, _ => by simp [bytesU, Nat.mod_one]
  | w + 1, a, hw, ha => by
    have e : (256 : Nat) ^ (8 - w) = 256 * 256 ^ (8 - (w + 1)) := by
      rw [show 8 - w = (8 - (w + 1)) + 1 by omega, Nat.pow_succ]
      omega
    have p := pow8 (8 - w) (by omega)
    have b : m / 256 ^ w % 256 < 256 := Nat.mod_lt _ (by omega)
    simp only [bytesU, List.foldl_cons]
    rw [byteU_nat m w (by omega)]
    generalize hx : m / 256 ^ w % 256 = x at *
    rw [wr_u64 (n := 256 * (a : Int)) (by omega) (by omega), wr_u64 (n := (x : Int)) (by omega) (by omega), wr_u64 (by omega) (by omega)]
    rw [show (256 * (a : Int) + (x : Int)) = ((256 * a + x : Nat) : Int) by simp]
    rw [numB_fold m w _ (by omega) (by omega)]
    rw [Nat.pow_succ, Nat.mod_mul]
    rw [hx]
    congr 1
    generalize 256 ^ w = y at *
    rw [Nat.add_mul, Nat.mul_comm 256 a, Nat.mul_assoc, Nat.mul_comm 256 y, Nat.mul_comm x y]
    omega
theorem numB_bytesU (m w : Nat) (hw : w ≤ 8) : numB (bytesU m w) = ((m % 256 ^ w : Nat) : Int) := by
  have := numB_fold m w 0 hw (Nat.pos_of_ne_zero (by simp))
  simpa [numB] using this
theorem num_ne {n : Int} (w : Nat) (hw : w ≤ 8) (h0 : 0 ≤ n) : (numB (bytesU n w) != n) = decide (n > (256 ^ w : Nat) - 1) := by
  obtain ⟨m, rfl⟩ := Int.eq_ofNat_of_zero_le h0
  have := numB_bytesU m w hw
  rw [show ((m : Nat) : Int) = Int.ofNat m from rfl] at this ⊢
  rw [this]
  have p : 0 < 256 ^ w := Nat.pos_of_ne_zero (by simp)
  generalize (256 : Nat) ^ w = y at *
  by_cases h : m < y
  · rw [Nat.mod_eq_of_lt h]
    simp
    omega
  · have := Nat.mod_lt m p
    have h1 : ((m % y : Nat) : Int) ≠ Int.ofNat m := by
      intro e
      have : m % y = m := Int.ofNat.inj e
      omega
    rw [decide_eq_true (by simp; omega)]
    simpa using h1
theorem widK_le (k : Int) : (widK k).toNat ≤ 32 := by
  unfold widK
  repeat' split
  all_goals decide
theorem widK_le8 {k : Int} (h : k ≠ 6) : (widK k).toNat ≤ 8 := by
  unfold widK
  rw [if_neg h]
  repeat' split
  all_goals decide
def idxI {α : Type} (p : α → Bool) (l : List α) : Int :=
  match l.findIdx? p with
  | some i => i
  | none => -1
theorem idx_at {α : Type} {p : α → Bool} {l : List α} {i : Nat} (h : i < l.length) (hb : ∀ j (hj : j < l.length), j < i → p l[j] = false) (hp : p l[i] = true) : l.findIdx? p = some i := by
  rw [List.findIdx?_eq_some_iff_getElem]
  exact ⟨h, hp, fun j hj => by simp [hb j (by omega) hj]⟩
theorem idx_none {α : Type} {p : α → Bool} {l : List α} (hb : ∀ j (hj : j < l.length), p l[j] = false) : l.findIdx? p = none := by
  rw [List.findIdx?_eq_none_iff]
  intro x hx
  obtain ⟨j, hj, rfl⟩ := List.mem_iff_getElem.1 hx
  exact hb j hj
theorem idxI_any {α : Type} (p : α → Bool) (l : List α) : decide (idxI p l ≥ 0) = l.any p := by
  unfold idxI
  cases h : l.findIdx? p with
  | none =>
    rw [List.findIdx?_eq_none_iff] at h
    have : l.any p = false := by simpa using h
    rw [this]; rfl
  | some i =>
    rw [List.findIdx?_eq_some_iff_getElem] at h
    obtain ⟨h1, h2, _⟩ := h
    have : l.any p = true := List.any_eq_true.2 ⟨l[i], List.getElem_mem h1, h2⟩
    rw [this]
    simp
theorem f86_ok (p : Fd → Bool) (l : List Fd) (f : Nat) (hl : l.length < 9223372036854775807)
    (hf : ∀ r ∈ l, Fn Tryd.prog X.G f [.p (fv r)] (.p (.b (p r)))) : Fn Tryd.prog X.G 86 [fvs l, .fn f []] (.p (.i .i64 (idxI p l))) := by
  refine Fn.intro (I := []) hX hm 0 Tryd.func86 rfl rfl (by kernel_rfl) rfl ?_
  conv => whnf
  refine LoopJ.intro (I := []) (base' := 0) hX hm (by kernel_rfl) (σ := Nat) (fun i => [(0, fvs l), (1, .fn f []), (7, .p (.i .i64 l.length)), (8, .p (.i .i64 i))]) (fun _ => []) (fun i => i ≤ l.length ∧ ∀ j (hj : j < l.length), j < i → p l[j] = false) (fun i => l.length - i) 0 []
    ⟨Nat.zero_le _, by intro j _ h; omega⟩ ⟨nofun, rfl, ⟨rfl, rfl, rfl, rfl, ?_, rfl, rfl, rfl, trivial⟩, trivial⟩ ?_
  · show AV.p (.i .i64 ((l.map (fv)).length : Int)) = .p (.i .i64 l.length)
    rw [List.length_map]
  intro i hi
  conv => whnf
  refine iteC (fun h1 => ?_) (fun h1 => ?_)
  · have h1 := of_decide_eq_true h1
    have hlt : i < l.length := by omega
    have hg := getM (f := fv) hlt
    conv => whnf
    conv => arg 2; repeat (first | rw [hg] | (whnf; arg 2))
    conv => whnf
    refine ⟨_, hf l[i] (List.getElem_mem hlt), ?_⟩
    conv => whnf
    refine iteC (fun h2 => ?_) (fun h2 => ?_)
    · conv => whnf
      have : idxI p l = i := by unfold idxI; rw [idx_at hlt hi.2 h2]
      rw [this]
      rfl
    · conv => whnf
      refine ⟨i + 1, [], ⟨by omega, fun j hj hji => ?_⟩, by dsimp only; omega, nofun, rfl, ⟨rfl, rfl, rfl, rfl, rfl, rfl, incN (by omega), rfl, trivial⟩, trivial⟩
      by_cases hj2 : j = i
      · subst hj2; exact h2
      · exact hi.2 j hj (by omega)
  · have h1 := of_decide_eq_false h1
    conv => whnf
    have : idxI p l = -1 := by unfold idxI; rw [idx_none fun j hj => hi.2 j hj (by omega)]
    rw [this]
    rfl
theorem f61_ok (p : Fd → Bool) (l : List Fd) (f : Nat) (hl : l.length < 9223372036854775807)
    (hf : ∀ r ∈ l, Fn Tryd.prog X.G f [.p (fv r)] (.p (.b (p r)))) : Fn Tryd.prog X.G 61 [fvs l, .fn f []] (.p (.b (l.any p))) := by
  refine Fn.intro (I := []) hX hm 0 Tryd.func61 rfl rfl (by kernel_rfl) rfl ?_
  conv => whnf
  refine ⟨_, f86_ok p l f hl hf, ?_⟩
  have := idxI_any p l
  conv => whnf
  refine iteC (fun h => ?_) (fun h => ?_)
  all_goals (rw [← this, h]; rfl)
theorem f96_ok (p : Int → Bool) (l : List Int) (f : Nat) (hl : l.length < 9223372036854775807)
    (hf : ∀ r ∈ l, Fn Tryd.prog X.G f [.p (PV.i .u8 r)] (.p (.b (p r)))) : Fn Tryd.prog X.G 96 [bvs l, .fn f []] (.p (.i .i64 (idxI p l))) := by
  refine Fn.intro (I := []) hX hm 0 Tryd.func96 rfl rfl (by kernel_rfl) rfl ?_
  conv => whnf
  refine LoopJ.intro (I := []) (base' := 0) hX hm (by kernel_rfl) (σ := Nat) (fun i => [(0, bvs l), (1, .fn f []), (7, .p (.i .i64 l.length)), (8, .p (.i .i64 i))]) (fun _ => []) (fun i => i ≤ l.length ∧ ∀ j (hj : j < l.length), j < i → p l[j] = false) (fun i => l.length - i) 0 []
    ⟨Nat.zero_le _, by intro j _ h; omega⟩ ⟨nofun, rfl, ⟨rfl, rfl, rfl, rfl, ?_, rfl, rfl, rfl, trivial⟩, trivial⟩ ?_
  · show AV.p (.i .i64 ((l.map (PV.i .u8)).length : Int)) = .p (.i .i64 l.length)
    rw [List.length_map]
  intro i hi
  conv => whnf
  refine iteC (fun h1 => ?_) (fun h1 => ?_)
  · have h1 := of_decide_eq_true h1
    have hlt : i < l.length := by omega
    have hg := getM (f := PV.i .u8) hlt
    conv => whnf
    conv => arg 2; repeat (first | rw [hg] | (whnf; arg 2))
    conv => whnf
    refine ⟨_, hf l[i] (List.getElem_mem hlt), ?_⟩
    conv => whnf
    refine iteC (fun h2 => ?_) (fun h2 => ?_)
    · conv => whnf
      have : idxI p l = i := by unfold idxI; rw [idx_at hlt hi.2 h2]
      rw [this]
      rfl
    · conv => whnf
      refine ⟨i + 1, [], ⟨by omega, fun j hj hji => ?_⟩, by dsimp only; omega, nofun, rfl, ⟨rfl, rfl, rfl, rfl, rfl, rfl, incN (by omega), rfl, trivial⟩, trivial⟩
      by_cases hj2 : j = i
      · subst hj2; exact h2
      · exact hi.2 j hj (by omega)
  · have h1 := of_decide_eq_false h1
    conv => whnf
    have : idxI p l = -1 := by unfold idxI; rw [idx_none fun j hj => hi.2 j hj (by omega)]
    rw [this]
    rfl
theorem f89_ok (p : Int → Bool) (l : List Int) (f : Nat) (hl : l.length < 9223372036854775807)
    (hf : ∀ r ∈ l, Fn Tryd.prog X.G f [.p (PV.i .u8 r)] (.p (.b (p r)))) : Fn Tryd.prog X.G 89 [bvs l, .fn f []] (.p (.b (l.any p))) := by
  refine Fn.intro (I := []) hX hm 0 Tryd.func89 rfl rfl (by kernel_rfl) rfl ?_
  conv => whnf
  refine ⟨_, f96_ok p l f hl hf, ?_⟩
  have := idxI_any p l
  conv => whnf
  refine iteC (fun h => ?_) (fun h => ?_)
  all_goals (rw [← this, h]; rfl)
theorem f62_ok (f : Fd) (hf : f.ok) : Fn Tryd.prog X.G 62 [.p (fv f)] (.p (.b (badF f))) := by
  refine Fn.intro (I := []) hX hm 0 Tryd.func62 rfl rfl (by kernel_rfl) rfl ?_
  have c := f63_ok f hf
  have e : (chkF f != 0) = badF f := by unfold chkF; cases badF f <;> rfl
  conv => whnf
  refine ⟨_, c, ?_⟩
  conv => whnf
  refine iteC (fun h => ?_) (fun h => ?_)
  all_goals (rw [← e, h]; rfl)
theorem f90_ok (k : Int) (h0 : 0 ≤ k) (h1 : k < 256) : Fn Tryd.prog X.G 90 [.p (.i .u8 k)] (.p (.b (widK k == 0))) := by
  refine Fn.intro (I := []) hX hm 0 Tryd.func90 rfl rfl (by kernel_rfl) rfl ?_
  have c := f64_ok k h0 h1
  conv => whnf
  refine ⟨_, c, ?_⟩
  conv => whnf
  refine iteC (fun h => ?_) (fun h => ?_)
  all_goals (rw [h]; rfl)
def rowE (l : List Fd) : Int := if l.length > 40 then 4 else if l.any badF = true then 8 else 0
def oneF (f : Fd) : List Int := if f.k = 6 then f.d else bytesU f.n (widK f.k).toNat
theorem oneF_len {f : Fd} (hd : f.d.length = 32) : (oneF f).length ≤ 32 := by
  unfold oneF
  split
  · omega
  · rw [bytesU_length]; exact widK_le _
def flatF (l : List Fd) : List Int := l.flatMap oneF
theorem flatF_len {l : List Fd} (hl : ∀ f ∈ l, f.d.length = 32) : (flatF l).length ≤ 32 * l.length := by
  induction l with
  | nil => simp [flatF]
  | cons f l ih =>
    have := oneF_len (hl f (by simp))
    have := ih fun g hg => hl g (by simp [hg])
    simp only [flatF, List.flatMap_cons, List.length_append, List.length_cons] at *
    omega
theorem flatF_step {l : List Fd} {i : Nat} (h : i < l.length) : flatF (l.take (i + 1)) = flatF (l.take i) ++ oneF l[i] := by
  unfold flatF
  rw [List.take_add_one, List.flatMap_append]
  simp [h]
def rowL (l : List Fd) : List Int := if rowE l ≠ 0 then [] else flatF l
theorem rowE_len {l : List Fd} (h : rowE l = 0) : l.length ≤ 40 := by
  unfold rowE at h
  split at h
  · cases h
  · omega
theorem f28_ok (l : List Fd) (hl : ∀ f ∈ l, f.ok) (hll : l.length < 9223372036854775807) : Fn Tryd.prog X.G 28 [fvs l] (.tup [bvs (rowL l), .p (.i .i64 (rowE l))]) := by
  refine Fn.intro (I := []) hX hm 0 Tryd.func28 rfl rfl (by kernel_rfl) rfl ?_
  conv => whnf
  refine iteC (fun h => ?_) (fun h => ?_)
  · have h := of_decide_eq_true h
    rw [List.length_map] at h
    have e : rowE l = 4 := by unfold rowE; rw [if_pos (by omega)]
    rw [show rowL l = [] from by unfold rowL; rw [if_pos (by rw [e]; decide)], e]
    rfl
  have h := of_decide_eq_false h
  rw [List.length_map] at h
  conv => whnf
  refine ⟨_, f61_ok badF l 62 hll fun f hf => f62_ok f (hl f hf), ?_⟩
  conv => whnf
  refine iteC (fun h2 => ?_) (fun h2 => ?_)
  · have e : rowE l = 8 := by unfold rowE; rw [if_neg (by omega), if_pos h2]
    rw [show rowL l = [] from by unfold rowL; rw [if_pos (by rw [e]; decide)], e]
    rfl
  have e : rowE l = 0 := by unfold rowE; rw [if_neg (by omega), if_neg (by simp [h2])]
  rw [show rowL l = flatF l from by unfold rowL; rw [if_neg (by simp [e])], e]
  conv => whnf
  refine LoopJ.nil 4 1000 ush rfl rfl ?_
  refine LoopJ.intro (I := []) (base' := 0) hX hm (by kernel_rfl) (σ := Nat) (fun i => [(4, .own 1000), (13, fvs l), (14, .p (.i .i64 l.length)), (15, .p (.i .i64 i))]) (fun i => [(1000, .els true ush (bv (flatF (l.take i))))]) (fun i => i ≤ l.length) (fun i => l.length - i) 0 []
    (Nat.zero_le _) ⟨nofun, rfl, ⟨rfl, rfl, rfl, rfl, ?_, rfl, rfl, rfl, trivial⟩, ⟨rfl, rfl, trivial⟩⟩ ?_
  · show AV.p (.i .i64 ((l.map fv).length : Int)) = .p (.i .i64 l.length)
    rw [List.length_map]
  intro i hi
  conv => whnf
  refine iteC (fun h1 => ?_) (fun h1 => ?_)
  · have h1 := of_decide_eq_true h1
    have hlt : i < l.length := by omega
    have hg := getM (f := fv) hlt
    have ho := hl _ (List.getElem_mem hlt)
    have hfl := flatF_len (l := l.take i) fun f hf => (hl f (List.mem_of_mem_take hf)).d.1
    have hon := oneF_len ho.d.1
    have hst := flatF_step hlt
    rw [List.length_take] at hfl
    generalize hacc : flatF (l.take i) = acc at *
    generalize hfi : l[i] = f at *
    have hd := ho.d.1
    conv => whnf
    conv => arg 2; repeat (first | rw [hg] | (whnf; arg 2))
    conv => whnf
    refine iteC (fun h3 => ?_) (fun h3 => ?_)
    · have h3 : f.k = 6 := by simpa using h3
      have e1 : oneF f = f.d := by unfold oneF; rw [if_pos h3]
      conv => whnf
      conv => arg 2; repeat (first | rw [capN _ (by simp; omega)] | (whnf; arg 2))
      conv => whnf
      refine ⟨i + 1, [(1000, 200)], by omega, by dsimp only; omega, nofun, rfl, ⟨rfl, rfl, rfl, rfl, rfl, rfl, incN (by omega), rfl, trivial⟩, ⟨?_, rfl, trivial⟩⟩
      rw [hst, e1, bv_app]
      show some (Blk.els true ush (bv acc ++ List.take 32 (bv f.d))) = some (Blk.els true ush (bv acc ++ bv f.d))
      rw [List.take_of_length_le (by simp [hd])]
    · have h3 : f.k ≠ 6 := by simpa using h3
      have e1 : oneF f = bytesU f.n (widK f.k).toNat := by unfold oneF; rw [if_neg h3]
      have hw : widK f.k = ((widK f.k).toNat : Int) := by
        unfold widK
        repeat' split
        all_goals rfl
      have hw8 := widK_le8 h3
      conv => whnf
      refine ⟨_, f64_ok f.k ho.k.1 ho.k.2, ?_⟩
      rw [e1] at hst hon
      rw [hw]
      generalize (widK f.k).toNat = w at *
      conv => whnf
      refine LoopJ.intro (I := []) (base' := 0) hX hm (by kernel_rfl) (σ := Nat) (fun j => [(4, .own 1000), (6, .ptr 48 []), (7, .p (.i .i64 (8 * ((w : Int) - 1 - j)))), (13, fvs l), (14, .p (.i .i64 l.length)), (15, .p (.i .i64 i))])
        (fun j => [(48, .var (.p (fv f))), (1000, .els true ush (bv (acc ++ (bytesU f.n w).take j)))]) (fun j => j ≤ w) (fun j => w - j) 0 []
        (Nat.zero_le _) ⟨nofun, rfl, ⟨rfl, rfl, rfl, rfl, ?_, rfl, rfl, rfl, rfl, rfl, rfl, rfl, trivial⟩, ⟨rfl, rfl, ?_, rfl, trivial⟩⟩ ?_
      · show AV.p (.i .i64 (IntKind.i64.wrap (8 * IntKind.i64.wrap ((w : Int) - 1)))) = AV.p (.i .i64 (8 * ((w : Int) - 1 - (0 : Nat))))
        rw [wr_i64 (n := (w : Int) - 1) (by omega) (by omega), wr_i64 (by omega) (by omega)]
        simp
      · simp
        rfl
      intro j hj
      conv => whnf
      refine iteC (fun h4 => ?_) (fun h4 => ?_)
      · have h4 := of_decide_eq_true h4
        have hjw : j < w := by omega
        have e3 : (8 * ((w : Int) - 1 - j)) = ((8 * (w - 1 - j : Nat) : Nat) : Int) := by omega
        have e2 : decide ((8 * ((w : Int) - 1 - j)) < 0) = false := decide_eq_false (by omega)
        conv => whnf
        conv => arg 2; repeat (first | rw [e2] | (whnf; arg 2))
        conv => whnf
        conv => arg 2; repeat (first | rw [capN _ (by simp [bytesU_length]; omega)] | (whnf; arg 2))
        conv => whnf
        refine ⟨j + 1, [(1000, 336)], by omega, by dsimp only; omega, nofun, rfl, ⟨rfl, rfl, rfl, rfl, ?_, rfl, rfl, rfl, rfl, rfl, rfl, rfl, trivial⟩, ⟨rfl, rfl, ?_, rfl, trivial⟩⟩
        · show AV.p (.i .i64 (IntKind.i64.wrap (8 * ((w : Int) - 1 - j) - 8))) = AV.p (.i .i64 (8 * ((w : Int) - 1 - (j + 1 : Nat))))
          rw [wr_i64 (by omega) (by omega), show 8 * ((w : Int) - 1 - j) - 8 = 8 * ((w : Int) - 1 - (j + 1 : Nat)) from by omega]
        · rw [bytesU_step f.n hjw, ← List.append_assoc]
          show some (Blk.els true ush (bv (acc ++ List.take j (bytesU f.n w)) ++ [PV.i .u8 (IntKind.u8.wrap (f.n.fdiv (2 ^ (min (8 * ((w : Int) - 1 - j)).toNat 64))))])) = some (Blk.els true ush (bv (_ ++ [_])))
          rw [e3, bv_snoc]
          rfl
      · have h4 := of_decide_eq_false h4
        have htk : (bytesU f.n w).take j = bytesU f.n w := List.take_of_length_le (by rw [bytesU_length]; omega)
        rw [htk]
        conv => whnf
        refine ⟨i + 1, [], by omega, by dsimp only; omega, nofun, rfl, ⟨rfl, rfl, rfl, rfl, rfl, rfl, incN (by omega), rfl, trivial⟩, ⟨?_, rfl, trivial⟩⟩
        rw [hst]
        rfl
  · have h1 := of_decide_eq_false h1
    have htk : l.take i = l := List.take_of_length_le (by omega)
    rw [htk]
    conv => whnf
    rfl
end Go.Proofs.YtipmkjfbdflneaaDoor.AM

namespace Go.Proofs.YtipmkjfbdflneaaDoor.AM
open Go Go.Proofs
set_option maxRecDepth 100000
theorem rowL_len {l : List Fd} (hl : ∀ f ∈ l, f.ok) : (rowL l).length ≤ 1280 := by
  unfold rowL
  split
  · simp
  · rename_i h
    have := rowE_len (l := l) (by simpa using h)
    have := flatF_len fun f hf => (hl f hf).d.1
    omega
theorem fv_of {y : PV} (h1 : y.sh = fsh) (h2 : y.ok) (h3 : y.wf) : ∃ f : Fd, y = fv f ∧ f.ok := by
  obtain ⟨ys, rfl, h, hw⟩ := st_of h1 h3
  have hok : PV.okL ys := h2
  obtain ⟨n0, y0, rfl, w0, h, hw⟩ := shL_int h hw
  obtain ⟨n1, y1, rfl, w1, h, hw⟩ := shL_int h hw
  obtain ⟨t, y2, rfl, ht, htw, h, hw⟩ := shL_cons h hw
  obtain rfl := shL_nil h
  obtain ⟨ns, rfl, hl, hns⟩ := arr_of ht hok.2.2.1 htw
  exact ⟨⟨n0, n1, ns⟩, rfl, ⟨wf_u8 w0, wf_u64 w1, ⟨hl, fun x hx => wf_u8 (hns x hx)⟩⟩⟩
theorem fs_of {l : List PV} (h : ∀ y ∈ l, y.sh = fsh ∧ y.ok ∧ y.wf) : ∃ fs : List Fd, l = fs.map fv ∧ ∀ f ∈ fs, f.ok := by
  induction l with
  | nil => exact ⟨[], rfl, by simp⟩
  | cons y l ih =>
    obtain ⟨fs, rfl, hfs⟩ := ih fun z hz => h z (by simp [hz])
    obtain ⟨h1, h2, h3⟩ := h y (by simp)
    obtain ⟨f, rfl, hf⟩ := fv_of h1 h2 h3
    exact ⟨f :: fs, rfl, by simpa [hf] using hfs⟩
end Go.Proofs.YtipmkjfbdflneaaDoor.AM

namespace Go.Proofs.YtipmkjfbdflneaaDoor.AM
open Go Go.Proofs
set_option maxRecDepth 100000
theorem f70_ok (b : List Int) (hb : b.length ≤ 100000) : Fn Tryd.prog X.G 70 [bvs b] (bvs b) := by
  refine Fn.intro (I := []) hX hm 0 Tryd.func70 rfl rfl (by kernel_rfl) rfl ?_
  conv => whnf
  intro y hy
  cases y with
  | true =>
    have hy := hy rfl
    have : b = [] := by simpa using hy
    subst this
    conv => whnf
    refine iteT rfl ?_
    rfl
  | false =>
    conv => whnf
    refine iteF rfl ?_
    conv => whnf
    conv => arg 2; repeat (first | rw [capN _ (by simp; omega)] | (whnf; arg 2))
    conv => whnf
    rfl
theorem numB_range (b : List Int) : 0 ≤ numB b ∧ numB b < 18446744073709551616 := by
  have key : ∀ (b : List Int) (a : Int), 0 ≤ a ∧ a < 18446744073709551616 →
      0 ≤ b.foldl (fun n x => IntKind.u64.wrap (IntKind.u64.wrap (256 * n) + IntKind.u64.wrap x)) a ∧ b.foldl (fun n x => IntKind.u64.wrap (IntKind.u64.wrap (256 * n) + IntKind.u64.wrap x)) a < 18446744073709551616 := by
    intro b
    induction b with
    | nil => intro a h; exact h
    | cons x b ih =>
      intro a _
      refine ih _ ?_
      simp [IntKind.wrap, IntKind.signed, IntKind.bits]
      omega
  exact key b 0 ⟨by omega, by omega⟩
theorem or_step {n x : Int} (h1 : 0 ≤ n) (h3 : 0 ≤ x) (h4 : x < 256) :
    IntKind.u64.wrap (BitVec.ofInt 64 (IntKind.u64.wrap (n * 2 ^ 8)) ||| BitVec.ofInt 64 (IntKind.u64.wrap x)).toNat = IntKind.u64.wrap (IntKind.u64.wrap (256 * n) + IntKind.u64.wrap x) := by
  obtain ⟨m, rfl⟩ := Int.eq_ofNat_of_zero_le h1
  obtain ⟨y, rfl⟩ := Int.eq_ofNat_of_zero_le h3
  rw [wr_u64 (n := (y : Int)) h3 (by omega)]
  have hy : y < 256 := by omega
  have e1 : IntKind.u64.wrap ((m : Int) * 2 ^ 8) = ((256 * m % 18446744073709551616 : Nat) : Int) := by
    simp [IntKind.wrap, IntKind.signed, IntKind.bits]
    omega
  have e2 : IntKind.u64.wrap (256 * (m : Int)) = ((256 * m % 18446744073709551616 : Nat) : Int) := by
    simp [IntKind.wrap, IntKind.signed, IntKind.bits]
  rw [e1, e2]
  obtain ⟨q, hq⟩ : ∃ q, 256 * m % 18446744073709551616 = 256 * q := ⟨(256 * m % 18446744073709551616) / 256, by omega⟩
  have hlt : 256 * m % 18446744073709551616 < 18446744073709551616 := Nat.mod_lt _ (by omega)
  rw [hq] at hlt ⊢
  have e3 : (BitVec.ofInt 64 ((256 * q : Nat) : Int) ||| BitVec.ofInt 64 ((y : Nat) : Int)).toNat = 256 * q + y := by
    rw [BitVec.toNat_or, BitVec.ofInt_natCast, BitVec.ofInt_natCast, BitVec.toNat_ofNat, BitVec.toNat_ofNat, Nat.mod_eq_of_lt hlt, Nat.mod_eq_of_lt (by omega)]
    have := Nat.shiftLeft_add_eq_or_of_lt (a := q) (b := y) (i := 8) (by omega)
    rw [Nat.shiftLeft_eq] at this
    rw [show 256 * q = q * 2 ^ 8 by omega, ← this]
  rw [e3]
  simp
def rdF (k : Int) (b : List Int) : Fd := if k = 6 then ⟨6, 0, b.take 32⟩ else ⟨k, numB (b.take (widK k).toNat), zd⟩
def goF : List Int → List Int → List Fd → List Fd × List Int × Int
  | [], b, acc => (acc, b, 0)
  | k :: ks, b, acc => if b.length < (widK k).toNat then ([], [], 12) else if badF (rdF k b) = true then ([], [], 12) else goF ks (b.drop (widK k).toNat) (acc ++ [rdF k b])
def frstL (kinds b : List Int) : List Fd × List Int × Int :=
  if kinds.length > 40 then ([], [], 4) else if kinds.any (fun k => widK k == 0) = true then ([], [], 2) else goF kinds b []
theorem rdF_ok {k : Int} {b : List Int} (hk : 0 ≤ k ∧ k < 256) (hb : byt b) (hw : ¬ b.length < (widK k).toNat) : (rdF k b).ok := by
  unfold rdF
  split
  · rename_i h
    subst h
    refine ⟨by dsimp only; omega, by dsimp only; omega, ?_, fun x hx => hb x (List.mem_of_mem_take hx)⟩
    have : ¬ b.length < 32 := hw
    simp
    omega
  · refine ⟨hk, numB_range _, by simp, fun x hx => ?_⟩
    have := List.eq_of_mem_replicate hx
    omega
end Go.Proofs.YtipmkjfbdflneaaDoor.AM
