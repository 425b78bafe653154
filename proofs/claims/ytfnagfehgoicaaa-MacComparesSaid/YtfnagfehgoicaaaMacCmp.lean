/- MacCompares: the walks of its functions, and the statement. -/
import Derived.Test.YtfnagfehgoicaaaAm29
import Derived.Test.YtfnagfehgoicaaaRows
namespace Go.Proofs.Ytfnagfehgoicaaa.AM
open Go Go.Proofs

def tt : TT := [
  (2, ⟨.int .i64, 1, 8, false, some (.p (.i .i64 0))⟩),
  (3, ⟨.int .i64, 1, 8, false, some (.p (.i .i64 0))⟩),
  (4, ⟨.bool, 1, 1, false, some (.p (.b false))⟩),
  (5, ⟨.int .u8, 1, 1, false, some (.p (.i .u8 0))⟩),
  (22, ⟨.slice 5, 1, 24, false, some (.nil)⟩),
  (23, ⟨.arr 32 5, 32, 32, true, some (.p (.arr 32 (.int .u8) (List.replicate 32 (.i .u8 0))))⟩),
  (24, ⟨.arr 32 5, 32, 32, true, some (.p (.arr 32 (.int .u8) (List.replicate 32 (.i .u8 0))))⟩)
]
def X : Ctx := ⟨tt, []⟩
theorem hX : X.ok Try.prog := ttB_ok (by kernel_rfl)
theorem hm : Try.prog.follows .mixedOrders = true := by kernel_rfl
abbrev by8 (l : List Int) : List PV := l.map (.i .u8)
abbrev bys (l : List Int) : AV := .ro (.int .u8) (by8 l)
set_option maxRecDepth 100000
theorem getI_by8 {l : List Int} {i : Int} (h0 : 0 ≤ i) (h : i < l.length) : getI (by8 l) i = some (.i .u8 (l.getD i.toNat 0)) := by
  unfold getI
  rw [decide_eq_true h0]
  have : i.toNat < l.length := by omega
  simp [by8, this]
theorem f7_ok (l : List Int) (i : Int) (hi : 0 ≤ i) : Fn Try.prog X.G 7 [bys l, .p (.i .i64 i)] (.p (.i .u8 (l.getD i.toNat 0))) := by
  refine Fn.intro (I := []) hX hm 0 Try.func7 rfl rfl (by kernel_rfl) rfl ?_
  conv => whnf
  refine iteC (fun h => ?_) (fun h => ?_)
  · have h := of_decide_eq_true h
    conv => whnf
    have hg := getI_by8 hi (by simpa [by8] using h)
    conv => arg 2; repeat (first | rw [hg] | (whnf; arg 2))
    conv => whnf
    rfl
  · have h := of_decide_eq_false h
    conv => whnf
    have : l.getD i.toNat 0 = 0 := by simp [by8] at h; simp [List.getD]; rw [List.getElem?_eq_none (by omega)]; rfl
    rw [this]
    rfl
theorem bneT {x y : Int} (h : x ≠ y) : (x != y) = true := bne_iff_ne.2 h
theorem bneF {x y : Int} (h : x = y) : (x != y) = false := by simp [h]
theorem by8_length (a : List Int) : (by8 a).length = a.length := by simp [by8]
theorem getI_nat {l : List Int} {i : Nat} (h : i < l.length) : getI (by8 l) (i : Int) = some (.i .u8 (l.getD i 0)) := by
  have := getI_by8 (l := l) (i := (i : Int)) (by omega) (by omega)
  simpa using this
theorem take_step {a b : List Int} {i : Nat} (ha : i < a.length) (hb : i < b.length) (h : a.take i = b.take i) (he : a.getD i 0 = b.getD i 0) : a.take (i + 1) = b.take (i + 1) := by
  rw [List.take_add_one, List.take_add_one, h]
  simp [ha, hb] at he
  simp [ha, hb, he]
theorem wrapI64 {n : Int} (h1 : 0 ≤ n) (h2 : n < 9223372036854775808) : IntKind.i64.wrap n = n := by
  simp [IntKind.wrap, IntKind.signed, IntKind.bits]
  omega
theorem f8_ok (a b : List Int) (hla : a.length < 9223372036854775808) : Fn Try.prog X.G 8 [bys a, bys b] (.p (.b (decide (a = b)))) := by
  refine Fn.intro (I := []) hX hm 0 Try.func8 rfl rfl (by kernel_rfl) rfl ?_
  conv => whnf
  refine iteC (fun h => ?_) (fun h => ?_)
  · conv => whnf
    rw [decide_eq_false (by rintro rfl; simp at h)]
    rfl
  · have h : a.length = b.length := Int.ofNat.inj (by simpa using h)
    conv => whnf
    refine LoopJ.intro (I := []) (base' := 0) hX hm (by kernel_rfl) (σ := Nat) (fun i => [(0, bys a), (1, bys b), (5, .p (.i .i64 i))]) (fun _ => []) (fun i => i ≤ a.length ∧ a.take i = b.take i) (fun i => a.length - i) 0 []
      ⟨Nat.zero_le _, by simp⟩ ⟨nofun, rfl, ⟨rfl, rfl, rfl, rfl, rfl, rfl, trivial⟩, trivial⟩ ?_
    intro i hi
    conv => whnf
    refine iteC (fun hlt => ?_) (fun hlt => ?_)
    · have hlt := of_decide_eq_true hlt
      rw [by8_length] at hlt
      conv => whnf
      have ga := getI_nat (l := a) (i := i) (by omega)
      have gb := getI_nat (l := b) (i := i) (by omega)
      conv => arg 2; repeat (first | rw [ga] | (whnf; arg 2))
      conv => whnf
      conv => arg 2; repeat (first | rw [gb] | (whnf; arg 2))
      conv => whnf
      refine iteC (fun he => ?_) (fun he => ?_)
      · conv => whnf
        rw [decide_eq_false (by rintro rfl; simp at he)]
        rfl
      · conv => whnf
        refine ⟨i + 1, [], ⟨by omega, take_step (by omega) (by omega) hi.2 (by simpa using he)⟩, by dsimp only; omega, nofun, rfl, ⟨rfl, rfl, rfl, rfl, ?_, rfl, trivial⟩, trivial⟩
        show AV.p (.i .i64 (IntKind.i64.wrap ((i : Int) + 1))) = AV.p (.i .i64 ((i + 1 : Nat) : Int))
        rw [wrapI64 (by omega) (by omega)]
        simp
    · have hlt := of_decide_eq_false hlt
      rw [by8_length] at hlt
      conv => whnf
      rw [decide_eq_true (by
        have h1 : i = a.length := by omega
        have h2 : i = b.length := by omega
        have := hi.2
        rwa [List.take_of_length_le (by omega), List.take_of_length_le (by omega)] at this)]
      rfl
theorem max_len (a b : List Int) : (if ((by8 b).length : Int) > (by8 a).length then ((by8 b).length : Int) else (by8 a).length) = ((max a.length b.length : Nat) : Int) := by
  rw [by8_length, by8_length]
  split <;> omega
theorem f5_ok (a b : List Int) (hla : a.length < 9223372036854775808) : Fn Try.prog X.G 5 [bys a, bys b] (.tup [.p (.b (decide (a = b))), .p (.i .i64 (max a.length b.length : Nat))]) := by
  refine Fn.intro (I := []) hX hm 0 Try.func5 rfl rfl (by kernel_rfl) rfl ?_
  conv => whnf
  refine ⟨_, f8_ok a b hla, ?_⟩
  generalize decide (a = b) = p
  rw [← max_len]
  cases p <;> rfl
theorem ext_getD {a b : List Int} (hl : a.length = b.length) (h : ∀ j, j < a.length → a.getD j 0 = b.getD j 0) : a = b := by
  refine List.ext_getElem hl fun j h1 h2 => ?_
  have := h j h1
  simpa [h1, h2] using this
theorem wrapU8 (B : BitVec 8) : IntKind.u8.wrap (B.toNat : Int) = B.toNat := by
  have := B.isLt
  simp [IntKind.wrap, IntKind.signed, IntKind.bits]
  omega
theorem ofInt_toNat (B : BitVec 8) : BitVec.ofInt 8 (B.toNat : Int) = B := by simp
theorem ofInt_inj8 {x y : Int} (hx : 0 ≤ x ∧ x < 256) (hy : 0 ≤ y ∧ y < 256) (h : BitVec.ofInt 8 x = BitVec.ofInt 8 y) : x = y := by
  have := congrArg BitVec.toNat h
  simp [BitVec.toNat_ofInt] at this
  omega
theorem or_xor8 {z x y : Int} (hz : 0 ≤ z ∧ z < 256) (hx : 0 ≤ x ∧ x < 256) (hy : 0 ≤ y ∧ y < 256) :
    IntKind.u8.wrap ((BitVec.ofInt IntKind.u8.bits z ||| BitVec.ofInt IntKind.u8.bits (IntKind.u8.wrap ((BitVec.ofInt IntKind.u8.bits x ^^^ BitVec.ofInt IntKind.u8.bits y).toNat : Int))).toNat : Int) = 0 ↔ z = 0 ∧ x = y := by
  have e : IntKind.u8.bits = 8 := rfl
  rw [e, wrapU8, wrapU8, ofInt_toNat]
  constructor
  · intro h
    have h0 : (BitVec.ofInt 8 z ||| (BitVec.ofInt 8 x ^^^ BitVec.ofInt 8 y)) = 0#8 := by
      apply BitVec.eq_of_toNat_eq
      simpa using h
    rw [BitVec.or_eq_zero_iff, BitVec.xor_eq_zero_iff] at h0
    exact ⟨ofInt_inj8 hz ⟨by decide, by decide⟩ (by simpa using h0.1), ofInt_inj8 hx hy h0.2⟩
  · rintro ⟨rfl, rfl⟩
    simp
theorem u8_range (B : BitVec 8) : 0 ≤ IntKind.u8.wrap (B.toNat : Int) ∧ IntKind.u8.wrap (B.toNat : Int) < 256 := by
  rw [wrapU8]
  have := B.isLt
  omega
theorem getD_range {l : List Int} (h : ∀ x ∈ l, 0 ≤ x ∧ x < 256) (j : Nat) : 0 ≤ l.getD j 0 ∧ l.getD j 0 < 256 := by
  by_cases hj : j < l.length
  · have := h l[j] (List.getElem_mem hj)
    simpa [hj] using this
  · simp [List.getD, List.getElem?_eq_none (Nat.le_of_not_lt hj)]
theorem getD_none {l : List Int} {j : Nat} (h : l.length ≤ j) : l.getD j 0 = 0 := by simp [List.getD, List.getElem?_eq_none h]
theorem f4_ok (a b : List Int) (hla : a.length < 9223372036854775808) (hlb : b.length < 9223372036854775808) (ha : ∀ x ∈ a, 0 ≤ x ∧ x < 256) (hb : ∀ x ∈ b, 0 ≤ x ∧ x < 256) : Fn Try.prog X.G 4 [bys a, bys b] (.tup [.p (.b (decide (a = b))), .p (.i .i64 (max a.length b.length : Nat))]) := by
  refine Fn.intro (I := []) hX hm 0 Try.func4 rfl rfl (by kernel_rfl) rfl ?_
  conv => whnf
  refine LoopJ.intro (I := []) (base' := 0) hX hm (by kernel_rfl) (σ := Nat × Int) (fun s => [(0, bys a), (1, bys b), (5, .p (.i .i64 s.1)), (6, .fn 7 []), (7, .p (.i .u8 s.2))]) (fun _ => [])
    (fun s => s.1 ≤ max a.length b.length ∧ 0 ≤ s.2 ∧ s.2 < 256 ∧ (s.2 = 0 ↔ ∀ j, j < s.1 → a.getD j 0 = b.getD j 0)) (fun s => max a.length b.length - s.1) (0, 0) []
      ⟨Nat.zero_le _, by simp⟩ ⟨nofun, rfl, ⟨rfl, rfl, rfl, rfl, rfl, rfl, rfl, rfl, rfl, rfl, trivial⟩, trivial⟩ ?_
  intro s hi
  conv => whnf
  refine iteC (fun hlt => ?_) (fun hlt => ?_)
  · have hlt := of_decide_eq_true hlt
    rw [max_len] at hlt
    conv => whnf
    refine ⟨_, f7_ok a s.1 (by omega), ?_⟩
    conv => whnf
    refine ⟨_, f7_ok b s.1 (by omega), ?_⟩
    conv => whnf
    refine ⟨(s.1 + 1, _), [], ?_, ?_, nofun, rfl, ⟨rfl, rfl, rfl, rfl, ?_, rfl, rfl, rfl, rfl, rfl, trivial⟩, trivial⟩
    · refine ⟨by dsimp only; omega, (u8_range _).1, (u8_range _).2, ?_⟩
      refine (or_xor8 ⟨hi.2.1, hi.2.2.1⟩ (getD_range ha _) (getD_range hb _)).trans ?_
      rw [hi.2.2.2]
      constructor
      · rintro ⟨h1, h2⟩ j hj
        by_cases hjs : j = s.1
        · subst hjs; exact h2
        · exact h1 j (by dsimp only at hj; omega)
      · intro h
        exact ⟨fun j hj => h j (by dsimp only; omega), h s.1 (by dsimp only; omega)⟩
    · dsimp only
      omega
    · show AV.p (.i .i64 (IntKind.i64.wrap ((s.1 : Int) + 1))) = AV.p (.i .i64 ((s.1 + 1 : Nat) : Int))
      rw [wrapI64 (by omega) (by omega)]
      simp
  · have hlt := of_decide_eq_false hlt
    rw [max_len] at hlt
    have hs : s.1 = max a.length b.length := by omega
    conv => whnf
    refine iteC (fun h0 => ?_) (fun h0 => ?_)
    · have h0 : s.2 = 0 := by simpa using h0
      have hall := hi.2.2.2.1 h0
      conv => whnf
      refine iteC (fun h1 => ?_) (fun h1 => ?_)
      · have h1 : a.length = b.length := Int.ofNat.inj (by simpa using h1)
        rw [decide_eq_true (ext_getD h1 fun j hj => hall j (by omega)), ← hs]
        rfl
      · rw [decide_eq_false (by rintro rfl; simp at h1), ← hs]
        rfl
    · have h0 : ¬ s.2 = 0 := by simpa using h0
      rw [decide_eq_false fun h => h0 (hi.2.2.2.2 fun j _ => by rw [h]), ← hs]
      rfl
theorem sameL_by8 (a b : List Int) : PV.sameL (by8 a) (by8 b) = decide (a = b) := by
  induction a generalizing b with
  | nil => cases b <;> simp [by8, PV.sameL]
  | cons x a ih =>
    cases b with
    | nil => simp [by8, PV.sameL]
    | cons y b =>
      have := ih b
      simp only [by8] at this
      simp [by8, PV.sameL, PV.same, this]
      by_cases h : x = y <;> simp [h]
abbrev arr8 (l : List Int) : AV := .p (.arr 32 (.int .u8) (by8 l))
theorem f6_ok (a b : List Int) (hla : a.length = 32) (hlb : b.length = 32) (ha : ∀ x ∈ a, 0 ≤ x ∧ x < 256) (hb : ∀ x ∈ b, 0 ≤ x ∧ x < 256) : Fn Try.prog X.G 6 [arr8 a, arr8 b] (.p (.b (decide (a = b)))) := by
  refine Fn.intro (I := []) hX hm 0 Try.func6 rfl rfl (by kernel_rfl) rfl ?_
  conv => whnf
  have cut : ∀ l : List Int, l.length = 32 → ((by8 l).drop 0).take 32 = by8 l := fun l hl => by
    rw [List.drop_zero, List.take_of_length_le (by simp [by8, hl])]
  refine ⟨_, (show Fn Try.prog X.G 4 [.ro (.int .u8) (((by8 a).drop 0).take 32), .ro (.int .u8) (((by8 b).drop 0).take 32)] _ from by
    rw [cut a hla, cut b hlb]; exact f4_ok a b (by omega) (by omega) ha hb), ?_⟩
  conv => whnf
  refine iteC (fun h => ?_) (fun h => ?_)
  · conv => whnf
    refine iteC (fun h1 => ?_) (fun h1 => ?_)
    · rw [h]; rfl
    · have h1 : PV.sameL (by8 a) (by8 b) = false := h1
      rw [sameL_by8, h] at h1
      cases h1
  · rw [h]; rfl
theorem f3_ok (a b x y : List Int) (hla : x.length = 32) (hlb : y.length = 32) (ha : ∀ n ∈ a, 0 ≤ n ∧ n < 256) (hb : ∀ n ∈ b, 0 ≤ n ∧ n < 256)
    (hx : ∀ n ∈ x, 0 ≤ n ∧ n < 256) (hy : ∀ n ∈ y, 0 ≤ n ∧ n < 256) : Fn Try.prog X.G 3 [bys a, bys b, arr8 x, arr8 y] (.p (.b true)) := by
  refine Fn.intro (I := []) hX hm 0 Try.func3 rfl rfl (by kernel_rfl) rfl ?_
  conv => whnf
  refine iteC (fun h1 => ?_) (fun h1 => ?_)
  · rfl
  conv => whnf
  refine iteC (fun h2 => ?_) (fun h2 => ?_)
  · rfl
  have h1 := of_decide_eq_false h1
  have h2 := of_decide_eq_false h2
  rw [by8_length] at h1 h2
  have c4 := f4_ok a b (by omega) (by omega) ha hb
  have c5 := f5_ok a b (by omega)
  have c6 := f6_ok x y hla hlb hx hy
  have c7 := f6_ok x x hla hla hx hx
  rw [decide_eq_true rfl] at c7
  have hs := sameL_by8 x y
  generalize ((max a.length b.length : Nat) : Int) = m at c4 c5
  generalize decide (a = b) = p at c4 c5
  generalize decide (x = y) = q at c6 hs
  conv => whnf
  refine ⟨_, c4, ?_⟩
  cases p
  all_goals
    conv => whnf
    refine ⟨_, c5, ?_⟩
    conv => whnf
    refine iteC (fun h3 => ?_) (fun h3 => ?_)
    case refine_2 => simp at h3
    conv => whnf
    refine ⟨_, c6, ?_⟩
    cases q
    all_goals
      conv => whnf
      refine iteC (fun h4 => ?_) (fun h4 => ?_)
      all_goals
        have h4 : PV.sameL (by8 x) (by8 y) = _ := h4
        rw [hs] at h4
        first | (cases h4; done) | skip
      conv => whnf
      refine ⟨_, c7, ?_⟩
      rfl
end Go.Proofs.Ytfnagfehgoicaaa.AM
namespace Go.Proofs.Ytfnagfehgoicaaa.MacCompares
open Go Go.Proofs Go.RowKit Go.ChangeShapes Go.WideShapes Go.Proofs.Ytfnagfehgoicaaa.AM

theorem own : ownKnob Try.prog.godebug = none := by kernel_rfl
theorem laidOut : laidOutB Try.prog = true := by kernel_rfl

set_option maxRecDepth 100000 in
theorem lifted (os : Os) (started : os.Started) (H : Type) (enc : TypeId × Value → H) :
    ReturnsInHanded {} Try.checked os 3 .any (Rows.macComparesSpec.pre6 enc Try.prog Try.f3 Rows.macComparesRow.domain false) (Rows.macComparesSpec.post enc Try.prog Try.f3 false true false false) := by
  refine returnsInHanded_of_change (C := Try.checked) own started (by kernel_rfl) Try.func3
    (ChangeSpec.witness6 (enc := enc) (C := Try.checked) false ⟨#[], #[.slice none 0 0, .slice none 0 0, .agg (Array.replicate 32 (.int .u8 0)), .agg (Array.replicate 32 (.int .u8 0))], []⟩ 8 (by kernel_rfl) (by kernel_rfl) (by kernel_rfl) (by kernel_rfl)) ?_
  intro W base args ds gs before hval0 hW hcnd _
  have hval : ∀ (j : Nat) t v, Try.f3.params[j]? = some t → args[j]? = some v → Value.okWide Try.prog W .any base t v := hval0
  have hW' := hW
  obtain ⟨p, q, hA0, hV, rfl, hfz, hnd⟩ := hW
  have hA : DataW.TrodAll enc Try.prog W 0 (fun _ => true) true Try.f3.params.toList args.toList ds p := hA0
  rw [Try.params3] at hA hval
  obtain ⟨v0, vs0, d0, ds0, p0, q0, hargs, rfl, rfl, h0, r0⟩ := trodAll_cons hA
  obtain ⟨v1, vs1, d1, ds1, p1, q1, rfl, rfl, rfl, h1, r1⟩ := trodAll_cons r0
  obtain ⟨v2, vs2, d2, ds2, p2, q2, rfl, rfl, rfl, h2, r2⟩ := trodAll_cons r1
  obtain ⟨v3, vs3, d3, ds3, p3, q3, rfl, rfl, rfl, h3, r3⟩ := trodAll_cons r2
  obtain ⟨rfl, rfl, rfl⟩ := trodAll_nil r3
  obtain rfl : args = #[v0, v1, v2, v3] := by cases args; simp_all
  obtain ⟨rfl, rfl⟩ := trodVars_none hV
  have lt0 : ∀ x ∈ p0, x.block < W.heap.size := by obtain ⟨m, hm⟩ := h0; exact DataW.trod_lt m _ _ _ hm
  have lt1 : ∀ x ∈ p1, x.block < W.heap.size := by obtain ⟨m, hm⟩ := h1; exact DataW.trod_lt m _ _ _ hm
  have lt2 : ∀ x ∈ p2, x.block < W.heap.size := by obtain ⟨m, hm⟩ := h2; exact DataW.trod_lt m _ _ _ hm
  have lt3 : ∀ x ∈ p3, x.block < W.heap.size := by obtain ⟨m, hm⟩ := h3; exact DataW.trod_lt m _ _ _ hm
  obtain ⟨l0, s0, _, e0⟩ := arg_slice (d := 8) (s := .int .u8) Try.underlying22 (by kernel_rfl) (by kernel_rfl) (hval 0 22 v0 rfl rfl) h0
  obtain ⟨l1, s1, _, e1⟩ := arg_slice (d := 8) (s := .int .u8) Try.underlying22 (by kernel_rfl) (by kernel_rfl) (hval 1 22 v1 rfl rfl) h1
  obtain ⟨y2, a2, b2, c2, e2⟩ := arg_plain (d := 8) (s := .arr 32 (.int .u8)) (by kernel_rfl) (hval 2 24 v2 rfl rfl) h2
  obtain ⟨y3, a3, b3, c3, e3⟩ := arg_plain (d := 8) (s := .arr 32 (.int .u8)) (by kernel_rfl) (hval 3 24 v3 rfl rfl) h3
  obtain ⟨n0, rfl, w0⟩ := ints_of s0
  obtain ⟨n1, rfl, w1⟩ := ints_of s1
  obtain ⟨n2, rfl, z2, w2⟩ := arr_of a2 b2 c2
  obtain ⟨n3, rfl, z3, w3⟩ := arr_of a3 b3 c3
  have walk := (f3_ok n0 n1 n2 n3 z2 z3 (fun n hn => wf_u8 (w0 n hn)) (fun n hn => wf_u8 (w1 n hn)) (fun n hn => wf_u8 (w2 n hn)) (fun n hn => wf_u8 (w3 n hn))).calls (w := W) (vs := [v0, v1, v2, v3])
    (fun g x hg => by cases hg) ⟨e0, e1, e2, e3, trivial⟩
  clear hA0 hval0
  refine walk.mono fun e W' ⟨he, bel⟩ => ?_
  subst he
  exact ⟨_, rfl, _, _, _, [], _, [], hW', trodAll_mk1 (shut_bool Try.underlying4 _),
    (trodAll_cons_mk (Below.trod laidOut (by kernel_rfl) (of_decide_eq_true (by kernel_rfl)) h0 bel lt0)
    (trodAll_cons_mk (Below.trod laidOut (by kernel_rfl) (of_decide_eq_true (by kernel_rfl)) h1 bel lt1)
    (trodAll_cons_mk (Below.trod laidOut (by kernel_rfl) (of_decide_eq_true (by kernel_rfl)) h2 bel lt2)
    (trodAll_cons_mk (Below.trod laidOut (by kernel_rfl) (of_decide_eq_true (by kernel_rfl)) h3 bel lt3) trodAll_mk0)))), rfl, bel.frame _, fun h => by cases h⟩

theorem over : Rows.macComparesRow.holds Try.pinned (OpenSpec.ofChange Rows.macComparesSpec) :=
  OpenClaim.holds_of_wide 3 Try.f3 rfl rfl rfl rfl rfl rfl rfl ⟨rfl, rfl, rfl, rfl, rfl⟩ rfl rfl rfl rfl rfl (by kernel_rfl) Try.func3 (by kernel_rfl)
    (of_decide_eq_true (by kernel_rfl)) (by unfold Func.isWrapper; first | (rw [if_pos (by decide +kernel)]; kernel_rfl) | (rw [if_neg (by decide +kernel)]; exact ⟨rfl, rfl⟩))
    (fun os started H enc _ => lifted os started H enc)

/-- The statement. -/
theorem proved : Rows.MacComparesSaid := over
#print axioms proved
end Go.Proofs.Ytfnagfehgoicaaa.MacCompares
