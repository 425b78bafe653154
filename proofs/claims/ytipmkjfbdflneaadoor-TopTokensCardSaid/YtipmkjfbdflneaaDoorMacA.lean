/- Mac: bytes compared. -/
import Derived.Test.YtipmkjfbdflneaaDoorShaL
namespace Go.Proofs.YtipmkjfbdflneaaDoor.AM
open Go Go.Proofs
set_option maxRecDepth 100000

theorem getI_bvM {l : List Int} {i : Int} (h0 : 0 ≤ i) (h : i < l.length) : getI (bv l) i = some (.i .u8 (l.getD i.toNat 0)) := by
  unfold getI
  rw [decide_eq_true h0]
  have : i.toNat < l.length := by omega
  simp [bv, this]
theorem f85_ok (l : List Int) (i : Int) (hi : 0 ≤ i) : Fn Tryd.prog X.G 85 [bvs l, .p (.i .i64 i)] (.p (.i .u8 (l.getD i.toNat 0))) := by
  refine Fn.intro (I := []) hX hm 0 Tryd.func85 rfl rfl (by kernel_rfl) rfl ?_
  conv => whnf
  refine iteC (fun h => ?_) (fun h => ?_)
  · have h := of_decide_eq_true h
    conv => whnf
    have hg := getI_bvM hi (by simpa [bv] using h)
    conv => arg 2; repeat (first | rw [hg] | (whnf; arg 2))
    conv => whnf
    rfl
  · have h := of_decide_eq_false h
    conv => whnf
    have : l.getD i.toNat 0 = 0 := by simp [bv] at h; simp [List.getD]; rw [List.getElem?_eq_none (by omega)]; rfl
    rw [this]
    rfl
theorem wrapI64 {n : Int} (h1 : 0 ≤ n) (h2 : n < 9223372036854775808) : IntKind.i64.wrap n = n := by
  simp [IntKind.wrap, IntKind.signed, IntKind.bits]
  omega
theorem bv_length (a : List Int) : (bv a).length = a.length := by simp [bv]
theorem max_len (a b : List Int) : (if ((bv b).length : Int) > (bv a).length then ((bv b).length : Int) else (bv a).length) = ((max a.length b.length : Nat) : Int) := by
  rw [bv_length, bv_length]
  split <;> omega
theorem ext_getD {a b : List Int} (hl : a.length = b.length) (h : ∀ j, j < a.length → a.getD j 0 = b.getD j 0) : a = b := by
  refine List.ext_getElem hl fun j h1 h2 => ?_
  have := h j h1
  simpa [h1, h2] using this
theorem wrapU8 (B : BitVec 8) : IntKind.u8.wrap (B.toNat : Int) = B.toNat := by
  have := B.isLt
  simp [IntKind.wrap, IntKind.signed, IntKind.bits]
  omega
theorem ofInt_toNat (B : BitVec 8) : BitVec.ofInt 8 (B.toNat : Int) = B := by simp
theorem ofInt_inj8 {x y : Int} (hx : 0 ≤ x ∧ x < 256) (hy : 0 ≤ y ∧ y < 256) (h : BitVec.ofInt 8 x = BitVec.ofInt 8 y) : x = y := by
  have := congrArg BitVec.toNat h
  simp [BitVec.toNat_ofInt] at this
  omega
theorem or_xor8 {z x y : Int} (hz : 0 ≤ z ∧ z < 256) (hx : 0 ≤ x ∧ x < 256) (hy : 0 ≤ y ∧ y < 256) :
    IntKind.u8.wrap ((BitVec.ofInt IntKind.u8.bits z ||| BitVec.ofInt IntKind.u8.bits (IntKind.u8.wrap ((BitVec.ofInt IntKind.u8.bits x ^^^ BitVec.ofInt IntKind.u8.bits y).toNat : Int))).toNat : Int) = 0 ↔ z = 0 ∧ x = y := by
  have e : IntKind.u8.bits = 8 := rfl
  rw [e, wrapU8, wrapU8, ofInt_toNat]
  constructor
  · intro h
    have h0 : (BitVec.ofInt 8 z ||| (BitVec.ofInt 8 x ^^^ BitVec.ofInt 8 y)) = 0#8 := by
      apply BitVec.eq_of_toNat_eq
      simpa using h
    rw [BitVec.or_eq_zero_iff, BitVec.xor_eq_zero_iff] at h0
    exact ⟨ofInt_inj8 hz ⟨by decide, by decide⟩ (by simpa using h0.1), ofInt_inj8 hx hy h0.2⟩
  · rintro ⟨rfl, rfl⟩
    simp
theorem u8_range (B : BitVec 8) : 0 ≤ IntKind.u8.wrap (B.toNat : Int) ∧ IntKind.u8.wrap (B.toNat : Int) < 256 := by
  rw [wrapU8]
  have := B.isLt
  omega
theorem getD_range {l : List Int} (h : ∀ x ∈ l, 0 ≤ x ∧ x < 256) (j : Nat) : 0 ≤ l.getD j 0 ∧ l.getD j 0 < 256 := by
  by_cases hj : j < l.length
  · have := h l[j] (List.getElem_mem hj)
    simpa [hj] using this
  · simp [List.getD, List.getElem?_eq_none (Nat.le_of_not_lt hj)]
theorem getD_none {l : List Int} {j : Nat} (h : l.length ≤ j) : l.getD j 0 = 0 := by simp [List.getD, List.getElem?_eq_none h]
theorem f59_ok (a b : List Int) (hla : a.length < 9223372036854775808) (hlb : b.length < 9223372036854775808) (ha : ∀ x ∈ a, 0 ≤ x ∧ x < 256) (hb : ∀ x ∈ b, 0 ≤ x ∧ x < 256) : Fn Tryd.prog X.G 59 [bvs a, bvs b] (.tup [.p (.b (decide (a = b))), .p (.i .i64 (max a.length b.length : Nat))]) := by
  refine Fn.intro (I := []) hX hm 0 Tryd.func59 rfl rfl (by kernel_rfl) rfl ?_
  conv => whnf
  refine LoopJ.intro (I := []) (base' := 0) hX hm (by kernel_rfl) (σ := Nat × Int) (fun s => [(0, bvs a), (1, bvs b), (5, .p (.i .i64 s.1)), (6, .fn 85 []), (7, .p (.i .u8 s.2))]) (fun _ => [])
    (fun s => s.1 ≤ max a.length b.length ∧ 0 ≤ s.2 ∧ s.2 < 256 ∧ (s.2 = 0 ↔ ∀ j, j < s.1 → a.getD j 0 = b.getD j 0)) (fun s => max a.length b.length - s.1) (0, 0) []
      ⟨Nat.zero_le _, by simp⟩ ⟨nofun, rfl, ⟨rfl, rfl, rfl, rfl, rfl, rfl, rfl, rfl, rfl, rfl, trivial⟩, trivial⟩ ?_
  intro s hi
  conv => whnf
  refine iteC (fun hlt => ?_) (fun hlt => ?_)
  · have hlt := of_decide_eq_true hlt
    rw [max_len] at hlt
    conv => whnf
    refine ⟨_, f85_ok a s.1 (by omega), ?_⟩
    conv => whnf
    refine ⟨_, f85_ok b s.1 (by omega), ?_⟩
    conv => whnf
    refine ⟨(s.1 + 1, _), [], ?_, ?_, nofun, rfl, ⟨rfl, rfl, rfl, rfl, ?_, rfl, rfl, rfl, rfl, rfl, trivial⟩, trivial⟩
    · refine ⟨by dsimp only; omega, (u8_range _).1, (u8_range _).2, ?_⟩
      refine (or_xor8 ⟨hi.2.1, hi.2.2.1⟩ (getD_range ha _) (getD_range hb _)).trans ?_
      rw [hi.2.2.2]
      constructor
      · rintro ⟨h1, h2⟩ j hj
        by_cases hjs : j = s.1
        · subst hjs; exact h2
        · exact h1 j (by dsimp only at hj; omega)
      · intro h
        exact ⟨fun j hj => h j (by dsimp only; omega), h s.1 (by dsimp only; omega)⟩
    · dsimp only
      omega
    · show AV.p (.i .i64 (IntKind.i64.wrap ((s.1 : Int) + 1))) = AV.p (.i .i64 ((s.1 + 1 : Nat) : Int))
      rw [wrapI64 (by omega) (by omega)]
      simp
  · have hlt := of_decide_eq_false hlt
    rw [max_len] at hlt
    have hs : s.1 = max a.length b.length := by omega
    conv => whnf
    refine iteC (fun h0 => ?_) (fun h0 => ?_)
    · have h0 : s.2 = 0 := by simpa using h0
      have hall := hi.2.2.2.1 h0
      conv => whnf
      refine iteC (fun h1 => ?_) (fun h1 => ?_)
      · have h1 : a.length = b.length := Int.ofNat.inj (by simpa using h1)
        rw [decide_eq_true (ext_getD h1 fun j hj => hall j (by omega)), ← hs]
        rfl
      · rw [decide_eq_false (by rintro rfl; simp at h1), ← hs]
        rfl
    · have h0 : ¬ s.2 = 0 := by simpa using h0
      rw [decide_eq_false fun h => h0 (hi.2.2.2.2 fun j _ => by rw [h]), ← hs]
      rfl
theorem f25_ok (a b : List Int) (hla : a.length = 32) (hlb : b.length = 32) (ha : ∀ x ∈ a, 0 ≤ x ∧ x < 256) (hb : ∀ x ∈ b, 0 ≤ x ∧ x < 256) : Fn Tryd.prog X.G 25 [.p (dv a), .p (dv b)] (.p (.b (decide (a = b)))) := by
  refine Fn.intro (I := []) hX hm 0 Tryd.func25 rfl rfl (by kernel_rfl) rfl ?_
  conv => whnf
  have cut : ∀ l : List Int, l.length = 32 → ((bv l).drop 0).take 32 = bv l := fun l hl => by
    rw [List.drop_zero, List.take_of_length_le (by simp [bv, hl])]
  refine ⟨_, (show Fn Tryd.prog X.G 59 [.ro (.int .u8) (((bv a).drop 0).take 32), .ro (.int .u8) (((bv b).drop 0).take 32)] _ from by
    rw [cut a hla, cut b hlb]; exact f59_ok a b (by omega) (by omega) ha hb), ?_⟩
  conv => whnf
  refine iteC (fun h => ?_) (fun h => ?_)
  · conv => whnf
    refine iteC (fun h1 => ?_) (fun h1 => ?_)
    · rw [h]; rfl
    · have h1 : PV.sameL (bv a) (bv b) = false := h1
      rw [same_dvl, h] at h1
      cases h1
  · rw [h]; rfl
end Go.Proofs.YtipmkjfbdflneaaDoor.AM
