/- ReplyChanged: the walk of the law. -/
import Derived.Test.YtjgffjofgeppoaaReplyG
namespace Go.Proofs.Ytjgffjofgeppoaa.AM
open Go Go.Proofs
set_option maxRecDepth 100000
def n32 (l : Int) : Int := IntKind.u32.wrap (IntKind.u32.wrap (256 * IntKind.u32.wrap (IntKind.u32.wrap (256 * IntKind.u32.wrap (IntKind.u32.wrap (256 * IntKind.u32.wrap (IntKind.u32.wrap (256 * 0) + IntKind.u32.wrap (byteU l (8 * (3 : Nat))))) + IntKind.u32.wrap (byteU l (8 * (2 : Nat))))) + IntKind.u32.wrap (byteU l (8 * (1 : Nat))))) + IntKind.u32.wrap (byteU l (8 * (0 : Nat))))
theorem n32_eq {l : Int} (h : 0 ≤ l ∧ l < 4294967296) : n32 l = l := by
  obtain ⟨m, rfl⟩ := Int.eq_ofNat_of_zero_le h.1
  have hm : m < 4294967296 := by omega
  unfold n32
  rw [byteU_nat m 3 (by omega), byteU_nat m 2 (by omega), byteU_nat m 1 (by omega), byteU_nat m 0 (by omega)]
  simp [IntKind.wrap, IntKind.signed, IntKind.bits]
  omega
def xorB (x y : Int) : Int := IntKind.u8.wrap (BitVec.ofInt 8 x ^^^ BitVec.ofInt 8 y).toNat
theorem xorB_ne {x y : Int} (hx : 0 ≤ x ∧ x < 256) (hy : 0 ≤ y ∧ y < 256) (h : y ≠ 0) : xorB x y ≠ x ∧ 0 ≤ xorB x y ∧ xorB x y < 256 := by
  obtain ⟨m, rfl⟩ := Int.eq_ofNat_of_zero_le hx.1
  obtain ⟨n, rfl⟩ := Int.eq_ofNat_of_zero_le hy.1
  have hm : m < 256 := by omega
  have hn : n < 256 := by omega
  have hlt : m ^^^ n < 256 := Nat.xor_lt_two_pow (n := 8) hm hn
  have e : xorB (m : Int) (n : Int) = ((m ^^^ n : Nat) : Int) := by
    unfold xorB
    rw [BitVec.toNat_xor, BitVec.ofInt_natCast, BitVec.ofInt_natCast, BitVec.toNat_ofNat, BitVec.toNat_ofNat, Nat.mod_eq_of_lt (by omega), Nat.mod_eq_of_lt (by omega)]
    exact wr_u8 (by omega) (by omega)
  rw [e]
  refine ⟨fun hh => h ?_, by omega, by omega⟩
  have hh : m ^^^ n = m := Int.ofNat.inj hh
  have h2 : m ^^^ (m ^^^ n) = n := by rw [← Nat.xor_assoc, Nat.xor_self, Nat.zero_xor]
  rw [hh, Nat.xor_self] at h2
  omega
def f32 (l : List Int) : Int := l.foldl (fun n x => IntKind.u32.wrap (IntKind.u32.wrap (256 * n) + IntKind.u32.wrap x)) 0
theorem f32_step {b : List Int} {i : Nat} (h : i < b.length) : f32 (b.take (i + 1)) = IntKind.u32.wrap (IntKind.u32.wrap (256 * f32 (b.take i)) + IntKind.u32.wrap b[i]) := by
  unfold f32
  rw [List.take_add_one, List.foldl_append]
  simp [h]
def lev (r : Rp) (i : Nat) : Int := if i = 0 then r.l0 else if i = 1 then r.l1 else r.l2
theorem lev_byte (r : Rp) {i k : Nat} (hi : i < 3) (hk : k < 4) : (bytesP r)[8 + 4 * i + k]'(by rw [bytesP_len]; omega) = (bytesU (lev r i) 4)[k]'(by rw [bytesU_length]; exact hk) := by
  have h1 : i = 0 ∨ i = 1 ∨ i = 2 := by omega
  have h2 : k = 0 ∨ k = 1 ∨ k = 2 ∨ k = 3 := by omega
  rcases h1 with rfl | rfl | rfl <;> rcases h2 with rfl | rfl | rfl | rfl <;> rfl
theorem lev_get (r : Rp) {i : Nat} (hi : i < 3) : getI [PV.i .u32 r.l0, PV.i .u32 r.l1, PV.i .u32 r.l2] (i : Int) = some (.i .u32 (lev r i)) := by
  have h1 : i = 0 ∨ i = 1 ∨ i = 2 := by omega
  rcases h1 with rfl | rfl | rfl <;> rfl
theorem lev_nth (r : Rp) {i : Nat} (hi : i < 3) : ([PV.i .u32 r.l0, PV.i .u32 r.l1, PV.i .u32 r.l2] : List PV)[(i : Int).toNat]? = some (.i .u32 (lev r i)) := by
  have h1 : i = 0 ∨ i = 1 ∨ i = 2 := by omega
  rcases h1 with rfl | rfl | rfl <;> rfl
theorem lev_range {r : Rp} (hr : r.ok) (i : Nat) : 0 ≤ lev r i ∧ lev r i < 4294967296 := by
  unfold lev
  split
  · exact hr.l0
  · split
    · exact hr.l1
    · exact hr.l2
theorem changed_no {r : Rp} {n : Nat} {y : Int} (hr : r.ok) (_hk : okP r) (_hn : n < 32) (hy : 0 ≤ y ∧ y < 256) (hy0 : y ≠ 0) (h : n < (bytesP r).length) :
    byt ((bytesP r).set n (xorB (bytesP r)[n] y)) ∧ ∀ s e, parseP ((bytesP r).set n (xorB (bytesP r)[n] y)) = (s, e) → e = 12 ∨ (e = 0 ∧ s ≠ r) := by
  have hb := bytesP_byt hr
  obtain ⟨x1, x2, x3⟩ := xorB_ne (hb _ (List.getElem_mem h)) hy hy0
  refine ⟨fun z hz => ?_, fun s e hse => ?_⟩
  · rcases List.mem_or_eq_of_mem_set hz with hz | rfl
    · exact hb z hz
    · exact ⟨x2, x3⟩
  · by_cases hg : goodB ((bytesP r).set n (xorB (bytesP r)[n] y))
    · rw [parse_good hg] at hse
      cases hse
      refine .inr ⟨rfl, fun hh => ?_⟩
      have h3 := hg.2.2
      rw [hh] at h3
      have h4 := congrArg (fun l => l[n]?) h3
      simp only [List.getElem?_set_self h, List.getElem?_eq_getElem h] at h4
      exact x1 (Option.some.inj h4).symm
    · rw [parse_bad hg] at hse
      cases hse
      exact .inl rfl
set_option maxHeartbeats 1000000 in
theorem f16_ok (r : Rp) (a y : Int) (hr : r.ok) (hy : 0 ≤ y ∧ y < 256) : Fn Try.prog X.G 16 [.p (rpv r), .p (.i .i64 a), .p (.i .u8 y)] (.p (.b true)) := by
  refine Fn.intro (I := []) hX hm 0 Try.func16 rfl rfl (by kernel_rfl) rfl ?_
  have c1 := f41_ok r hr
  conv => whnf
  refine ⟨_, c1, ?_⟩
  conv => whnf
  refine iteC (fun h => ?_) (fun h => ?_)
  · conv => whnf
    refine ⟨_, f61_ok, ?_⟩
    conv => whnf
    refine iteT rfl ?_
    rfl
  have hk : okP r := by
    rw [chkP_ne] at h
    simpa using h
  have hw : writeP r = bytesP r := by unfold writeP; rw [if_pos hk]
  rw [hw]
  have hlr : (((bv (bytesP r)).length : Int) != 32) = false := by rw [List.length_map, bytesP_len]; rfl
  have hbl := bytesP_len r
  have hlb := fun (i k : Nat) (hi : i < 3) (hk : k < 4) => lev_byte r hi hk
  have hch := fun (n : Nat) (hn : n < 32) (hy0 : y ≠ 0) (h : n < (bytesP r).length) => changed_no hr hk hn hy hy0 h
  conv => whnf
  refine iteF hlr ?_
  conv => whnf
  refine LoopJ.intro (I := []) (base' := 0) hX hm (by kernel_rfl) (σ := Nat) (fun i => [(1, .p (.i .i64 a)), (2, .p (.i .u8 y)), (3, .ptr 24 []), (7, .own 128), (9, .p (.i .i64 i))])
    (fun _ => [(24, .var (.p (rpv r))), (128, .els true ush (bv (bytesP r)))]) (fun i => i ≤ 3) (fun i => 3 - i) 0 []
    (Nat.zero_le _) ⟨nofun, rfl, ⟨rfl, rfl, rfl, rfl, rfl, rfl, rfl, rfl, rfl, rfl, trivial⟩, ⟨rfl, rfl, rfl, rfl, trivial⟩⟩ ?_
  intro i hi
  conv => whnf
  refine iteC (fun h1 => ?_) (fun h1 => ?_)
  · have h1 := of_decide_eq_true h1
    have hi3 : i < 3 := by omega
    conv => whnf
    refine LoopJ.intro (I := []) (base' := 0) hX hm (by kernel_rfl) (σ := Nat) (fun k => [(1, .p (.i .i64 a)), (2, .p (.i .u8 y)), (3, .ptr 24 []), (7, .own 128), (9, .p (.i .i64 i)), (10, .p (.i .u32 (f32 ((bytesU (lev r i) 4).take k)))), (11, .p (.i .i64 k))])
      (fun _ => [(24, .var (.p (rpv r))), (128, .els true ush (bv (bytesP r)))]) (fun k => k ≤ 4) (fun k => 4 - k) 0 []
      (Nat.zero_le _) ⟨nofun, rfl, ⟨rfl, rfl, rfl, rfl, rfl, rfl, rfl, rfl, rfl, rfl, rfl, rfl, rfl, rfl, trivial⟩, ⟨rfl, rfl, rfl, rfl, trivial⟩⟩ ?_
    intro k hk'
    conv => whnf
    refine iteC (fun h2 => ?_) (fun h2 => ?_)
    · have h2 := of_decide_eq_true h2
      have hk4 : k < 4 := by omega
      have hlt : 8 + 4 * i + k < (bytesP r).length := by omega
      have hg := getM (f := PV.i .u8) hlt
      have hn := nthM (f := PV.i .u8) hlt
      rw [hlb i k hi3 hk4] at hg hn
      have ei : ((8 + 4 * i + k : Nat) : Int) = IntKind.i64.wrap (IntKind.i64.wrap (8 + IntKind.i64.wrap (4 * (i : Int))) + k) := by
        rw [wr_i64 (n := 4 * (i : Int)) (by omega) (by omega), wr_i64 (n := 8 + 4 * (i : Int)) (by omega) (by omega), wr_i64 (by omega) (by omega)]
        omega
      rw [ei] at hg hn
      conv => whnf
      iterate 2
        conv => arg 2; repeat (first | rw [hg] | rw [hn] | (whnf; arg 2))
        conv => whnf
      refine ⟨k + 1, [], by omega, by dsimp only; omega, nofun, rfl, ⟨rfl, rfl, rfl, rfl, rfl, rfl, rfl, rfl, rfl, rfl, ?_, rfl, incN (by omega), rfl, trivial⟩, ⟨rfl, rfl, rfl, rfl, trivial⟩⟩
      rw [f32_step (by rw [bytesU_length]; exact hk4)]
      rfl
    · have h2 := of_decide_eq_false h2
      have hk4 : k = 4 := by omega
      subst hk4
      have e32 : f32 ((bytesU (lev r i) 4).take 4) = lev r i := n32_eq (lev_range hr i)
      rw [e32]
      have hg := lev_get r hi3
      have hn := lev_nth r hi3
      conv => whnf
      iterate 2
        conv => arg 2; repeat (first | rw [hg] | rw [hn] | (whnf; arg 2))
        conv => whnf
      refine iteF (bne_self_eq_false _) ?_
      conv => whnf
      exact ⟨i + 1, [], by omega, by dsimp only; omega, nofun, rfl, ⟨rfl, rfl, rfl, rfl, rfl, rfl, rfl, rfl, incN (by omega), rfl, trivial⟩, ⟨rfl, rfl, rfl, rfl, trivial⟩⟩
  clear h1
  conv => whnf
  refine iteC (fun h2 => ?_) (fun h2 => ?_)
  · conv => whnf
    refine ⟨_, f61_ok, ?_⟩
    conv => whnf
    refine iteT rfl ?_
    rfl
  have h2 := of_decide_eq_false h2
  conv => whnf
  refine iteC (fun h3 => ?_) (fun h3 => ?_)
  · conv => whnf
    refine ⟨_, f61_ok, ?_⟩
    conv => whnf
    refine iteT rfl ?_
    rfl
  have h3 := of_decide_eq_false h3
  conv => whnf
  refine iteC (fun h4 => ?_) (fun h4 => ?_)
  · conv => whnf
    refine ⟨_, f61_ok, ?_⟩
    conv => whnf
    refine iteT rfl ?_
    rfl
  have h4 : y ≠ 0 := by simpa using h4
  obtain ⟨n, rfl⟩ := Int.eq_ofNat_of_zero_le (show 0 ≤ a by omega)
  have hn32 : n < 32 := by omega
  have hlt : n < (bytesP r).length := by omega
  have hg := getM (f := PV.i .u8) hlt
  have hn := nthM (f := PV.i .u8) hlt
  obtain ⟨q1, q2⟩ := hch n hn32 h4 hlt
  have c2 := f50_ok _ q1 (by rw [List.length_set]; omega)
  obtain ⟨u, e, hue⟩ : ∃ u e, parseP ((bytesP r).set n (xorB (bytesP r)[n] y)) = (u, e) := ⟨_, _, rfl⟩
  have q3 := q2 u e hue
  rw [hue] at c2
  dsimp only at c2
  have es : bv ((bytesP r).set n (xorB (bytesP r)[n] y)) = (bv (bytesP r)).set (n : Int).toNat (.i .u8 (xorB (bytesP r)[n] y)) := List.map_set
  unfold bvs at c2
  rw [es] at c2
  conv => whnf
  iterate 4
    conv => arg 2; repeat (first | rw [hg] | rw [hn] | (whnf; arg 2))
    conv => whnf
  refine ⟨_, c2, ?_⟩
  conv => whnf
  rcases q3 with rfl | ⟨rfl, q3⟩
  · repeat (first
      | (refine iteT rfl ?_; conv => whnf)
      | (refine ⟨_, f61_ok, ?_⟩; conv => whnf))
    rfl
  · have hs : (!PV.same (rpv u) (rpv r)) = true := by rw [same_rp, decide_eq_false q3]; rfl
    refine iteF rfl ?_
    conv => whnf
    refine iteT rfl ?_
    conv => whnf
    refine iteT hs ?_
    conv => whnf
    refine ⟨_, f61_ok, ?_⟩
    conv => whnf
    refine iteT rfl ?_
    rfl
end Go.Proofs.Ytjgffjofgeppoaa.AM
