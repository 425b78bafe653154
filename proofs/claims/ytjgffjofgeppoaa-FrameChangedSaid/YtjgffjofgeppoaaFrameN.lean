/- FrameChanged: the walk of the law. -/
import Derived.Test.YtjgffjofgeppoaaFrameK
namespace Go.Proofs.Ytjgffjofgeppoaa.AM
open Go Go.Proofs
set_option maxRecDepth 100000
def xorB (x y : Int) : Int := IntKind.u8.wrap (BitVec.ofInt 8 x ^^^ BitVec.ofInt 8 y).toNat
theorem xorB_ne {x y : Int} (hx : 0 ≤ x ∧ x < 256) (hy : 0 ≤ y ∧ y < 256) (h : y ≠ 0) : xorB x y ≠ x ∧ 0 ≤ xorB x y ∧ xorB x y < 256 := by
  obtain ⟨m, rfl⟩ := Int.eq_ofNat_of_zero_le hx.1
  obtain ⟨n, rfl⟩ := Int.eq_ofNat_of_zero_le hy.1
  have hm : m < 256 := by omega
  have hn : n < 256 := by omega
  have hlt : m ^^^ n < 256 := Nat.xor_lt_two_pow (n := 8) hm hn
  have e : xorB (m : Int) (n : Int) = ((m ^^^ n : Nat) : Int) := by
    unfold xorB
    rw [BitVec.toNat_xor, BitVec.ofInt_natCast, BitVec.ofInt_natCast, BitVec.toNat_ofNat, BitVec.toNat_ofNat, Nat.mod_eq_of_lt (by omega), Nat.mod_eq_of_lt (by omega)]
    exact wr_u8 (by omega) (by omega)
  rw [e]
  refine ⟨fun hh => h ?_, by omega, by omega⟩
  have hh : m ^^^ n = m := Int.ofNat.inj hh
  have h2 : m ^^^ (m ^^^ n) = n := by rw [← Nat.xor_assoc, Nat.xor_self, Nat.zero_xor]
  rw [hh, Nat.xor_self] at h2
  omega
theorem write_okG {f : Fr} (h : okF f) : writeF f = bytesF f := by unfold writeF; rw [if_pos h]
theorem bytesG_pos {f : Fr} (hf : f.ok) : 59 ≤ (bytesF f).length := by
  rw [bytesF_len hf]
  split <;> decide
theorem small4 {t : Int} (h0 : 0 ≤ t) (h : t < 16) : bytesU t 4 = [0, 0, 0, t] := by
  have : t = 0 ∨ t = 1 ∨ t = 2 ∨ t = 3 ∨ t = 4 ∨ t = 5 ∨ t = 6 ∨ t = 7 ∨ t = 8 ∨ t = 9 ∨ t = 10 ∨ t = 11 ∨ t = 12 ∨ t = 13 ∨ t = 14 ∨ t = 15 := by omega
  rcases this with rfl | rfl | rfl | rfl | rfl | rfl | rfl | rfl | rfl | rfl | rfl | rfl | rfl | rfl | rfl | rfl <;> decide
theorem frame_head {f : Fr} (hf : f.ok) (h : okF f) : (0 ≤ tenF f ∧ tenF f < 16) ∧
    ((f.k ≠ 2 ∧ ∃ r : List Int, bytesF f = 1 :: 0 :: 0 :: 0 :: tenF f :: r) ∨ (f.k = 2 ∧ ∃ r : List Int, bytesF f = 2 :: f.cm.op :: 0 :: 0 :: 0 :: tenF f :: r)) := by
  rcases h with h | h
  · have hk : f.k ≠ 2 := by omega
    have e : tenF f = f.tk.t := by unfold tenF; rw [if_pos (.inl h), if_neg hk]
    have h0 := hf.tk.t
    have h1 : f.tk.t < 16 := h.2.2
    have s4 := small4 h0.1 h1
    rw [e]
    refine ⟨⟨h0.1, h1⟩, .inl ⟨hk, (bytesF f).drop 5, ?_⟩⟩
    · unfold bytesF
      rw [if_neg hk]
      unfold bytesR bytesT msgT
      rw [s4]
      simp only [List.append_assoc, List.cons_append, List.nil_append, List.drop_succ_cons, List.drop_zero]
  · have hk : f.k = 2 := h.1
    have e : tenF f = f.cm.t := by unfold tenF; rw [if_pos (.inr h), if_pos hk]
    have h0 := hf.cm.t
    have h1 : f.cm.t < 16 := h.2.2.2.2.1
    have s4 := small4 h0.1 h1
    rw [e]
    refine ⟨⟨h0.1, h1⟩, .inr ⟨hk, (bytesF f).drop 6, ?_⟩⟩
    · unfold bytesF
      rw [if_pos hk]
      unfold bytesC msgC
      rw [s4]
      simp only [List.append_assoc, List.cons_append, List.nil_append, List.drop_succ_cons, List.drop_zero]
theorem changedF {f : Fr} {B : List Int} {n : Nat} {y : Int} (hf : f.ok) (hk : okF f) (hB : bytesF f = B) (hy : 0 ≤ y ∧ y < 256) (hy0 : y ≠ 0) (h : n < B.length) :
    byt (B.set n (xorB B[n] y)) ∧ ∀ s e, parseF (B.set n (xorB B[n] y)) = (s, e) → e = 12 ∨ (e = 0 ∧ s ≠ f) := by
  have hb := bytesF_byt hf hk
  rw [hB] at hb
  obtain ⟨x1, x2, x3⟩ := xorB_ne (hb _ (List.getElem_mem h)) hy hy0
  have hbt : byt (B.set n (xorB B[n] y)) := fun z hz => by
    rcases List.mem_or_eq_of_mem_set hz with hz | rfl
    · exact hb z hz
    · exact ⟨x2, x3⟩
  refine ⟨hbt, fun s e hse => ?_⟩
  obtain ⟨t, e', h1, h2, h3⟩ := parse_is hbt
  rw [h1] at hse
  cases hse
  rcases h3 with ⟨rfl, g1, g2⟩ | ⟨rfl, _⟩
  · refine .inr ⟨rfl, fun hh => ?_⟩
    rw [hh, hB] at g2
    have h4 := congrArg (fun l => l[n]?) g2
    simp only [List.getElem?_set_self h, List.getElem?_eq_getElem h] at h4
    exact x1 (Option.some.inj h4)
  · exact .inl rfl
set_option maxHeartbeats 8000000 in
theorem f20_ok (f : Fr) (a y : Int) (hf : f.ok) (hy : 0 ≤ y ∧ y < 256) : Fn Try.prog X.G 20 [.p (frv f), .p (.i .i64 a), .p (.i .u8 y)] (.p (.b true)) := by
  refine Fn.intro (I := []) hX hm 0 Try.func20 rfl rfl (by kernel_rfl) rfl ?_
  have c1 := f52_ok f hf
  by_cases hk : okF f
  rotate_left
  · rw [← cf_8 hk] at c1
    conv => whnf
    repeat (first
      | (refine iteT rfl ?_; conv => whnf)
      | (refine iteF rfl ?_; conv => whnf)
      | (refine ⟨_, c1, ?_⟩; conv => whnf)
      | (refine ⟨_, f64_ok, ?_⟩; conv => whnf))
    rfl
  have c2 := f54_ok f hf
  rw [← cf_0 hk] at c1 c2
  rw [write_okG hk] at c1
  obtain ⟨⟨t0, t1⟩, hh⟩ := frame_head hf hk
  have hch := fun (B : List Int) (n : Nat) (hB : bytesF f = B) (hy0 : y ≠ 0) (h : n < B.length) => changedF hf hk hB hy hy0 h
  have hbl := bytesG_pos hf
  have w1 := wr_u32 t0 (by omega)
  have hu : (IntKind.u32.wrap (tenF f) != tenF f) = false := by rw [w1]; simp
  have ge1 : decide (tenF f ≥ 16) = false := decide_eq_false (by omega)
  have key : ∃ B : List Int, bytesF f = B ∧ (((f.k == 2) = false ∧ ∃ r, B = 1 :: 0 :: 0 :: 0 :: tenF f :: r) ∨ ((f.k == 2) = true ∧ ∃ r, B = 2 :: f.cm.op :: 0 :: 0 :: 0 :: tenF f :: r)) := by
    refine ⟨_, rfl, ?_⟩
    rcases hh with ⟨k, r, e⟩ | ⟨k, r, e⟩
    · exact .inl ⟨beq_eq_false_iff_ne.2 k, r, e⟩
    · exact .inr ⟨by rw [k]; rfl, r, e⟩
  clear hh
  obtain ⟨B, hB, key⟩ := key
  have hch := hch B
  rw [hB] at hbl c1
  generalize tenF f = t at *
  have lt1 : decide (((bv B).length : Int) < IntKind.i64.wrap (1 + 4)) = false := by
    rw [show IntKind.i64.wrap (1 + 4) = 5 from rfl]
    exact decide_eq_false (by rw [List.length_map]; omega)
  have lt2 : decide (((bv B).length : Int) < IntKind.i64.wrap (2 + 4)) = false := by
    rw [show IntKind.i64.wrap (2 + 4) = 6 from rfl]
    exact decide_eq_false (by rw [List.length_map]; omega)
  rcases key with ⟨kq, r, rfl⟩ | ⟨kq, r, rfl⟩
  all_goals
    conv => whnf
    repeat (first
      | (refine iteT rfl ?_; conv => whnf)
      | (refine iteF rfl ?_; conv => whnf)
      | (refine iteT kq ?_; conv => whnf)
      | (refine iteF kq ?_; conv => whnf)
      | (refine iteF lt1 ?_; conv => whnf)
      | (refine iteF lt2 ?_; conv => whnf)
      | (refine iteF ge1 ?_; conv => whnf)
      | (refine iteF hu ?_; conv => whnf)
      | (refine ⟨_, c1, ?_⟩; conv => whnf)
      | (refine ⟨_, c2, ?_⟩; conv => whnf))
  all_goals
    refine iteC (fun h2 => ?_) (fun h2 => ?_)
    · conv => whnf
      refine ⟨_, f64_ok, ?_⟩
      conv => whnf
      refine iteT rfl ?_
      rfl
    have h2 := of_decide_eq_false h2
    conv => whnf
    refine iteC (fun h3 => ?_) (fun h3 => ?_)
    · conv => whnf
      refine ⟨_, f64_ok, ?_⟩
      conv => whnf
      refine iteT rfl ?_
      rfl
    have h3 := of_decide_eq_false h3
    conv => whnf
    refine iteC (fun h4 => ?_) (fun h4 => ?_)
    · conv => whnf
      refine ⟨_, f64_ok, ?_⟩
      conv => whnf
      refine iteT rfl ?_
      rfl
    have h4 : y ≠ 0 := by simpa using h4
    obtain ⟨n, rfl⟩ := Int.eq_ofNat_of_zero_le (show 0 ≤ a by omega)
    rw [List.length_map] at h3
  all_goals
    have hlt := show n < _ from Int.ofNat_lt.1 (Int.not_le.1 h3)
    have hch := fun hy0 => hch n hB hy0 hlt
    have hg := getM (f := PV.i .u8) hlt
    have hn := nthM (f := PV.i .u8) hlt
    obtain ⟨q1, q2⟩ := hch h4
    have c3 := f62_ok _ q1
    generalize hP : parseF _ = pr at c3
    have q3 := q2 pr.1 pr.2 hP
    obtain ⟨u, e⟩ := pr
    dsimp only at c3 q3
    unfold bvs at c3
    have es : ∀ (l : List Int) (x : Int), bv (l.set n x) = (bv l).set (n : Int).toNat (.i .u8 x) := fun l x => List.map_set
    rw [es] at c3
    conv => whnf
    iterate 4
      conv => arg 2; repeat (first | rw [hg] | rw [hn] | (whnf; arg 2))
      conv => whnf
    refine ⟨_, c3, ?_⟩
    conv => whnf
    rcases q3 with rfl | ⟨rfl, q3⟩
    · repeat (first
        | (refine iteT rfl ?_; conv => whnf)
        | (refine ⟨_, f64_ok, ?_⟩; conv => whnf))
      rfl
    · have hs : (!PV.same (frv u) (frv f)) = true := by rw [same_fr, decide_eq_false q3]; rfl
      refine iteF rfl ?_
      conv => whnf
      refine iteT rfl ?_
      conv => whnf
      refine iteT hs ?_
      conv => whnf
      refine ⟨_, f64_ok, ?_⟩
      conv => whnf
      refine iteT rfl ?_
      rfl
end Go.Proofs.Ytjgffjofgeppoaa.AM
