/- Keys: KeysMade: the walk of the law. -/
import Derived.Test.YtkcnchlahhlkfaaDoorKeyX
namespace Go.Proofs.YtkcnchlahhlkfaaDoor.AM
open Go Go.Proofs
set_option maxRecDepth 100000

theorem small4' {t : Int} (h0 : 0 ≤ t) (h : t < 16) : bytesU t 4 = [0, 0, 0, IntKind.u8.wrap t] := by
  have : t = 0 ∨ t = 1 ∨ t = 2 ∨ t = 3 ∨ t = 4 ∨ t = 5 ∨ t = 6 ∨ t = 7 ∨ t = 8 ∨ t = 9 ∨ t = 10 ∨ t = 11 ∨ t = 12 ∨ t = 13 ∨ t = 14 ∨ t = 15 := by omega
  rcases this with rfl | rfl | rfl | rfl | rfl | rfl | rfl | rfl | rfl | rfl | rfl | rfl | rfl | rfl | rfl | rfl <;> decide
/-- An integer's four bytes, shifted out of 32 bits. -/
def by32 (e : Int) : List Int := [IntKind.u8.wrap (e.fdiv (2 ^ (min (24 : Int).toNat IntKind.u32.bits))), IntKind.u8.wrap (e.fdiv (2 ^ (min (16 : Int).toNat IntKind.u32.bits))), IntKind.u8.wrap (e.fdiv (2 ^ (min (8 : Int).toNat IntKind.u32.bits))), IntKind.u8.wrap e]
theorem bytes32 (e : Int) : bytesU e 4 = by32 e := by
  have h : ∀ (s : Int) (n : Nat), s = n → n < 32 → byteU e s = IntKind.u8.wrap (e.fdiv (2 ^ (min (n : Int).toNat IntKind.u32.bits))) := by
    intro s n hs hn
    subst hs
    unfold byteU
    have h1 : min (n : Int).toNat 64 = n := by simp; omega
    have h2 : min (n : Int).toNat IntKind.u32.bits = n := by
      have : IntKind.u32.bits = 32 := rfl
      rw [this]
      simp
      omega
    rw [h1, h2]
  have h0 : byteU e (8 * (0 : Nat)) = IntKind.u8.wrap e := by
    unfold byteU
    have : (2 : Int) ^ (min (8 * ((0 : Nat) : Int)).toNat 64) = 1 := by decide
    rw [this, Int.fdiv_one]
  unfold bytesU bytesU bytesU bytesU bytesU by32
  rw [h (8 * (3 : Nat)) 24 (by decide) (by decide), h (8 * (2 : Nat)) 16 (by decide) (by decide), h (8 * (1 : Nat)) 8 (by decide) (by decide), h0]
  rfl
def k9 (t e : Int) : List Int := [107, 0, 0, 0, IntKind.u8.wrap t, IntKind.u8.wrap (e.fdiv (2 ^ (min (24 : Int).toNat IntKind.u32.bits))), IntKind.u8.wrap (e.fdiv (2 ^ (min (16 : Int).toNat IntKind.u32.bits))), IntKind.u8.wrap (e.fdiv (2 ^ (min (8 : Int).toNat IntKind.u32.bits))), IntKind.u8.wrap e]
theorem keyM_k9 {t e : Int} (h0 : 0 ≤ t) (h : t < 16) : keyM t e = k9 t e := by
  unfold keyM
  rw [small4' h0 h, bytes32]
  rfl
set_option maxHeartbeats 8000000 in
theorem f13_ok (s : List Int) (t u e x : Int) (c : Cm) (hs : byt s) (ls : s.length = 32) (ht : 0 ≤ t ∧ t < 4294967296) (hu : 0 ≤ u ∧ u < 4294967296) (he : 0 ≤ e ∧ e < 4294967296) (hx : 0 ≤ x ∧ x < 18446744073709551616) (hc : c.ok) :
    Fn Tryd.prog X.G 13 [.p (dv s), .p (.i .u32 t), .p (.i .u32 u), .p (.i .u32 e), .p (.i .u64 x), .p (cmv c)] (.p (.b true)) := by
  refine Fn.intro (I := []) hX hm 0 Tryd.func13 rfl rfl (by kernel_rfl) rfl ?_
  have c0 := f50_ok
  have hT : Tk.ok ⟨t, u, e, x, s⟩ := ⟨ht, hu, he, hx, ⟨ls, hs⟩⟩
  have sl : bvs s = .ro ush (((bv s).drop 0).take 32) := by rw [List.drop_zero, List.take_of_length_le (by rw [List.length_map, ls]; omega)]
  have c1 := f39_ok s [97] hs (byt_allT rfl) (by decide)
  rw [(mac_tag (k := s) (m := [97]) (by omega) (by decide)).1, (mac_tag (k := s) (m := [97]) (by omega) (by decide)).2, sl, show tagD s [97] = cmdD s from rfl] at c1
  have c2 := f29_ok s hs ls
  have c3 := f45_ok s c hs ls hc
  have c4 := f51_ok c hc
  have c5 := f25_ok s t e hs ls ht he
  have c6 := f27_ok s ⟨t, u, e, x, s⟩ hs ls hT
  have c7 := f52_ok t e
  have lk := cmdD_len s
  have c8 := f39_ok (cmdD s) (msgC c) (cmdD_byt s) (msgC_byt hc) (by rw [msgC_len]; decide)
  rw [(mac_tag (k := cmdD s) (m := msgC c) (by omega) (by rw [msgC_len]; decide)).1, (mac_tag (k := cmdD s) (m := msgC c) (by omega) (by rw [msgC_len]; decide)).2] at c8
  rw [show bvs (cmdD s) = .ro ush (((bv (cmdD s)).drop 0).take 32) from by rw [List.drop_zero, List.take_of_length_le (by rw [List.length_map, lk]; omega)]] at c8
  have c9 := f39_ok s (keyM t e) hs (keyM_byt t e) (by rw [keyM_len]; decide)
  rw [(mac_tag (k := s) (m := keyM t e) (by omega) (by rw [keyM_len]; decide)).1, (mac_tag (k := s) (m := keyM t e) (by omega) (by rw [keyM_len]; decide)).2, sl] at c9
  have c10 := f33_ok (tagD s (keyM t e)) ⟨t, u, e, x, s⟩ (tagD_byt _ _) (tagD_len _ _) hT
  dsimp only at c6 c10
  unfold mintK at c6
  dsimp only at c6
  unfold mintT at c6 c10
  dsimp only at c6 c10
  unfold signC signE at c3
  unfold sgD withD at c3
  unfold befC befE at c4
  unfold keyD at c5
  unfold keyE at c5 c6
  have hK9 : isK t e = true → keyM t e = k9 t e := fun h => by
    unfold isK at h
    simp only [Bool.and_eq_true, decide_eq_true_eq] at h
    exact keyM_k9 ht.1 h.1
  generalize hp : isK t e = p at *
  have s1 := same_dvT (cmdD s)
  have s2 := same_dvT (tagD s (keyM t e))
  have s3 : ∀ z : Cm, PV.same (cmv z) (cmv z) = true := fun z => by rw [same_cm]; exact decide_eq_true rfl
  have s4 : ∀ z : Tk, PV.same (tkv z) (tkv z) = true := fun z => by rw [same_tk]; exact decide_eq_true rfl
  by_cases hC : okC c
  all_goals
    first | rw [if_pos hC, if_pos hC] at c3 c4 | rw [if_neg hC, if_neg hC] at c3 c4
    cases p
    · rw [if_neg (by decide), if_neg (by decide)] at c5 c6
      generalize tagD (cmdD s) (msgC c) = d at *
      generalize msgC c = m at *
      generalize cmdD s = k at *
      have s5 := s3 ⟨c.op, c.t, c.u, c.l0, c.l1, c.l2, c.us, c.en, c.x, d⟩
      conv => whnf
      refine ⟨_, c1, ?_⟩
      repeat' (conv => whnf
               first
                | refine ⟨_, c2, ?_⟩
                | refine ⟨_, c3, ?_⟩
                | refine ⟨_, c4, ?_⟩
                | refine ⟨_, c5, ?_⟩
                | refine ⟨_, c6, ?_⟩
                | refine ⟨_, c7, ?_⟩
                | refine ⟨_, c8, ?_⟩
                | refine ⟨_, c0, ?_⟩
                | refine iteT rfl ?_
                | refine iteF rfl ?_
                | refine iteF (congrArg Bool.not s1) ?_
                | refine iteF (congrArg Bool.not s5) ?_)
      all_goals rfl
    · rw [if_pos rfl, if_pos rfl] at c5 c6
      have hkk := hK9 rfl
      generalize keyM t e = kk at *
      subst hkk
      generalize tagD s (k9 t e) = q at *
      generalize tagD q (msgT ⟨t, u, e, x, s⟩) = tg at *
      generalize tagD (cmdD s) (msgC c) = d at *
      generalize msgC c = m at *
      generalize cmdD s = k at *
      have s5 := s3 ⟨c.op, c.t, c.u, c.l0, c.l1, c.l2, c.us, c.en, c.x, d⟩
      have s6 := s4 ⟨t, u, e, x, tg⟩
      conv => whnf
      refine ⟨_, c1, ?_⟩
      repeat' (conv => whnf
               first
                | refine ⟨_, c2, ?_⟩
                | refine ⟨_, c3, ?_⟩
                | refine ⟨_, c4, ?_⟩
                | refine ⟨_, c5, ?_⟩
                | refine ⟨_, c6, ?_⟩
                | refine ⟨_, c7, ?_⟩
                | refine ⟨_, c8, ?_⟩
                | refine ⟨_, c9, ?_⟩
                | refine ⟨_, c10, ?_⟩
                | refine ⟨_, c0, ?_⟩
                | refine iteT rfl ?_
                | refine iteF rfl ?_
                | refine iteF (congrArg Bool.not s1) ?_
                | refine iteF (congrArg Bool.not s5) ?_
                | refine iteT s2 ?_
                | refine iteT s6 ?_)
      all_goals rfl
end Go.Proofs.YtkcnchlahhlkfaaDoor.AM
