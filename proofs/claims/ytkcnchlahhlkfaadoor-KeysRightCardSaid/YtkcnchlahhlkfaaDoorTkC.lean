/- Tokens: TokenOther, TokenLate, TokenBack: the walks of the laws. -/
import Derived.Test.YtkcnchlahhlkfaaDoorTkB
namespace Go.Proofs.YtkcnchlahhlkfaaDoor.AM
open Go Go.Proofs
set_option maxRecDepth 100000

theorem msgT_inj {t u : Tk} (ht : t.ok) (hu : u.ok) (h : msgT t = msgT u) : t.t = u.t ∧ t.u = u.u ∧ t.e = u.e ∧ t.x = u.x := by
  have h1 : bytesT (bareT t) = bytesT (bareT u) := by
    unfold bytesT
    rw [show msgT (bareT t) = msgT t from rfl, show msgT (bareT u) = msgT u from rfl, h]
    rfl
  have h2 := congrArg rdT h1
  rw [rd_bytesT (bareT_ok ht), rd_bytesT (bareT_ok hu)] at h2
  unfold bareT at h2
  injection h2 with e1 e2 e3 e4
  exact ⟨e1, e2, e3, e4⟩
theorem msgT_eq {t u : Tk} (h : t.t = u.t ∧ t.u = u.u ∧ t.e = u.e ∧ t.x = u.x) : msgT t = msgT u := by
  unfold msgT
  rw [h.1, h.2.1, h.2.2.1, h.2.2.2]
theorem mint_eq {k : List Int} {t u : Tk} (h : t.t = u.t ∧ t.u = u.u ∧ t.e = u.e ∧ t.x = u.x) : mintT k t = mintT k u := by
  unfold mintT
  rw [msgT_eq h, h.1, h.2.1, h.2.2.1, h.2.2.2]
set_option maxHeartbeats 4000000 in
theorem f7_ok (t u : Tk) (k : List Int) (hk : byt k) (lk : k.length = 32) (ht : t.ok) (hu : u.ok) :
    Fn Tryd.prog X.G 7 [.p (tkv t), .p (tkv u), .p (dv k)] (.p (.b true)) := by
  refine Fn.intro (I := []) hX hm 0 Tryd.func7 rfl rfl (by kernel_rfl) rfl ?_
  have c1 := f31_ok t ht
  have c2 := f31_ok u hu
  have c3 := f33_ok k t hk lk ht
  have c4 := f33_ok k u hk lk hu
  have c7 := f40_ok
  by_cases h : t.t = u.t ∧ t.u = u.u ∧ t.e = u.e ∧ t.x = u.x
  · rw [← msgT_eq h] at c2
    rw [← mint_eq h] at c4
    generalize mintT k t = w at *
    generalize msgT t = m at *
    conv => whnf
    refine iteT (by simpa using h.1) ?_
    conv => whnf
    refine iteT (by simpa using h.2.1) ?_
    conv => whnf
    refine iteT (by simpa using h.2.2.1) ?_
    conv => whnf
    refine iteT (by simpa using h.2.2.2) ?_
    conv => whnf
    refine ⟨_, c1, ?_⟩
    conv => whnf
    refine ⟨_, c2, ?_⟩
    conv => whnf
    refine iteT ((same_arr 20 m m).trans (decide_eq_true rfl)) ?_
    conv => whnf
    refine ⟨_, c3, ?_⟩
    conv => whnf
    refine ⟨_, c4, ?_⟩
    conv => whnf
    refine iteT (sameT w) ?_
    conv => whnf
    refine ⟨_, c7, ?_⟩
    conv => whnf
    refine iteT rfl ?_
    rfl
  · have hne : msgT t ≠ msgT u := fun e => h (msgT_inj ht hu e)
    generalize mintT k t = w at *
    generalize mintT k u = z at *
    have hs := (same_arr 20 (msgT t) (msgT u)).trans (decide_eq_false hne)
    generalize msgT t = m at *
    generalize msgT u = n at *
    conv => whnf
    refine iteC (fun h1 => ?_) (fun h1 => ?_)
    · conv => whnf
      refine iteC (fun h2 => ?_) (fun h2 => ?_)
      · conv => whnf
        refine iteC (fun h3 => ?_) (fun h3 => ?_)
        · conv => whnf
          refine iteC (fun h4 => ?_) (fun h4 => ?_)
          · exact absurd ⟨by simpa using h1, by simpa using h2, by simpa using h3, by simpa using h4⟩ h
          · conv => whnf
            refine ⟨_, c1, ?_⟩
            conv => whnf
            refine ⟨_, c2, ?_⟩
            conv => whnf
            refine iteF hs ?_
            conv => whnf
            refine ⟨_, c3, ?_⟩
            conv => whnf
            refine ⟨_, c4, ?_⟩
            conv => whnf
            refine ⟨_, c7, ?_⟩
            conv => whnf
            refine iteT rfl ?_
            rfl
        · conv => whnf
          refine ⟨_, c1, ?_⟩
          conv => whnf
          refine ⟨_, c2, ?_⟩
          conv => whnf
          refine iteF hs ?_
          conv => whnf
          refine ⟨_, c3, ?_⟩
          conv => whnf
          refine ⟨_, c4, ?_⟩
          conv => whnf
          refine ⟨_, c7, ?_⟩
          conv => whnf
          refine iteT rfl ?_
          rfl
      · conv => whnf
        refine ⟨_, c1, ?_⟩
        conv => whnf
        refine ⟨_, c2, ?_⟩
        conv => whnf
        refine iteF hs ?_
        conv => whnf
        refine ⟨_, c3, ?_⟩
        conv => whnf
        refine ⟨_, c4, ?_⟩
        conv => whnf
        refine ⟨_, c7, ?_⟩
        conv => whnf
        refine iteT rfl ?_
        rfl
    · conv => whnf
      refine ⟨_, c1, ?_⟩
      conv => whnf
      refine ⟨_, c2, ?_⟩
      conv => whnf
      refine iteF hs ?_
      conv => whnf
      refine ⟨_, c3, ?_⟩
      conv => whnf
      refine ⟨_, c4, ?_⟩
      conv => whnf
      refine ⟨_, c7, ?_⟩
      conv => whnf
      refine iteT rfl ?_
      rfl
set_option maxHeartbeats 4000000 in
theorem f8_ok (k : List Int) (t : Tk) (a b : Int) (hk : byt k) (lk : k.length = 32) (ht : t.ok) :
    Fn Tryd.prog X.G 8 [.p (dv k), .p (tkv t), .p (.i .u64 a), .p (.i .u64 b)] (.p (.b true)) := by
  refine Fn.intro (I := []) hX hm 0 Tryd.func8 rfl rfl (by kernel_rfl) rfl ?_
  have c1 := f37_ok k t a hk lk ht
  have c2 := f37_ok k t b hk lk ht
  have c3 := f33_ok k t hk lk ht
  have c4 := f37_ok k (mintT k t) a hk lk (mint_ok ht)
  unfold mintT at c3 c4
  rw [valE_mk, if_pos rfl] at c4
  have c5 := f35_ok k t hk lk ht
  unfold verE at c5
  have c7 := f40_ok
  unfold valE at c1 c2
  generalize tagD k (msgT t) = d at *
  by_cases he : d = t.d <;> by_cases ha : a > t.x <;> by_cases hb : b > t.x
  all_goals
    first | rw [if_pos he] at c1 c2 c5 | rw [if_neg he] at c1 c2 c5
    first | rw [if_pos ha] at c4 | rw [if_neg ha] at c4
    try first | rw [if_pos ha] at c1 | rw [if_neg ha] at c1
    try first | rw [if_pos hb] at c2 | rw [if_neg hb] at c2
    conv => whnf
    refine ⟨_, c1, ?_⟩
    conv => whnf
    refine ⟨_, c2, ?_⟩
    repeat' (conv => whnf
             first
              | refine ⟨_, c3, ?_⟩
              | refine ⟨_, c4, ?_⟩
              | refine ⟨_, c5, ?_⟩
              | refine ⟨_, c7, ?_⟩
              | refine iteT rfl ?_
              | refine iteF rfl ?_
              | refine iteT (decide_eq_true (by omega)) ?_
              | refine iteF (decide_eq_false (by omega)) ?_
              | refine iteC (fun h => ?_) (fun h => ?_))
  all_goals rfl
end Go.Proofs.YtkcnchlahhlkfaaDoor.AM
