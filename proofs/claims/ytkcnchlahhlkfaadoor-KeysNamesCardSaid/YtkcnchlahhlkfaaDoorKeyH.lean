/- Keys: KeysNames: the walk of the law. -/
import Derived.Test.YtkcnchlahhlkfaaDoorKeyX
namespace Go.Proofs.YtkcnchlahhlkfaaDoor.AM
open Go Go.Proofs
set_option maxRecDepth 100000

def s5 : List Int := [1, 0, 0, 0, 0, 0, 0, 0, 0, 0, 0, 0, 0, 0, 0, 0, 0, 0, 0, 0, 0, 0, 0, 0, 0, 0, 0, 0, 0, 0, 0, 2]
def d9 : List Int := [9, 0, 0, 0, 0, 0, 0, 0, 0, 0, 0, 0, 0, 0, 0, 0, 0, 0, 0, 0, 0, 0, 0, 0, 0, 0, 0, 0, 0, 0, 0, 0]
def dK : List Int := [216, 196, 128, 119, 49, 204, 172, 8, 143, 65, 15, 154, 16, 118, 85, 166, 21, 199, 46, 91, 123, 55, 13, 234, 198, 155, 77, 45, 43, 78, 19, 188]
def dK' : List Int := [217, 196, 128, 119, 49, 204, 172, 8, 143, 65, 15, 154, 16, 118, 85, 166, 21, 199, 46, 91, 123, 55, 13, 234, 198, 155, 77, 45, 43, 78, 19, 188]
theorem rng {a b n : Int} (h : (decide (a ≤ n) && decide (n < b)) = true) : a ≤ n ∧ n < b := by simpa using h
theorem s5_byt : byt s5 := byt_allT rfl
def cR (d : List Int) : Cm := ⟨5, 4, 5, l00, l00, l00, 0, 0, 0, d⟩
def cD : Cm := ⟨2, 16, 0, l00, l00, l00, 0, 0, 0, zd⟩
theorem l00_ok : l00.ok := ⟨by decide, by decide, by decide⟩
theorem cR_ok {d : List Int} (h : d.length = 32) (hd : byt d) : (cR d).ok := ⟨rng rfl, rng rfl, rng rfl, l00_ok, l00_ok, l00_ok, rng rfl, rng rfl, rng rfl, ⟨h, hd⟩⟩
theorem cD_ok : cD.ok := ⟨by decide, by decide, by decide, l00_ok, l00_ok, l00_ok, by decide, by decide, by decide, ⟨rfl, zd_byt⟩⟩
def tN (n e : Int) (d : List Int) : Tk := ⟨n, 4294967295, e, 18446744073709551615, d⟩
theorem sg_k : sgD s5 (cR d9) = dK := by kernel_rfl
theorem sg_k1 : sgD s5 (cR dK) = dK := by kernel_rfl
theorem sg_k2 : sgD s5 (cR dK') = dK := by kernel_rfl
theorem okR (d : List Int) : okC (cR d) := by
  have h : okC (cR d9) := by decide
  exact h
theorem sign1 : signC s5 (cR d9) = cR dK := by
  unfold signC
  rw [if_pos (okR _), sg_k]
  rfl
theorem signE1 : signE (cR d9) = 0 := by unfold signE; rw [if_pos (okR _)]
theorem notC0 : ¬ okC c00 := by decide
theorem notCD : ¬ okC cD := by decide
theorem okF_R (d : List Int) : okF (cmF (cR d)) := Or.inr ⟨rfl, ⟨rfl, rfl, rfl⟩, okR d⟩
theorem true_R (d : List Int) : trueB s5 (cmF (cR d)) = decide (sgD s5 (cR d) = d) := by
  unfold trueB
  rw [if_pos (show (cmF (cR d)).k = 2 from rfl)]
  rfl
set_option maxHeartbeats 8000000 in
theorem f12_ok : Fn Tryd.prog X.G 12 [] (.p (.b true)) := by
  refine Fn.intro (I := []) hX hm 0 Tryd.func12 rfl rfl (by kernel_rfl) rfl ?_
  have c0 := f50_ok
  have z0 : ∀ n, 0 ≤ n → n < 4294967296 → (0 : Int) ≤ n ∧ n < 4294967296 := fun _ h1 h2 => ⟨h1, h2⟩
  have c1 := f25_ok s5 15 1000000 s5_byt rfl (by decide) (by decide)
  rw [show keyD s5 15 1000000 = tagD s5 (keyM 15 1000000) from rfl, show keyE 15 1000000 = 0 from rfl] at c1
  have c2 := f25_ok s5 15 1000001 s5_byt rfl (by decide) (by decide)
  rw [show keyD s5 15 1000001 = zd from rfl, show keyE 15 1000001 = 2 from rfl] at c2
  have c3 := f25_ok s5 4294967295 0 s5_byt rfl (by decide) (by decide)
  rw [show keyD s5 4294967295 0 = zd from rfl, show keyE 4294967295 0 = 2 from rfl] at c3
  have c4 := f27_ok s5 (tN 0 0 zd) s5_byt rfl ⟨by decide, by decide, by decide, by decide, ⟨rfl, zd_byt⟩⟩
  rw [show mintK s5 (tN 0 0 zd) = tN 0 0 (tagD (tagD s5 (keyM 0 0)) (msgT (tN 0 0 zd))) from rfl, show keyE (tN 0 0 zd).t (tN 0 0 zd).e = 0 from rfl] at c4
  have c5 := f27_ok s5 ⟨16, 0, 0, 0, zd⟩ s5_byt rfl ⟨by decide, by decide, by decide, by decide, ⟨rfl, zd_byt⟩⟩
  rw [show mintK s5 ⟨16, 0, 0, 0, zd⟩ = t0T from rfl, show keyE (Tk.mk 16 0 0 0 zd).t (Tk.mk 16 0 0 0 zd).e = 2 from rfl] at c5
  have c6 := f27_ok s5 ⟨0, 0, 4294967295, 0, zd⟩ s5_byt rfl ⟨by decide, by decide, by decide, by decide, ⟨rfl, zd_byt⟩⟩
  rw [show mintK s5 ⟨0, 0, 4294967295, 0, zd⟩ = t0T from rfl, show keyE (Tk.mk 0 0 4294967295 0 zd).t (Tk.mk 0 0 4294967295 0 zd).e = 2 from rfl] at c6
  have c7 := f45_ok s5 (cR d9) s5_byt rfl (cR_ok rfl (byt_allT rfl))
  rw [sign1, signE1] at c7
  have c8 := f45_ok s5 c00 s5_byt rfl c00_ok
  unfold signC signE at c8
  rw [if_neg notC0, if_neg notC0] at c8
  have c9 := f45_ok s5 cD s5_byt rfl cD_ok
  unfold signC signE at c9
  rw [if_neg notCD, if_neg notCD] at c9
  have c10 := f48_ok (cR dK)
  have hCf : ∀ d, d.length = 32 → byt d → (cmF (cR d)).ok := fun d h1 h2 => ⟨rng rfl, ⟨rng rfl, rng rfl, rng rfl, rng rfl, ⟨rfl, zd_byt⟩⟩, rng rfl, rng rfl, cR_ok h1 h2⟩
  have c11 := f19_ok s5 (cmF (cR dK)) s5_byt rfl (hCf _ rfl (byt_allT rfl))
  have hr : ∀ d, rightB s5 (cmF (cR d)) = decide (sgD s5 (cR d) = d) := fun d => by unfold rightB; rw [if_pos (okF_R d), true_R]
  have hcR : ∀ d, chkFr (cmF (cR d)) = 0 := fun d => by unfold chkFr; rw [if_pos (okF_R d)]
  rw [hr, hcR, sg_k1, decide_eq_true rfl] at c11
  have c12 := f48_ok (cR dK')
  have c13 := f19_ok s5 (cmF (cR dK')) s5_byt rfl (hCf _ rfl (byt_allT rfl))
  rw [hr, hcR, sg_k2, show decide (dK = dK') = false from rfl] at c13
  have n14 : ¬ okF ⟨0, t0T, 0, 0, c00⟩ := by decide
  have c14 := f19_ok s5 ⟨0, t0T, 0, 0, c00⟩ s5_byt rfl ⟨by decide, ⟨by decide, by decide, by decide, by decide, ⟨rfl, zd_byt⟩⟩, by decide, by decide, c00_ok⟩
  rw [show rightB s5 ⟨0, t0T, 0, 0, c00⟩ = false from by unfold rightB; rw [if_neg n14], show chkFr ⟨0, t0T, 0, 0, c00⟩ = 8 from by unfold chkFr; rw [if_neg n14]] at c14
  have hd : (tagD (tagD s5 (keyM 0 0)) (msgT (tN 0 0 zd))).length = 32 ∧ byt (tagD (tagD s5 (keyM 0 0)) (msgT (tN 0 0 zd))) := ⟨tagD_len _ _, tagD_byt _ _⟩
  generalize tagD (tagD s5 (keyM 0 0)) (msgT (tN 0 0 zd)) = d at *
  have c15 := f49_ok (tN 0 1000001 d) 1 1
  have c16 := f19_ok s5 (rqF (tN 0 1000001 d) 1 1) s5_byt rfl (rqF_ok ⟨rng rfl, rng rfl, rng rfl, rng rfl, hd⟩ (by decide) (by decide))
  rw [rightB_rq _ _ _ _ (show (0 : Int) < 16 by decide), chk_rq _ _ _ (show (0 : Int) < 16 by decide), show isK (tN 0 1000001 d).t (tN 0 1000001 d).e = false from rfl, Bool.false_and] at c16
  have c17 := f49_ok (tN 16 1000001 d) 1 1
  have n18 : ¬ okF (rqF (tN 16 1000001 d) 1 1) := by
    rintro (h | h)
    · exact absurd h.2.2 (show ¬ (16 : Int) < 16 by decide)
    · exact absurd h.1 (show ¬ (1 : Int) = 2 by decide)
  have c18 := f19_ok s5 (rqF (tN 16 1000001 d) 1 1) s5_byt rfl (rqF_ok ⟨rng rfl, rng rfl, rng rfl, rng rfl, hd⟩ (by decide) (by decide))
  rw [show rightB s5 (rqF (tN 16 1000001 d) 1 1) = false from by unfold rightB; rw [if_neg n18], show chkFr (rqF (tN 16 1000001 d) 1 1) = 8 from by unfold chkFr; rw [if_neg n18]] at c18
  generalize tagD s5 (keyM 15 1000000) = q at *
  conv => whnf
  refine ⟨_, c1, ?_⟩
  conv => whnf
  refine ⟨_, c2, ?_⟩
  conv => whnf
  refine ⟨_, c3, ?_⟩
  conv => whnf
  refine ⟨_, c4, ?_⟩
  conv => whnf
  refine ⟨_, c5, ?_⟩
  conv => whnf
  refine ⟨_, c6, ?_⟩
  conv => whnf
  refine ⟨_, c7, ?_⟩
  conv => whnf
  refine ⟨_, c8, ?_⟩
  conv => whnf
  refine ⟨_, c9, ?_⟩
  conv => whnf
  refine ⟨_, c10, ?_⟩
  conv => whnf
  refine ⟨_, c11, ?_⟩
  conv => whnf
  refine ⟨_, c12, ?_⟩
  conv => whnf
  refine ⟨_, c13, ?_⟩
  conv => whnf
  refine ⟨_, c14, ?_⟩
  conv => whnf
  refine ⟨_, c15, ?_⟩
  conv => whnf
  refine ⟨_, c16, ?_⟩
  conv => whnf
  refine ⟨_, c17, ?_⟩
  conv => whnf
  refine ⟨_, c18, ?_⟩
  repeat' (conv => whnf
           first
            | refine ⟨_, c0, ?_⟩
            | refine iteT rfl ?_
            | refine iteF rfl ?_)
  all_goals rfl
end Go.Proofs.YtkcnchlahhlkfaaDoor.AM
