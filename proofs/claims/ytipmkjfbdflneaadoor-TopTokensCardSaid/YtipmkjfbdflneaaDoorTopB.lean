/- TopTokens: one token or one command in a new table; the check of the example. -/
import Derived.Test.YtipmkjfbdflneaaDoorIdR
namespace Go.Proofs.YtipmkjfbdflneaaDoor.AM
open Go Go.Proofs
set_option maxRecDepth 100000

theorem one_t {t : Tk} (h : t.t < 16) : pErr ⟨[], []⟩ (tokF t) = 0 ∧ addT ⟨[], []⟩ t = ⟨[t], []⟩ := by
  have hn : ¬ thereP ⟨[], []⟩ (tokF t) := fun h => by obtain ⟨x, hx, _⟩ := there_t.1 h; simp at hx
  have he : pErr ⟨[], []⟩ (tokF t) = 0 := pErr_new (fine_iff.2 fine_nil) (tokF_okF.2 h) hn (by simp [Id.n])
  exact ⟨he, addT_new he hn⟩
theorem one_c {c : Cm} (h : okC c) : pErr ⟨[], []⟩ (comF c) = 0 ∧ addC ⟨[], []⟩ c = ⟨[], [c]⟩ := by
  have hn : ¬ thereP ⟨[], []⟩ (comF c) := fun h => by obtain ⟨x, hx, _⟩ := there_c.1 h; simp at hx
  have he : pErr ⟨[], []⟩ (comF c) = 0 := pErr_new (fine_iff.2 fine_nil) (comF_okF.2 h) hn (by simp [Id.n])
  exact ⟨he, addC_new he hn⟩
theorem one_tf {t : Tk} (h : t.t < 16) : chkI ⟨[t], []⟩ = 0 := by
  have := addT_fine (one_t h).1
  rwa [(one_t h).2] at this
theorem one_cf {c : Cm} (h : okC c) : chkI ⟨[], [c]⟩ = 0 := by
  have := addC_fine (one_c h).1
  rwa [(one_c h).2] at this
theorem one_tok {t : Tk} (h : t.t < 16) (ht : t.ok) : (⟨[t], []⟩ : Id).ok := by have := addT_ok ok_nil ht; rwa [(one_t h).2] at this
theorem one_cok {c : Cm} (h : okC c) (hc : c.ok) : (⟨[], [c]⟩ : Id).ok := by have := addC_ok ok_nil hc; rwa [(one_c h).2] at this
def sA : List Int := 1 :: List.replicate 31 0
def tM : Tk := ⟨2, 3, 4, 5, zd⟩
theorem tM_ok : tM.ok := ⟨rngI rfl, rngI rfl, rngI rfl, rngI rfl, ⟨rfl, byt_of rfl⟩⟩
theorem sA_byt : byt sA := tag_okI (by decide)
theorem mintK_is {s : List Int} {t : Tk} (h : isK t.t t.e = true) : mintK s t = mintT (tagD s (keyM t.t t.e)) t := by unfold mintK; rw [if_pos h]
theorem mintK_okT {s : List Int} {t : Tk} (h : isK t.t t.e = true) (ht : t.ok) : (mintK s t).ok := by
  rw [mintK_is h]
  exact ⟨ht.t, ht.u, ht.e, ht.x, ⟨tagD_len _ _, tagD_byt _ _⟩⟩
theorem right_mint {s : List Int} {t : Tk} (h : isK t.t t.e = true) (h16 : t.t < 16) : rightB s (reqF (mintK s t) 0 0) = true := by
  rw [mintK_is h, rightB_ok (reqF_okF (t := mintT (tagD s (keyM t.t t.e)) t) (en := 0) (co := 0) h16)]
  unfold trueB
  rw [if_neg (show ¬ (reqF (mintT (tagD s (keyM t.t t.e)) t) 0 0).k = 2 from show ¬ (1 : Int) = 2 by decide)]
  show (isK t.t t.e && decide (tagD (tagD s (keyM t.t t.e)) (msgT t) = tagD (tagD s (keyM t.t t.e)) (msgT t))) = true
  rw [h, decide_eq_true rfl]
  rfl
set_option maxHeartbeats 4000000 in
theorem f6_ok : Fn Tryd.prog X.G 6 [] (.p (.b true)) := by
  refine Fn.intro (I := []) hX hm 0 Tryd.func6 rfl rfl (by kernel_rfl) rfl ?_
  have c1 := f20_ok sA tM sA_byt rfl tM_ok
  have hk : isK tM.t tM.e = true := rfl
  have hr := right_mint (s := sA) hk (by decide)
  have hwo := mintK_okT (s := sA) hk tM_ok
  have hw16 : (mintK sA tM).t < 16 := by rw [mintK_is hk]; decide
  rw [show keyE tM.t tM.e = 0 from rfl] at c1
  generalize mintK sA tM = w at *
  have ho := reqF_ok (en := 0) (co := 0) hwo (by decide) (by decide)
  have c2 := f7_ok sA (reqF w 0 0) sA_byt rfl ho
  have hF := reqF_okF (t := w) (en := 0) (co := 0) hw16
  rw [hr, chkFr_ok hF] at c2
  have c3 := f22_ok
  have c4 := f21_ok ⟨[], []⟩ w ok_nil hwo
  rw [(one_t hw16).1, (one_t hw16).2] at c4
  have c5 := f17_ok ⟨[w], []⟩ (reqF w 0 0) (one_tok hw16 hwo) ho
  rw [accB_0 (one_tf hw16) hF, accE_0 (one_tf hw16) hF, sameB_t (same_req.2 (by simp))] at c5
  have c6 := f17_ok ⟨[], []⟩ (reqF w 0 0) ok_nil ho
  rw [accB_0 (fine_iff.2 fine_nil) hF, accE_0 (fine_iff.2 fine_nil) hF, sameB_f (fun h => by have := same_req.1 h; simp at this)] at c6
  conv => whnf
  refine ⟨_, c1, ?_⟩
  conv => whnf
  refine ⟨_, c2, ?_⟩
  conv => whnf
  refine ⟨_, c3, ?_⟩
  conv => whnf
  refine ⟨_, c4, ?_⟩
  conv => whnf
  refine ⟨_, c5, ?_⟩
  conv => whnf
  refine ⟨_, c3, ?_⟩
  conv => whnf
  refine ⟨_, c6, ?_⟩
  iterate 9 (try (conv => whnf
                  first | refine iteT rfl ?_ | refine iteF rfl ?_))
  rfl
end Go.Proofs.YtipmkjfbdflneaaDoor.AM
