/- Keys: commands signed, frames looked at, the chapter's example (KeyB, KeyC, KeyD in one text: a claim has at most 60 files). -/
import Derived.Test.YtkcnchlahhlkfaaDoorKeyA
import Derived.Test.YtkcnchlahhlkfaaDoorpFrameP
namespace Go.Proofs.YtkcnchlahhlkfaaDoor.AM
open Go Go.Proofs
set_option maxRecDepth 100000

theorem msgC_byt {c : Cm} (hc : c.ok) : byt (msgC c) := by
  have h1 : byt [2, c.op] := fun x hx => by
    simp only [List.mem_cons, List.not_mem_nil, or_false] at hx
    rcases hx with rfl | rfl
    · decide
    · exact hc.op
  have h2 : byt [c.us, c.en] := fun x hx => by
    simp only [List.mem_cons, List.not_mem_nil, or_false] at hx
    rcases hx with rfl | rfl
    · exact hc.us
    · exact hc.en
  unfold msgC
  repeat' first | exact h1 | exact h2 | exact bytesU_byt8 _ _ | apply byt_append
theorem cmdD_len (s : List Int) : (cmdD s).length = 32 := tagD_len _ _
theorem cmdD_byt (s : List Int) : byt (cmdD s) := tagD_byt _ _
def sgD (s : List Int) (c : Cm) : List Int := tagD (cmdD s) (msgC c)
def withD (c : Cm) (d : List Int) : Cm := ⟨c.op, c.t, c.u, c.l0, c.l1, c.l2, c.us, c.en, c.x, d⟩
def signC (s : List Int) (c : Cm) : Cm := if okC c then withD c (sgD s c) else c00
def signE (c : Cm) : Int := if okC c then 0 else 8
theorem f82_ok (s : List Int) (c : Cm) (hs : byt s) (ls : s.length = 32) (hc : c.ok) (h : okC c) : Fn Tryd.prog X.G 82 [.p (dv s), .p (cmv c)] (.p (dv (sgD s c))) := by
  refine Fn.intro (I := []) hX hm 0 Tryd.func82 rfl rfl (by kernel_rfl) rfl ?_
  have c1 := f30_ok s hs ls
  have c2 := f115_ok c
  rw [msgCw_eq hc h] at c2
  have lk := cmdD_len s
  have c3 := f74_ok (cmdD s) (msgC c) (cmdD_byt s) (msgC_byt hc) (by omega) (by rw [msgC_len]; decide)
  unfold sgD tagD
  rw [show bvs (cmdD s) = .ro ush (((bv (cmdD s)).drop 0).take 32) from by rw [List.drop_zero, List.take_of_length_le (by rw [List.length_map, lk]; omega)]] at c3
  generalize ofB (mixK (cmdD s) 92 ++ ofB (mixK (cmdD s) 54 ++ msgC c)) = d at *
  generalize msgC c = m at *
  generalize cmdD s = k at *
  conv => whnf
  refine ⟨_, c1, ?_⟩
  conv => whnf
  refine ⟨_, c2, ?_⟩
  conv => whnf
  refine ⟨_, c3, ?_⟩
  rfl
theorem f45_ok (s : List Int) (c : Cm) (hs : byt s) (ls : s.length = 32) (hc : c.ok) : Fn Tryd.prog X.G 45 [.p (dv s), .p (cmv c)] (.tup [.p (cmv (signC s c)), .p (.i .i64 (signE c))]) := by
  refine Fn.intro (I := []) hX hm 0 Tryd.func45 rfl rfl (by kernel_rfl) rfl ?_
  have c1 := f51_ok c hc
  have c2 := f29_ok s hs ls
  have lk := cmdD_len s
  have c3 := f39_ok (cmdD s) (msgC c) (cmdD_byt s) (msgC_byt hc) (by rw [msgC_len]; decide)
  rw [(mac_tag (k := cmdD s) (m := msgC c) (by omega) (by rw [msgC_len]; decide)).1, (mac_tag (k := cmdD s) (m := msgC c) (by omega) (by rw [msgC_len]; decide)).2] at c3
  rw [show bvs (cmdD s) = .ro ush (((bv (cmdD s)).drop 0).take 32) from by rw [List.drop_zero, List.take_of_length_le (by rw [List.length_map, lk]; omega)]] at c3
  unfold befC befE at c1
  unfold signC signE sgD
  by_cases h : okC c
  · rw [if_pos h, if_pos h] at c1
    rw [if_pos h, if_pos h]
    generalize tagD (cmdD s) (msgC c) = d at *
    generalize msgC c = m at *
    generalize cmdD s = k at *
    conv => whnf
    refine ⟨_, c1, ?_⟩
    conv => whnf
    refine iteF rfl ?_
    conv => whnf
    refine ⟨_, c2, ?_⟩
    conv => whnf
    refine ⟨_, c3, ?_⟩
    rfl
  · rw [if_neg h, if_neg h] at c1
    rw [if_neg h, if_neg h]
    conv => whnf
    refine ⟨_, c1, ?_⟩
    conv => whnf
    refine iteT rfl ?_
    rfl
theorem f46_ok (s : List Int) (c : Cm) (hs : byt s) (ls : s.length = 32) (hc : c.ok) : Fn Tryd.prog X.G 46 [.p (dv s), .p (cmv c)] (.tup [.p (cmv (signC s c)), .p (.i .i64 (signE c))]) := by
  refine Fn.intro (I := []) hX hm 0 Tryd.func46 rfl rfl (by kernel_rfl) rfl ?_
  have c1 := f60_ok c hc
  unfold isC at c1
  unfold signC signE
  by_cases h : okC c
  · have c2 := f82_ok s c hs ls hc h
    rw [decide_eq_true h] at c1
    rw [if_pos h, if_pos h]
    generalize sgD s c = d at *
    conv => whnf
    refine ⟨_, c1, ?_⟩
    conv => whnf
    refine iteT rfl ?_
    conv => whnf
    refine ⟨_, c2, ?_⟩
    rfl
  · rw [decide_eq_false h] at c1
    rw [if_neg h, if_neg h]
    conv => whnf
    refine ⟨_, c1, ?_⟩
    conv => whnf
    refine iteF rfl ?_
    rfl

def trueB (s : List Int) (f : Fr) : Bool := if f.k = 2 then decide (sgD s f.cm = f.cm.d) else (isK f.tk.t f.tk.e && decide (tagD (tagD s (keyM f.tk.t f.tk.e)) (msgT f.tk) = f.tk.d))
def rightB (s : List Int) (f : Fr) : Bool := if okF f then trueB s f else false
theorem okF_C {f : Fr} (h : okF f) (hk : f.k = 2) : okC f.cm := by
  unfold okF at h
  simp_all
theorem sgD_len (s : List Int) (c : Cm) : (sgD s c).length = 32 := tagD_len _ _
theorem sgD_byt (s : List Int) (c : Cm) : byt (sgD s c) := tagD_byt _ _
theorem f83_ok (s : List Int) (f : Fr) (hs : byt s) (ls : s.length = 32) (hf : f.ok) (h : okF f) : Fn Tryd.prog X.G 83 [.p (dv s), .p (frv f)] (.p (.b (trueB s f))) := by
  refine Fn.intro (I := []) hX hm 0 Tryd.func83 rfl rfl (by kernel_rfl) rfl ?_
  unfold trueB
  by_cases hk : f.k = 2
  · have c1 := f82_ok s f.cm hs ls hf.cm (okF_C h hk)
    have hsm := same_dv f.cm.d (sgD s f.cm)
    rw [if_pos hk]
    generalize sgD s f.cm = d at *
    conv => whnf
    refine iteT (by simpa using hk) ?_
    conv => whnf
    refine ⟨_, c1, ?_⟩
    by_cases he : d = f.cm.d
    · rw [decide_eq_true he]
      rw [decide_eq_true he.symm] at hsm
      conv => whnf
      refine iteT hsm ?_
      rfl
    · rw [decide_eq_false he]
      rw [decide_eq_false (Ne.symm he)] at hsm
      conv => whnf
      refine iteF hsm ?_
      rfl
  · have c1 := f52_ok f.tk.t f.tk.e
    have c2 := f73_ok s f.tk.t f.tk.e hs ls hf.tk.t hf.tk.e
    have c3 := f36_ok (tagD s (keyM f.tk.t f.tk.e)) f.tk (tagD_byt _ _) (tagD_len _ _) hf.tk
    unfold verE at c3
    rw [if_neg hk]
    generalize isK f.tk.t f.tk.e = p at *
    generalize tagD s (keyM f.tk.t f.tk.e) = k at *
    generalize tagD k (msgT f.tk) = d at *
    cases p
    · conv => whnf
      refine iteF (by simpa using hk) ?_
      conv => whnf
      refine ⟨_, c1, ?_⟩
      conv => whnf
      refine iteF rfl ?_
      rfl
    · by_cases he : d = f.tk.d
      all_goals
        first | rw [if_pos he] at c3; rw [decide_eq_true he] | rw [if_neg he] at c3; rw [decide_eq_false he]
        conv => whnf
        refine iteF (by simpa using hk) ?_
        conv => whnf
        refine ⟨_, c1, ?_⟩
        conv => whnf
        refine iteT rfl ?_
        conv => whnf
        refine ⟨_, c2, ?_⟩
        conv => whnf
        refine ⟨_, c3, ?_⟩
        conv => whnf
        first | refine iteT rfl ?_ | refine iteF rfl ?_
        rfl
theorem f47_ok (s : List Int) (f : Fr) (hs : byt s) (ls : s.length = 32) (hf : f.ok) : Fn Tryd.prog X.G 47 [.p (dv s), .p (frv f)] (.tup [.p (.b (rightB s f)), .p (.i .i64 (chkFr f))]) := by
  refine Fn.intro (I := []) hX hm 0 Tryd.func47 rfl rfl (by kernel_rfl) rfl ?_
  have c1 := f17_ok f hf
  unfold chkFr at c1
  unfold chkFr rightB
  by_cases h : okF f
  · have c2 := f83_ok s f hs ls hf h
    rw [if_pos h] at c1
    rw [if_pos h, if_pos h]
    generalize trueB s f = b at *
    conv => whnf
    refine ⟨_, c1, ?_⟩
    conv => whnf
    refine iteF rfl ?_
    conv => whnf
    refine ⟨_, c2, ?_⟩
    cases b
    all_goals
      conv => whnf
      first | refine iteT rfl ?_ | refine iteF rfl ?_
      rfl
  · rw [if_neg h] at c1
    rw [if_neg h, if_neg h]
    conv => whnf
    refine ⟨_, c1, ?_⟩
    conv => whnf
    refine iteT rfl ?_
    rfl
theorem f19_ok (s : List Int) (f : Fr) (hs : byt s) (ls : s.length = 32) (hf : f.ok) : Fn Tryd.prog X.G 19 [.p (dv s), .p (frv f)] (.tup [.p (.b (rightB s f)), .p (.i .i64 (chkFr f))]) := by
  refine Fn.intro (I := []) hX hm 0 Tryd.func19 rfl rfl (by kernel_rfl) rfl ?_
  have c1 := f63_ok f hf
  unfold chkFr at c1
  unfold chkFr rightB
  by_cases h : okF f
  · rw [if_pos h] at c1
    rw [if_pos h, if_pos h]
    unfold trueB
    by_cases hk : f.k = 2
    · have c2 := f45_ok s f.cm hs ls hf.cm
      have ho := okF_C h hk
      unfold signC signE withD at c2
      rw [if_pos ho, if_pos ho] at c2
      have c3 := f53_ok (sgD s f.cm) f.cm.d (sgD_len _ _) hf.cm.d.1 (sgD_byt _ _) hf.cm.d.2
      rw [if_pos hk]
      generalize sgD s f.cm = d at *
      generalize decide (d = f.cm.d) = b at *
      conv => whnf
      refine ⟨_, c1, ?_⟩
      conv => whnf
      refine iteF rfl ?_
      conv => whnf
      refine iteT (by simpa using hk) ?_
      conv => whnf
      refine ⟨_, c2, ?_⟩
      conv => whnf
      refine ⟨_, c3, ?_⟩
      cases b
      all_goals
        conv => whnf
        first | refine iteT rfl ?_ | refine iteF rfl ?_
        rfl
    · have c2 := f25_ok s f.tk.t f.tk.e hs ls hf.tk.t hf.tk.e
      have c3 := f35_ok (tagD s (keyM f.tk.t f.tk.e)) f.tk (tagD_byt _ _) (tagD_len _ _) hf.tk
      unfold verE at c3
      unfold keyD keyE at c2
      rw [if_neg hk]
      generalize isK f.tk.t f.tk.e = p at *
      generalize tagD s (keyM f.tk.t f.tk.e) = k at *
      generalize tagD k (msgT f.tk) = d at *
      cases p
      · rw [if_neg (by decide), if_neg (by decide)] at c2
        conv => whnf
        refine ⟨_, c1, ?_⟩
        conv => whnf
        refine iteF rfl ?_
        conv => whnf
        refine iteF (by simpa using hk) ?_
        conv => whnf
        refine ⟨_, c2, ?_⟩
        conv => whnf
        refine iteF rfl ?_
        rfl
      · rw [if_pos rfl, if_pos rfl] at c2
        by_cases he : d = f.tk.d
        all_goals
          first | rw [if_pos he] at c3; rw [decide_eq_true he] | rw [if_neg he] at c3; rw [decide_eq_false he]
          conv => whnf
          refine ⟨_, c1, ?_⟩
          conv => whnf
          refine iteF rfl ?_
          conv => whnf
          refine iteF (by simpa using hk) ?_
          conv => whnf
          refine ⟨_, c2, ?_⟩
          conv => whnf
          refine iteT rfl ?_
          conv => whnf
          refine ⟨_, c3, ?_⟩
          conv => whnf
          first | refine iteT rfl ?_ | refine iteF rfl ?_
          rfl
  · rw [if_neg h] at c1
    rw [if_neg h, if_neg h]
    conv => whnf
    refine ⟨_, c1, ?_⟩
    conv => whnf
    refine iteT rfl ?_
    rfl
set_option maxHeartbeats 4000000 in
theorem f11_ok (s : List Int) (c : Cm) (f : Fr) (hs : byt s) (ls : s.length = 32) (hc : c.ok) (hf : f.ok) : Fn Tryd.prog X.G 11 [.p (dv s), .p (cmv c), .p (frv f)] (.p (.b true)) := by
  refine Fn.intro (I := []) hX hm 0 Tryd.func11 rfl rfl (by kernel_rfl) rfl ?_
  have c1 := f45_ok s c hs ls hc
  have c2 := f46_ok s c hs ls hc
  have c3 := f19_ok s f hs ls hf
  have c4 := f47_ok s f hs ls hf
  have hsm := same_cm (signC s c) (signC s c)
  rw [decide_eq_true rfl] at hsm
  generalize signC s c = w at *
  generalize signE c = e at *
  generalize rightB s f = b at *
  generalize chkFr f = q at *
  cases b
  all_goals
    conv => whnf
    refine ⟨_, c1, ?_⟩
    repeat' (conv => whnf
             first
              | refine ⟨_, c2, ?_⟩
              | refine ⟨_, c3, ?_⟩
              | refine ⟨_, c4, ?_⟩
              | refine iteT hsm ?_
              | refine iteT rfl ?_
              | refine iteF rfl ?_
              | refine iteT (beq_self_eq_true _) ?_)
  all_goals rfl

def rqF (t : Tk) (e c : Int) : Fr := ⟨1, t, e, c, c00⟩
def cmF (c : Cm) : Fr := ⟨2, t0T, 0, 0, c⟩
theorem f49_ok (t : Tk) (e c : Int) : Fn Tryd.prog X.G 49 [.p (tkv t), .p (.i .u16 e), .p (.i .u32 c)] (.p (frv (rqF t e c))) := by
  refine Fn.intro (I := []) hX hm 0 Tryd.func49 rfl rfl (by kernel_rfl) rfl ?_
  conv => whnf
  rfl
theorem f48_ok (c : Cm) : Fn Tryd.prog X.G 48 [.p (cmv c)] (.p (frv (cmF c))) := by
  refine Fn.intro (I := []) hX hm 0 Tryd.func48 rfl rfl (by kernel_rfl) rfl ?_
  conv => whnf
  rfl
def kA : List Int := tagD zd (keyM 1 2)
def kB : List Int := tagD zd (keyM 1 3)
def tA : Tk := ⟨1, 9, 2, 77, zd⟩
def tB (d : List Int) : Tk := ⟨1, 9, 3, 77, d⟩
def dA : List Int := tagD kA (msgT tA)
theorem tA_ok : tA.ok := ⟨by decide, by decide, by decide, by decide, ⟨rfl, zd_byt⟩⟩
theorem c00_ok : c00.ok := ⟨by decide, by decide, by decide, ⟨by decide, by decide, by decide⟩, ⟨by decide, by decide, by decide⟩, ⟨by decide, by decide, by decide⟩, by decide, by decide, by decide, ⟨rfl, zd_byt⟩⟩
theorem rqF_ok {t : Tk} {e c : Int} (ht : t.ok) (he : 0 ≤ e ∧ e < 65536) (hc : 0 ≤ c ∧ c < 4294967296) : (rqF t e c).ok := ⟨by show (0 : Int) ≤ 1 ∧ (1 : Int) < 256; decide, ht, he, hc, c00_ok⟩
theorem okF_rq {t : Tk} {e c : Int} (h : t.t < 16) : okF (rqF t e c) := Or.inl ⟨rfl, rfl, h⟩
theorem rightB_rq (s : List Int) (t : Tk) (e c : Int) (h : t.t < 16) : rightB s (rqF t e c) = (isK t.t t.e && decide (tagD (tagD s (keyM t.t t.e)) (msgT t) = t.d)) := by
  unfold rightB trueB
  rw [if_pos (okF_rq h), if_neg (show ¬ (rqF t e c).k = 2 by show ¬ (1 : Int) = 2; decide)]
  rfl
theorem chk_rq (t : Tk) (e c : Int) (h : t.t < 16) : chkFr (rqF t e c) = 0 := by unfold chkFr; rw [if_pos (okF_rq h)]
theorem exB : decide (tagD kB (msgT (tB dA)) = dA) = false := by kernel_rfl
theorem mac9 : keyM 1 2 = [107, 0, 0, 0, 1, 0, 0, 0, 2] := by kernel_rfl
set_option maxHeartbeats 4000000 in
theorem f50_ok : Fn Tryd.prog X.G 50 [] (.p (.b true)) := by
  refine Fn.intro (I := []) hX hm 0 Tryd.func50 rfl rfl (by kernel_rfl) rfl ?_
  have c1 := f25_ok zd 1 2 zd_byt rfl (by decide) (by decide)
  rw [show keyD zd 1 2 = kA from rfl, show keyE 1 2 = 0 from rfl] at c1
  have c2 := f39_ok zd (keyM 1 2) zd_byt (keyM_byt 1 2) (by rw [keyM_len]; decide)
  rw [(mac_tag (k := zd) (m := keyM 1 2) (by decide) (by rw [keyM_len]; decide)).1, (mac_tag (k := zd) (m := keyM 1 2) (by decide) (by rw [keyM_len]; decide)).2, show tagD zd (keyM 1 2) = kA from rfl, mac9] at c2
  have c3 := f27_ok zd tA zd_byt rfl tA_ok
  rw [show mintK zd tA = ⟨1, 9, 2, 77, dA⟩ from rfl, show keyE tA.t tA.e = 0 from rfl] at c3
  have hd : dA.length = 32 ∧ byt dA := ⟨tagD_len _ _, tagD_byt _ _⟩
  have c4 := f49_ok ⟨1, 9, 2, 77, dA⟩ 0 0
  have c5 := f19_ok zd (rqF ⟨1, 9, 2, 77, dA⟩ 0 0) zd_byt rfl (rqF_ok ⟨by decide, by decide, by decide, by decide, hd⟩ (by decide) (by decide))
  rw [rightB_rq _ _ _ _ (by decide), chk_rq _ _ _ (by decide)] at c5
  rw [show (isK (1 : Int) 2 && decide (tagD (tagD zd (keyM 1 2)) (msgT ⟨1, 9, 2, 77, dA⟩) = dA)) = true from by rw [show tagD (tagD zd (keyM 1 2)) (msgT ⟨1, 9, 2, 77, dA⟩) = dA from rfl, decide_eq_true rfl]; rfl] at c5
  have c6 := f49_ok (tB dA) 0 0
  have c7 := f19_ok zd (rqF (tB dA) 0 0) zd_byt rfl (rqF_ok ⟨by decide, by decide, by decide, by decide, hd⟩ (by decide) (by decide))
  rw [rightB_rq _ _ _ _ (by decide), chk_rq _ _ _ (by decide)] at c7
  rw [show (isK (tB dA).t (tB dA).e && decide (tagD (tagD zd (keyM (tB dA).t (tB dA).e)) (msgT (tB dA)) = (tB dA).d)) = false from by rw [show decide (tagD (tagD zd (keyM (tB dA).t (tB dA).e)) (msgT (tB dA)) = (tB dA).d) = false from exB, Bool.and_false]] at c7
  have c8 := f25_ok zd 16 2 zd_byt rfl (by decide) (by decide)
  rw [show keyD zd 16 2 = zd from rfl, show keyE 16 2 = 2 from rfl] at c8
  have hk := same_dvT kA
  unfold tB at c6 c7
  generalize dA = d at *
  generalize kA = k at *
  conv => whnf
  refine ⟨_, c1, ?_⟩
  repeat' (conv => whnf
           first
            | refine ⟨_, c2, ?_⟩
            | refine ⟨_, c3, ?_⟩
            | refine ⟨_, c4, ?_⟩
            | refine ⟨_, c5, ?_⟩
            | refine ⟨_, c6, ?_⟩
            | refine ⟨_, c7, ?_⟩
            | refine ⟨_, c8, ?_⟩
            | refine iteT hk ?_
            | refine iteT rfl ?_
            | refine iteF rfl ?_)
  all_goals rfl
end Go.Proofs.YtkcnchlahhlkfaaDoor.AM
