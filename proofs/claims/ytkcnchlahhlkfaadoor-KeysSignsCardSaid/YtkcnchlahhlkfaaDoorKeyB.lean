/- Keys: commands signed, frames looked at; KeysSigns: the walk of the law. -/
import Derived.Test.YtkcnchlahhlkfaaDoorKeyA
import Derived.Test.YtkcnchlahhlkfaaDoorpFrameP
namespace Go.Proofs.YtkcnchlahhlkfaaDoor.AM
open Go Go.Proofs
set_option maxRecDepth 100000

theorem msgC_byt {c : Cm} (hc : c.ok) : byt (msgC c) := by
  have h1 : byt [2, c.op] := fun x hx => by
    simp only [List.mem_cons, List.not_mem_nil, or_false] at hx
    rcases hx with rfl | rfl
    · decide
    · exact hc.op
  have h2 : byt [c.us, c.en] := fun x hx => by
    simp only [List.mem_cons, List.not_mem_nil, or_false] at hx
    rcases hx with rfl | rfl
    · exact hc.us
    · exact hc.en
  unfold msgC
  repeat' first | exact h1 | exact h2 | exact bytesU_byt8 _ _ | apply byt_append
theorem cmdD_len (s : List Int) : (cmdD s).length = 32 := tagD_len _ _
theorem cmdD_byt (s : List Int) : byt (cmdD s) := tagD_byt _ _
def sgD (s : List Int) (c : Cm) : List Int := tagD (cmdD s) (msgC c)
def withD (c : Cm) (d : List Int) : Cm := ⟨c.op, c.t, c.u, c.l0, c.l1, c.l2, c.us, c.en, c.x, d⟩
def signC (s : List Int) (c : Cm) : Cm := if okC c then withD c (sgD s c) else c00
def signE (c : Cm) : Int := if okC c then 0 else 8
theorem f82_ok (s : List Int) (c : Cm) (hs : byt s) (ls : s.length = 32) (hc : c.ok) (h : okC c) : Fn Tryd.prog X.G 82 [.p (dv s), .p (cmv c)] (.p (dv (sgD s c))) := by
  refine Fn.intro (I := []) hX hm 0 Tryd.func82 rfl rfl (by kernel_rfl) rfl ?_
  have c1 := f30_ok s hs ls
  have c2 := f115_ok c
  rw [msgCw_eq hc h] at c2
  have lk := cmdD_len s
  have c3 := f74_ok (cmdD s) (msgC c) (cmdD_byt s) (msgC_byt hc) (by omega) (by rw [msgC_len]; decide)
  unfold sgD tagD
  rw [show bvs (cmdD s) = .ro ush (((bv (cmdD s)).drop 0).take 32) from by rw [List.drop_zero, List.take_of_length_le (by rw [List.length_map, lk]; omega)]] at c3
  generalize ofB (mixK (cmdD s) 92 ++ ofB (mixK (cmdD s) 54 ++ msgC c)) = d at *
  generalize msgC c = m at *
  generalize cmdD s = k at *
  conv => whnf
  refine ⟨_, c1, ?_⟩
  conv => whnf
  refine ⟨_, c2, ?_⟩
  conv => whnf
  refine ⟨_, c3, ?_⟩
  rfl
theorem f45_ok (s : List Int) (c : Cm) (hs : byt s) (ls : s.length = 32) (hc : c.ok) : Fn Tryd.prog X.G 45 [.p (dv s), .p (cmv c)] (.tup [.p (cmv (signC s c)), .p (.i .i64 (signE c))]) := by
  refine Fn.intro (I := []) hX hm 0 Tryd.func45 rfl rfl (by kernel_rfl) rfl ?_
  have c1 := f51_ok c hc
  have c2 := f29_ok s hs ls
  have lk := cmdD_len s
  have c3 := f39_ok (cmdD s) (msgC c) (cmdD_byt s) (msgC_byt hc) (by rw [msgC_len]; decide)
  rw [(mac_tag (k := cmdD s) (m := msgC c) (by omega) (by rw [msgC_len]; decide)).1, (mac_tag (k := cmdD s) (m := msgC c) (by omega) (by rw [msgC_len]; decide)).2] at c3
  rw [show bvs (cmdD s) = .ro ush (((bv (cmdD s)).drop 0).take 32) from by rw [List.drop_zero, List.take_of_length_le (by rw [List.length_map, lk]; omega)]] at c3
  unfold befC befE at c1
  unfold signC signE sgD
  by_cases h : okC c
  · rw [if_pos h, if_pos h] at c1
    rw [if_pos h, if_pos h]
    generalize tagD (cmdD s) (msgC c) = d at *
    generalize msgC c = m at *
    generalize cmdD s = k at *
    conv => whnf
    refine ⟨_, c1, ?_⟩
    conv => whnf
    refine iteF rfl ?_
    conv => whnf
    refine ⟨_, c2, ?_⟩
    conv => whnf
    refine ⟨_, c3, ?_⟩
    rfl
  · rw [if_neg h, if_neg h] at c1
    rw [if_neg h, if_neg h]
    conv => whnf
    refine ⟨_, c1, ?_⟩
    conv => whnf
    refine iteT rfl ?_
    rfl
theorem f46_ok (s : List Int) (c : Cm) (hs : byt s) (ls : s.length = 32) (hc : c.ok) : Fn Tryd.prog X.G 46 [.p (dv s), .p (cmv c)] (.tup [.p (cmv (signC s c)), .p (.i .i64 (signE c))]) := by
  refine Fn.intro (I := []) hX hm 0 Tryd.func46 rfl rfl (by kernel_rfl) rfl ?_
  have c1 := f60_ok c hc
  unfold isC at c1
  unfold signC signE
  by_cases h : okC c
  · have c2 := f82_ok s c hs ls hc h
    rw [decide_eq_true h] at c1
    rw [if_pos h, if_pos h]
    generalize sgD s c = d at *
    conv => whnf
    refine ⟨_, c1, ?_⟩
    conv => whnf
    refine iteT rfl ?_
    conv => whnf
    refine ⟨_, c2, ?_⟩
    rfl
  · rw [decide_eq_false h] at c1
    rw [if_neg h, if_neg h]
    conv => whnf
    refine ⟨_, c1, ?_⟩
    conv => whnf
    refine iteF rfl ?_
    rfl
end Go.Proofs.YtkcnchlahhlkfaaDoor.AM
