/- Tokens: messages, tags, what is minted and verified. -/
import Derived.Test.YtgdpmnkmllelmaapTokS
import Derived.Test.YtgdpmnkmllelmaaMacD
namespace Go.Proofs.Ytgdpmnkmllelmaa.AM
open Go Go.Proofs
set_option maxRecDepth 100000

abbrev dv20 (l : List Int) : PV := .arr 20 ush (bv l)
def tagD (k m : List Int) : List Int := ofB (mixK k 92 ++ ofB (mixK k 54 ++ m))
theorem tagD_byt (k m : List Int) : byt (tagD k m) := ofB_byt _
theorem tagD_len (k m : List Int) : (tagD k m).length = 32 := rfl
theorem mac_tag {k m : List Int} (hk : k.length ≤ 200) (hm : m.length ≤ 127936) : macD k m = tagD k m ∧ inE k m = 0 :=
  ⟨by unfold macD tagD; rw [if_neg (by omega)], by unfold inE; rw [if_neg (by omega)]⟩
theorem msgT_byt (t : Tk) : byt (msgT t) := byt_append (byt_append (bytesU_byt8 _ _) (bytesU_byt8 _ _)) (byt_append (bytesU_byt8 _ _) (bytesU_byt8 _ _))
theorem f77_ok (t : Tk) (h : t.ok) : Fn Try.prog X.G 77 [.p (tkv t)] (.p (dv20 (msgT t))) := by
  refine Fn.intro (I := []) hX hm 0 Try.func77 rfl rfl (by kernel_rfl) rfl ?_
  have c := f87_ok t h
  have hl := bytesT_len h
  have e : List.take 20 (List.drop 0 (bv (bytesT t))) = bv (msgT t) := by
    rw [List.drop_zero, bytesT, bv_app, List.take_left' (by rw [List.length_map, msgT_len])]
  have z1 : (20 : Int) ≤ ((bv (bytesT t)).length : Int) := by rw [List.length_map, hl]; decide
  have y1 := decide_eq_true z1
  generalize bytesT t = b at *
  conv => whnf
  refine ⟨_, c, ?_⟩
  conv => whnf
  iterate 2 (conv => arg 2; repeat (first | rw [y1] | rw [leT z1] | (whnf; arg 2))
             conv => whnf)
  show some (AV.p (.arr 20 ush (List.take 20 (List.drop 0 (bv b))))) = some (.p (dv20 (msgT t)))
  rw [e]
def bareT (t : Tk) : Tk := ⟨t.t, t.u, t.e, t.x, zd⟩
def mintT (k : List Int) (t : Tk) : Tk := ⟨t.t, t.u, t.e, t.x, tagD k (msgT t)⟩
theorem bareT_ok {t : Tk} (h : t.ok) : (bareT t).ok := ⟨h.t, h.u, h.e, h.x, ⟨rfl, fun x hx => by rw [bareT, List.mem_replicate] at hx; rw [hx.2]; decide⟩⟩
theorem mint_ok {k : List Int} {t : Tk} (h : t.ok) : (mintT k t).ok := ⟨h.t, h.u, h.e, h.x, ⟨tagD_len _ _, tagD_byt _ _⟩⟩
def verE (k : List Int) (t : Tk) : Int := if tagD k (msgT t) = t.d then 0 else 22
def valE (k : List Int) (t : Tk) (y : Int) : Int := if tagD k (msgT t) = t.d then (if y > t.x then 24 else 0) else 22
end Go.Proofs.Ytgdpmnkmllelmaa.AM
