/- Tables: frames of tokens and commands, their messages; where a message stands in a list. -/
import Derived.Test.YtipmkjfbdflneaaDoorTkA
import Derived.Test.YtipmkjfbdflneaaDoorpFrameK
namespace Go.Proofs.YtipmkjfbdflneaaDoor.AM
open Go Go.Proofs
set_option maxRecDepth 100000

def tokF (t : Tk) : Fr := ⟨1, t, 0, 0, c00⟩
def comF (c : Cm) : Fr := ⟨2, t0T, 0, 0, c⟩
abbrev tks (l : List Tk) : AV := .ro tsh (l.map fun t => tkv t)
abbrev cms (l : List Cm) : AV := .ro csh (l.map fun c => cmv c)
theorem f55_ok (t : Tk) : Fn Tryd.prog X.G 55 [.p (tkv t)] (.p (frv (tokF t))) := by
  refine Fn.intro (I := []) hX hm 0 Tryd.func55 rfl rfl (by kernel_rfl) rfl ?_
  conv => whnf
  rfl
theorem f73_ok (c : Cm) : Fn Tryd.prog X.G 73 [.p (cmv c)] (.p (frv (comF c))) := by
  refine Fn.intro (I := []) hX hm 0 Tryd.func73 rfl rfl (by kernel_rfl) rfl ?_
  conv => whnf
  rfl
def bareK (t : Tk) : Tk := ⟨t.t, t.u, t.e, t.x, zd⟩
def plainC (c : Cm) : Cm := ⟨c.op, c.t, c.u, c.l0, c.l1, c.l2, c.us, c.en, c.x, zd⟩
theorem f78_ok (t : Tk) : Fn Tryd.prog X.G 78 [.p (tkv t)] (.p (tkv (bareK t))) := by
  refine Fn.intro (I := []) hX hm 0 Tryd.func78 rfl rfl (by kernel_rfl) rfl ?_
  conv => whnf
  rfl
theorem f77_ok (c : Cm) : Fn Tryd.prog X.G 77 [.p (cmv c)] (.p (cmv (plainC c))) := by
  refine Fn.intro (I := []) hX hm 0 Tryd.func77 rfl rfl (by kernel_rfl) rfl ?_
  conv => whnf
  rfl
def msgF (f : Fr) : List Int := if f.k = 2 then befC f.cm else msgT f.tk
def strF (f : Fr) : ByteArray := strOf (bv (msgF f))
theorem f76_ok (f : Fr) (hf : f.ok) : Fn Tryd.prog X.G 76 [.p (frv f)] (.p (.str (strF f))) := by
  refine Fn.intro (I := []) hX hm 0 Tryd.func76 rfl rfl (by kernel_rfl) rfl ?_
  have c1 := f36_ok f.cm hf.cm
  have c2 := f41_ok f.tk hf.tk
  unfold strF msgF
  by_cases h : f.k = 2
  · rw [if_pos h]
    have hq : (f.k == 2) = true := beq_iff_eq.2 h
    generalize befC f.cm = m at *
    generalize befE f.cm = e at *
    conv => whnf
    refine iteT hq ?_
    conv => whnf
    refine ⟨_, c1, ?_⟩
    conv => whnf
    rfl
  · rw [if_neg h]
    have hq : (f.k == 2) = false := beq_eq_false_iff_ne.2 h
    have hl := msgT_len f.tk
    generalize msgT f.tk = m at *
    rw [show bv m = ((bv m).drop 0).take 20 from by rw [List.drop_zero, List.take_of_length_le (by rw [List.length_map]; omega)]]
    conv => whnf
    refine iteF hq ?_
    conv => whnf
    refine ⟨_, c2, ?_⟩
    conv => whnf
    rfl
/-- Where the first one stands of which p holds. -/
def idxB {α : Type} (p : α → Bool) : List α → Nat → Int
  | [], _ => -1
  | x :: l, i => match p x with
    | true => (i : Int)
    | false => idxB p l (i + 1)
theorem idxB_drop {α : Type} {p : α → Bool} {l : List α} {i : Nat} (h : i < l.length) : idxB p (l.drop i) i = match p l[i] with
    | true => (i : Int)
    | false => idxB p (l.drop (i + 1)) (i + 1) := by
  rw [List.drop_eq_getElem_cons h]
  rfl
def pT (t : Tk) (x : Tk) : Bool := decide (bareK x = bareK t)
def pC (c : Cm) (x : Cm) : Bool := decide (plainC x = plainC c)
def atT (l : List Tk) (t : Tk) : Int := idxB (pT t) l 0
def atC (l : List Cm) (c : Cm) : Int := idxB (pC c) l 0
theorem f50_ok (l : List Tk) (t : Tk) (hl : l.length < 1000000) : Fn Tryd.prog X.G 50 [tks l, .p (tkv t)] (.p (.i .i64 (atT l t))) := by
  refine Fn.intro (I := []) hX hm 0 Tryd.func50 rfl rfl (by kernel_rfl) rfl ?_
  conv => whnf
  refine LoopJ.intro (I := []) (base' := 0) hX hm (by kernel_rfl) (σ := Nat) (fun i => [(0, tks l), (3, .ptr 24 []), (5, .p (.i .i64 i))]) (fun _ => [(24, .var (.p (tkv t)))]) (fun i => i ≤ l.length ∧ atT l t = idxB (pT t) (l.drop i) i) (fun i => l.length - i) 0 []
    ⟨Nat.zero_le _, by rw [List.drop_zero]; rfl⟩ ⟨nofun, rfl, ⟨rfl, rfl, rfl, rfl, rfl, rfl, trivial⟩, ⟨rfl, rfl, trivial⟩⟩ ?_
  intro i ⟨hi, hI⟩
  conv => whnf
  refine iteC (fun h1 => ?_) (fun h1 => ?_)
  · have h1 := of_decide_eq_true h1
    rw [List.length_map] at h1
    have hlt : i < l.length := by omega
    have hg := getM (f := fun t => tkv t) hlt
    rw [idxB_drop hlt] at hI
    have hs := same_tk (bareK l[i]) (bareK t)
    have hp : pT t l[i] = decide (bareK l[i] = bareK t) := rfl
    have c1 := f78_ok l[i]
    have c2 := f78_ok t
    rw [← hp] at hs
    conv => whnf
    conv => arg 2; repeat (first | rw [hg] | (whnf; arg 2))
    conv => whnf
    refine ⟨_, c1, ?_⟩
    conv => whnf
    refine ⟨_, c2, ?_⟩
    conv => whnf
    generalize pT t l[i] = b at *
    cases b
    · refine iteF hs ?_
      conv => whnf
      exact ⟨i + 1, [], ⟨by omega, hI⟩, by dsimp only; omega, nofun, rfl, ⟨rfl, rfl, rfl, rfl, incN (by omega), rfl, trivial⟩, ⟨rfl, rfl, trivial⟩⟩
    · refine iteT hs ?_
      rw [hI]
      rfl
  · have h1 := of_decide_eq_false h1
    rw [List.length_map] at h1
    rw [List.drop_of_length_le (by omega)] at hI
    rw [hI]
    rfl
theorem f49_ok (l : List Cm) (c : Cm) (hl : l.length < 1000000) : Fn Tryd.prog X.G 49 [cms l, .p (cmv c)] (.p (.i .i64 (atC l c))) := by
  refine Fn.intro (I := []) hX hm 0 Tryd.func49 rfl rfl (by kernel_rfl) rfl ?_
  conv => whnf
  refine LoopJ.intro (I := []) (base' := 0) hX hm (by kernel_rfl) (σ := Nat) (fun i => [(0, cms l), (3, .ptr 24 []), (5, .p (.i .i64 i))]) (fun _ => [(24, .var (.p (cmv c)))]) (fun i => i ≤ l.length ∧ atC l c = idxB (pC c) (l.drop i) i) (fun i => l.length - i) 0 []
    ⟨Nat.zero_le _, by rw [List.drop_zero]; rfl⟩ ⟨nofun, rfl, ⟨rfl, rfl, rfl, rfl, rfl, rfl, trivial⟩, ⟨rfl, rfl, trivial⟩⟩ ?_
  intro i ⟨hi, hI⟩
  conv => whnf
  refine iteC (fun h1 => ?_) (fun h1 => ?_)
  · have h1 := of_decide_eq_true h1
    rw [List.length_map] at h1
    have hlt : i < l.length := by omega
    have hg := getM (f := fun c => cmv c) hlt
    rw [idxB_drop hlt] at hI
    have hs := same_cm (plainC l[i]) (plainC c)
    have hp : pC c l[i] = decide (plainC l[i] = plainC c) := rfl
    have c1 := f77_ok l[i]
    have c2 := f77_ok c
    rw [← hp] at hs
    conv => whnf
    conv => arg 2; repeat (first | rw [hg] | (whnf; arg 2))
    conv => whnf
    refine ⟨_, c1, ?_⟩
    conv => whnf
    refine ⟨_, c2, ?_⟩
    conv => whnf
    generalize pC c l[i] = b at *
    cases b
    · refine iteF hs ?_
      conv => whnf
      exact ⟨i + 1, [], ⟨by omega, hI⟩, by dsimp only; omega, nofun, rfl, ⟨rfl, rfl, rfl, rfl, incN (by omega), rfl, trivial⟩, ⟨rfl, rfl, trivial⟩⟩
    · refine iteT hs ?_
      rw [hI]
      rfl
  · have h1 := of_decide_eq_false h1
    rw [List.length_map] at h1
    rw [List.drop_of_length_le (by omega)] at hI
    rw [hI]
    rfl
end Go.Proofs.YtipmkjfbdflneaaDoor.AM
