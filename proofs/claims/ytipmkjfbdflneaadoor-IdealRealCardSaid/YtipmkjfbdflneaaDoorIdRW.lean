/- Tables: IdealReal walked. -/
import Derived.Test.YtipmkjfbdflneaaDoorIdR
namespace Go.Proofs.YtipmkjfbdflneaaDoor.AM
open Go Go.Proofs
set_option maxRecDepth 100000

theorem fit_ofR {d : Id} {f : Fr} (h : fitB d f = true) : chkI d = 0 ∧ okF f := by
  unfold fitB at h
  simp only [Bool.and_eq_true, Bool.not_eq_true', decide_eq_true_eq] at h
  exact ⟨h.1.2, chkFr_0 h.2⟩
set_option maxHeartbeats 8000000 in
theorem f4_ok (d : Id) (f : Fr) (s : List Int) (hd : d.ok) (hf : f.ok) (hs : byt s) (ls : s.length = 32) : Fn Tryd.prog X.G 4 [idv d, .p (frv f), .p (dv s)] (.p (.b true)) := by
  refine Fn.intro (I := []) hX hm 0 Tryd.func4 rfl rfl (by kernel_rfl) rfl ?_
  have cf := f13_ok d f hd hf
  have ca := f14_ok
  by_cases hfit : fitB d f = true
  · rw [hfit] at cf
    obtain ⟨h0, hk⟩ := fit_ofR hfit
    have hF := fine_iff.1 h0
    have hnn : d.ts.length ≤ 100 ∧ d.cs.length ≤ 100 := by have := hF.n; unfold Id.n at this; omega
    conv => whnf
    refine ⟨_, cf, ?_⟩
    conv => whnf
    refine iteT rfl ?_
    conv => whnf
    refine LoopJ.intro (I := []) (base' := 1000) hX hm (by kernel_rfl) (σ := Nat) (fun i => [(3, .ptr 24 []), (4, .ptr 32 []), (5, .ptr 40 []), (7, .p (.i .i64 i))]) (fun _ => [(24, .var (idv d)), (32, .var (.p (frv f))), (40, .var (.p (dv s)))]) (fun i => i ≤ d.ts.length ∧ ∀ x ∈ d.ts.take i, rightB s (tokF x) = true) (fun i => d.ts.length - i) 0 []
      ⟨Nat.zero_le _, by simp⟩ ⟨nofun, rfl, ⟨rfl, rfl, rfl, rfl, rfl, rfl, rfl, rfl, trivial⟩, ⟨rfl, rfl, rfl, rfl, rfl, rfl, trivial⟩⟩ ?_
    intro i ⟨hi, hI⟩
    conv => whnf
    refine iteC (fun h1 => ?_) (fun h1 => ?_)
    · have h1 := of_decide_eq_true h1
      rw [List.length_map] at h1
      have hlt : i < d.ts.length := by omega
      have hg := getM (f := fun x => tkv x) hlt
      have hx := hd.ts _ (List.getElem_mem hlt)
      have hv : okF (tokF d.ts[i]) := tokF_okF.2 (hF.valid.1 _ (List.getElem_mem hlt))
      have c1 := f15_ok d.ts[i] 0 0
      have c2 := f7_ok s (tokF d.ts[i]) hs ls (tokF_ok hx)
      rw [chkFr_ok hv] at c2
      conv => whnf
      conv => arg 2; repeat (first | rw [hg] | (whnf; arg 2))
      conv => whnf
      refine ⟨_, c1, ?_⟩
      conv => whnf
      refine ⟨_, c2, ?_⟩
      cases hr : rightB s (tokF d.ts[i]) with
      | false =>
        conv => whnf
        refine iteF rfl ?_
        conv => whnf
        refine iteF rfl ?_
        conv => whnf
        refine ⟨_, ca, ?_⟩
        conv => whnf
        refine iteT rfl ?_
        rfl
      | true =>
        conv => whnf
        refine iteT rfl ?_
        conv => whnf
        refine iteF rfl ?_
        conv => whnf
        exact ⟨i + 1, [], ⟨by omega, take_all hlt hI hr⟩, by dsimp only; omega, nofun, rfl, ⟨rfl, rfl, rfl, rfl, rfl, rfl, incN (by omega), rfl, trivial⟩, ⟨rfl, rfl, rfl, rfl, rfl, rfl, trivial⟩⟩
    have h1 := of_decide_eq_false h1
    rw [List.length_map] at h1
    have hil : i = d.ts.length := by omega
    subst hil
    rw [List.take_length] at hI
    have hT := hI
    conv => whnf
    refine LoopJ.intro (I := []) (base' := 1000) hX hm (by kernel_rfl) (σ := Nat) (fun i => [(3, .ptr 24 []), (4, .ptr 32 []), (5, .ptr 40 []), (10, .p (.i .i64 i))]) (fun _ => [(24, .var (idv d)), (32, .var (.p (frv f))), (40, .var (.p (dv s)))]) (fun i => i ≤ d.cs.length ∧ ∀ x ∈ d.cs.take i, rightB s (comF x) = true) (fun i => d.cs.length - i) 0 []
      ⟨Nat.zero_le _, by simp⟩ ⟨nofun, rfl, ⟨rfl, rfl, rfl, rfl, rfl, rfl, rfl, rfl, trivial⟩, ⟨rfl, rfl, rfl, rfl, rfl, rfl, trivial⟩⟩ ?_
    intro i ⟨hi, hI⟩
    conv => whnf
    refine iteC (fun h1 => ?_) (fun h1 => ?_)
    · have h1 := of_decide_eq_true h1
      rw [List.length_map] at h1
      have hlt : i < d.cs.length := by omega
      have hg := getM (f := fun x => cmv x) hlt
      have hx := hd.cs _ (List.getElem_mem hlt)
      have hv : okF (comF d.cs[i]) := comF_okF.2 (hF.valid.2 _ (List.getElem_mem hlt))
      have c1 := f16_ok d.cs[i]
      have c2 := f7_ok s (comF d.cs[i]) hs ls (comF_ok hx)
      rw [chkFr_ok hv] at c2
      conv => whnf
      conv => arg 2; repeat (first | rw [hg] | (whnf; arg 2))
      conv => whnf
      refine ⟨_, c1, ?_⟩
      conv => whnf
      refine ⟨_, c2, ?_⟩
      cases hr : rightB s (comF d.cs[i]) with
      | false =>
        conv => whnf
        refine iteF rfl ?_
        conv => whnf
        refine iteF rfl ?_
        conv => whnf
        refine ⟨_, ca, ?_⟩
        conv => whnf
        refine iteT rfl ?_
        rfl
      | true =>
        conv => whnf
        refine iteT rfl ?_
        conv => whnf
        refine iteF rfl ?_
        conv => whnf
        exact ⟨i + 1, [], ⟨by omega, take_all hlt hI hr⟩, by dsimp only; omega, nofun, rfl, ⟨rfl, rfl, rfl, rfl, rfl, rfl, incN (by omega), rfl, trivial⟩, ⟨rfl, rfl, rfl, rfl, rfl, rfl, trivial⟩⟩
    have h1 := of_decide_eq_false h1
    rw [List.length_map] at h1
    have hil : i = d.cs.length := by omega
    subst hil
    rw [List.take_length] at hI
    have hC := hI
    have c5 := f7_ok s f hs ls hf
    rw [chkFr_ok hk] at c5
    have c6 := f17_ok d f hd hf
    rw [accB_0 h0 hk, accE_0 h0 hk, real_iff hF hk hT hC] at c6
    have c7 := f18_ok d f hnn hk
    generalize rightB s f = r at *
    generalize thereB d f = th at *
    cases r
    · conv => whnf
      refine ⟨_, c5, ?_⟩
      conv => whnf
      refine iteF rfl ?_
      conv => whnf
      refine ⟨_, c6, ?_⟩
      conv => whnf
      refine iteF rfl ?_
      conv => whnf
      refine iteT rfl ?_
      conv => whnf
      refine iteT rfl ?_
      conv => whnf
      refine iteT rfl ?_
      conv => whnf
      refine ⟨_, ca, ?_⟩
      conv => whnf
      refine iteT rfl ?_
      rfl
    · cases th
      · conv => whnf
        refine ⟨_, c5, ?_⟩
        conv => whnf
        refine iteT rfl ?_
        conv => whnf
        refine ⟨_, c6, ?_⟩
        conv => whnf
        refine iteF rfl ?_
        conv => whnf
        refine iteT rfl ?_
        conv => whnf
        refine iteT rfl ?_
        conv => whnf
        refine ⟨_, c7, ?_⟩
        conv => whnf
        refine iteF rfl ?_
        conv => whnf
        refine iteT rfl ?_
        conv => whnf
        refine ⟨_, ca, ?_⟩
        conv => whnf
        refine iteT rfl ?_
        rfl
      · conv => whnf
        refine ⟨_, c5, ?_⟩
        conv => whnf
        refine iteT rfl ?_
        conv => whnf
        refine ⟨_, c6, ?_⟩
        conv => whnf
        refine iteT rfl ?_
        conv => whnf
        refine iteT rfl ?_
        conv => whnf
        refine iteT rfl ?_
        conv => whnf
        refine ⟨_, c7, ?_⟩
        conv => whnf
        refine iteT rfl ?_
        conv => whnf
        refine iteT rfl ?_
        conv => whnf
        refine ⟨_, ca, ?_⟩
        conv => whnf
        refine iteT rfl ?_
        rfl
  · rw [Bool.eq_false_iff.2 hfit] at cf
    conv => whnf
    refine ⟨_, cf, ?_⟩
    conv => whnf
    refine iteF rfl ?_
    conv => whnf
    refine ⟨_, ca, ?_⟩
    conv => whnf
    refine iteT rfl ?_
    rfl
end Go.Proofs.YtipmkjfbdflneaaDoor.AM
