/- Tables: what the program has minted, walked. -/
import Derived.Test.YtipmkjfbdflneaaDoorIdE
namespace Go.Proofs.YtipmkjfbdflneaaDoor.AM
open Go Go.Proofs
set_option maxRecDepth 100000

set_option maxHeartbeats 8000000 in
theorem f48_ok (d : Id) (f : Fr) (hd : d.ok) (hf : f.ok) (hF : d.fine) (h : okF f) : Fn Tryd.prog X.G 48 [idv d, .p (frv f)] (.tup [.p (.b (thereB d f)), .p (.b (sameB d f))]) := by
  refine Fn.introM (I := [ 75 ]) hX hm 0 Tryd.func48 rfl rfl (by kernel_rfl) rfl ?_
  have hnn : d.ts.length ≤ 100 ∧ d.cs.length ≤ 100 := by have := hF.n; unfold Id.n at this; omega
  have c0 := f76_ok f hf
  have hhT := fun t ht => hitT hd hf hF h (t := t) ht
  have hhC := fun c hc => hitC hd hf hF h (c := c) hc
  have hmi := missI hd hf hF h
  generalize strF f = z at *
  conv => whnf
  refine ⟨_, c0, ?_⟩
  conv => whnf
  refine InlS.intro (I := []) hX hm 5000 Tryd.func75 rfl rfl (by kernel_rfl) rfl ?_
  conv => whnf
  refine RangeJ.clean [3, 4, 5, 6, 11] [16, 24, 32, 40, 48, 5008] ⟨nofun, rfl, ⟨rfl, rfl, rfl, rfl, rfl, rfl, rfl, rfl, rfl, rfl, trivial⟩, ⟨rfl, rfl, rfl, rfl, rfl, rfl, rfl, rfl, rfl, rfl, rfl, rfl, trivial⟩⟩ rfl ?_
  refine RangeJ.intro (I := []) hX hm 7000 9001 9002 _ rfl Tryd.func94 rfl rfl (by kernel_rfl) rfl rfl rfl rfl (fun _ => .inr rfl) ?_
  conv => whnf
  refine LoopJ.introK (I := []) (base' := 12000) hX hm (by kernel_rfl) [0, 1, 8, 9] [9001, 9002, 16, 24, 32, 40, 48, 5008] (σ := Nat) (fun i => [(10, .p (.i .i64 i))]) (fun _ => []) (fun i => i ≤ d.ts.length ∧ ∀ t ∈ d.ts.take i, strF (tokF t) ≠ z) (fun i => d.ts.length - i) 0
    ⟨Nat.zero_le _, by simp⟩ ⟨keep_sub rfl, rfl, ⟨rfl, rfl, rfl, rfl, rfl, rfl, rfl, rfl, rfl, rfl, trivial⟩, ⟨rfl, rfl, rfl, rfl, rfl, rfl, rfl, rfl, rfl, rfl, rfl, rfl, rfl, rfl, rfl, rfl, trivial⟩⟩ ?_
  intro i ⟨hi, hI⟩
  conv => whnf
  refine iteC (fun h1 => ?_) (fun h1 => ?_)
  · have h1 := of_decide_eq_true h1
    rw [List.length_map] at h1
    have hlt : i < d.ts.length := by omega
    have hg := getM (f := fun t => tkv t) hlt
    have ht := hd.ts _ (List.getElem_mem hlt)
    have c1 := f55_ok d.ts[i]
    have c2 := f76_ok (tokF d.ts[i]) (tokF_ok ht)
    have hit := hhT d.ts[i] (List.getElem_mem hlt)
    have s1 := same_tk d.ts[i] f.tk
    have s2 := same_cm c00 f.cm
    conv => whnf
    conv => arg 2; repeat (first | rw [hg] | (whnf; arg 2))
    conv => whnf
    refine ⟨_, c1, ?_⟩
    conv => whnf
    refine YldS.intro (I := []) hX hm 20000 rfl rfl (by kernel_rfl) (fun l => ?_)
    conv => whnf
    refine ⟨_, c2, ?_⟩
    conv => whnf
    refine iteC (fun h2 => ?_) (fun h2 => ?_)
    · obtain ⟨e1, e2, e3⟩ := hit ((MapKept.bytes_beq _ _).1 h2)
      rw [e1, e2]
      rw [decide_eq_true e3] at s2
      by_cases he : d.ts[i] = f.tk
      · rw [decide_eq_true he] at s1 ⊢
        conv => whnf
        refine iteT s1 ?_
        conv => whnf
        refine iteT s2 ?_
        conv => whnf
        refine iteF rfl ?_
        rfl
      · rw [decide_eq_false he] at s1 ⊢
        conv => whnf
        refine iteF s1 ?_
        conv => whnf
        refine iteF rfl ?_
        rfl
    · conv => whnf
      refine iteT rfl ?_
      conv => whnf
      exact ⟨i + 1, [], ⟨by omega, take_all hlt hI fun e => by rw [(MapKept.bytes_beq _ _).2 e] at h2; cases h2⟩, by dsimp only; omega, keep_sub rfl, rfl, ⟨incN (by omega), rfl, rfl, rfl, rfl, rfl, rfl, rfl, rfl, rfl, trivial⟩, ⟨rfl, rfl, rfl, rfl, rfl, rfl, rfl, rfl, rfl, rfl, rfl, rfl, rfl, rfl, rfl, rfl, trivial⟩⟩
  have h1 := of_decide_eq_false h1
  rw [List.length_map] at h1
  have hil : i = d.ts.length := by omega
  subst hil
  rw [List.take_length] at hI
  conv => whnf
  refine LoopJ.introK (I := []) (base' := 12000) hX hm (by kernel_rfl) [0, 1, 21, 22] [9001, 9002, 16, 24, 32, 40, 48, 5008] (σ := Nat) (fun i => [(23, .p (.i .i64 i))]) (fun _ => []) (fun i => i ≤ d.cs.length ∧ ∀ c ∈ d.cs.take i, strF (comF c) ≠ z) (fun i => d.cs.length - i) 0
    ⟨Nat.zero_le _, by simp⟩ ⟨keep_sub rfl, rfl, ⟨rfl, rfl, rfl, rfl, rfl, rfl, rfl, rfl, rfl, rfl, trivial⟩, ⟨rfl, rfl, rfl, rfl, rfl, rfl, rfl, rfl, rfl, rfl, rfl, rfl, rfl, rfl, rfl, rfl, trivial⟩⟩ ?_
  intro i ⟨hi, hJ⟩
  conv => whnf
  refine iteC (fun h1 => ?_) (fun h1 => ?_)
  · have h1 := of_decide_eq_true h1
    rw [List.length_map] at h1
    have hlt : i < d.cs.length := by omega
    have hg := getM (f := fun c => cmv c) hlt
    have hc := hd.cs _ (List.getElem_mem hlt)
    have c1 := f73_ok d.cs[i]
    have c2 := f76_ok (comF d.cs[i]) (comF_ok hc)
    have hit := hhC d.cs[i] (List.getElem_mem hlt)
    have s1 := same_tk t0T f.tk
    have s2 := same_cm d.cs[i] f.cm
    conv => whnf
    conv => arg 2; repeat (first | rw [hg] | (whnf; arg 2))
    conv => whnf
    refine ⟨_, c1, ?_⟩
    conv => whnf
    refine YldS.intro (I := []) hX hm 20000 rfl rfl (by kernel_rfl) (fun l => ?_)
    conv => whnf
    refine ⟨_, c2, ?_⟩
    conv => whnf
    refine iteC (fun h2 => ?_) (fun h2 => ?_)
    · obtain ⟨e1, e2, e3⟩ := hit ((MapKept.bytes_beq _ _).1 h2)
      rw [e1, e2]
      rw [decide_eq_true e3] at s1
      by_cases he : d.cs[i] = f.cm
      · rw [decide_eq_true he] at s2 ⊢
        conv => whnf
        refine iteT s1 ?_
        conv => whnf
        refine iteT s2 ?_
        conv => whnf
        refine iteF rfl ?_
        rfl
      · rw [decide_eq_false he] at s2 ⊢
        conv => whnf
        refine iteT s1 ?_
        conv => whnf
        refine iteF s2 ?_
        conv => whnf
        refine iteF rfl ?_
        rfl
    · conv => whnf
      refine iteT rfl ?_
      conv => whnf
      exact ⟨i + 1, [], ⟨by omega, take_all hlt hJ fun e => by rw [(MapKept.bytes_beq _ _).2 e] at h2; cases h2⟩, by dsimp only; omega, keep_sub rfl, rfl, ⟨incN (by omega), rfl, rfl, rfl, rfl, rfl, rfl, rfl, rfl, rfl, trivial⟩, ⟨rfl, rfl, rfl, rfl, rfl, rfl, rfl, rfl, rfl, rfl, rfl, rfl, rfl, rfl, rfl, rfl, trivial⟩⟩
  have h1 := of_decide_eq_false h1
  rw [List.length_map] at h1
  have hil : i = d.cs.length := by omega
  subst hil
  rw [List.take_length] at hJ
  obtain ⟨e1, e2⟩ := hmi hI hJ
  rw [e1, e2]
  rfl
end Go.Proofs.YtipmkjfbdflneaaDoor.AM
