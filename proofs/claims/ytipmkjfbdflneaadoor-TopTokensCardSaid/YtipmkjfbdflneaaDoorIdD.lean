/- Tables: the program's check walked. -/
import Derived.Test.YtipmkjfbdflneaaDoorIdC
namespace Go.Proofs.YtipmkjfbdflneaaDoor.AM
open Go Go.Proofs
set_option maxRecDepth 100000

theorem nodup_snoc {l : List ByteArray} {z : ByteArray} (h : l.Nodup) (hz : z ∉ l) : (l ++ [z]).Nodup :=
  List.nodup_append.2 ⟨h, by simp, fun a ha b hb e => by simp at hb; exact hz (hb ▸ e ▸ ha)⟩
/-- The table of types, with the map's zero value. -/
def XM : Ctx := ⟨(136, ⟨.map 9 4, 1, 8, false, some .nilm⟩) :: tt, X.G⟩
theorem hXM : XM.ok Tryd.prog := ttB_ok (by kernel_rfl)
set_option maxHeartbeats 8000000 in
theorem f47_ok (d : Id) (hd : d.ok) : Fn Tryd.prog X.G 47 [idv d] (.p (.i .i64 (chkI d))) := by
  refine Fn.introM (X := XM) (I := [ 75 ]) hXM hm 0 Tryd.func47 rfl rfl (by kernel_rfl) rfl ?_
  have hs := d.sum hd
  have q1 : decide (IntKind.i64.wrap (((d.ts.map fun t => tkv t).length : Int) + ((d.cs.map fun c => cmv c).length : Int)) > 100) = decide (100 < d.n) := by
    rw [hs]; exact decide_eq_decide.2 (by omega)
  by_cases hn : 100 < d.n
  · rw [decide_eq_true hn] at q1
    rw [chkI_4 hn]
    conv => whnf
    refine iteT q1 ?_
    rfl
  rw [decide_eq_false hn] at q1
  have hnn : d.ts.length ≤ 100 ∧ d.cs.length ≤ 100 := by unfold Id.n at hn; omega
  conv => whnf
  refine iteF q1 ?_
  conv => whnf
  refine InlS.intro (I := []) hXM hm 5000 Tryd.func75 rfl rfl (by kernel_rfl) rfl ?_
  conv => whnf
  refine RangeJ.clean [1, 2, 16] [8, 16, 5008] ⟨nofun, rfl, ⟨rfl, rfl, rfl, rfl, rfl, rfl, trivial⟩, ⟨rfl, rfl, rfl, rfl, rfl, rfl, trivial⟩⟩ rfl ?_
  refine RangeJ.intro (I := []) hXM hm 7000 9001 9002 _ rfl Tryd.func94 rfl rfl (by kernel_rfl) rfl rfl rfl rfl (fun _ => .inr rfl) ?_
  conv => whnf
  refine LoopJ.introK (I := []) (base' := 12000) hXM hm (by kernel_rfl) [0, 1, 8, 9] [9001, 9002, 8, 16, 5008] (σ := Nat) (fun i => [(10, .p (.i .i64 i))]) (fun _ => []) (fun i => i ≤ d.ts.length ∧ ∀ t ∈ d.ts.take i, t.t < 16) (fun i => d.ts.length - i) 0
    ⟨Nat.zero_le _, by simp⟩ ⟨keep_sub rfl, rfl, ⟨rfl, rfl, rfl, rfl, rfl, rfl, rfl, rfl, rfl, rfl, trivial⟩, ⟨rfl, rfl, rfl, rfl, rfl, rfl, rfl, rfl, rfl, rfl, trivial⟩⟩ ?_
  intro i ⟨hi, hI⟩
  conv => whnf
  refine iteC (fun h1 => ?_) (fun h1 => ?_)
  · have h1 := of_decide_eq_true h1
    rw [List.length_map] at h1
    have hlt : i < d.ts.length := by omega
    have hg := getM (f := fun t => tkv t) hlt
    have ht := hd.ts _ (List.getElem_mem hlt)
    have c1 := f55_ok d.ts[i]
    have c2 := f23_ok (tokF d.ts[i]) (tokF_ok ht)
    conv => whnf
    conv => arg 2; repeat (first | rw [hg] | (whnf; arg 2))
    conv => whnf
    refine ⟨_, c1, ?_⟩
    conv => whnf
    refine YldS.intro (I := []) hXM hm 20000 rfl rfl (by kernel_rfl) (fun l => ?_)
    conv => whnf
    refine ⟨_, c2, ?_⟩
    by_cases h2 : d.ts[i].t < 16
    · rw [chkT_ok h2]
      conv => whnf
      refine iteF rfl ?_
      conv => whnf
      refine iteT rfl ?_
      conv => whnf
      exact ⟨i + 1, [], ⟨by omega, take_all hlt hI h2⟩, by dsimp only; omega, keep_sub rfl, rfl, ⟨incN (by omega), rfl, rfl, rfl, rfl, rfl, rfl, rfl, rfl, rfl, trivial⟩, ⟨rfl, rfl, rfl, rfl, rfl, rfl, rfl, rfl, rfl, rfl, trivial⟩⟩
    · rw [chkT_bad h2]
      conv => whnf
      refine iteT rfl ?_
      conv => whnf
      refine iteF rfl ?_
      rw [chkI_8 hn fun hv => h2 (hv.1 _ (List.getElem_mem hlt))]
      rfl
  have h1 := of_decide_eq_false h1
  rw [List.length_map] at h1
  have hil : i = d.ts.length := by omega
  subst hil
  rw [List.take_length] at hI
  conv => whnf
  refine LoopJ.introK (I := []) (base' := 12000) hXM hm (by kernel_rfl) [0, 1, 21, 22] [9001, 9002, 8, 16, 5008] (σ := Nat) (fun i => [(23, .p (.i .i64 i))]) (fun _ => []) (fun i => i ≤ d.cs.length ∧ ∀ c ∈ d.cs.take i, okC c) (fun i => d.cs.length - i) 0
    ⟨Nat.zero_le _, by simp⟩ ⟨keep_sub rfl, rfl, ⟨rfl, rfl, rfl, rfl, rfl, rfl, rfl, rfl, rfl, rfl, trivial⟩, ⟨rfl, rfl, rfl, rfl, rfl, rfl, rfl, rfl, rfl, rfl, trivial⟩⟩ ?_
  intro i ⟨hi, hJ⟩
  conv => whnf
  refine iteC (fun h1 => ?_) (fun h1 => ?_)
  · have h1 := of_decide_eq_true h1
    rw [List.length_map] at h1
    have hlt : i < d.cs.length := by omega
    have hg := getM (f := fun c => cmv c) hlt
    have hc := hd.cs _ (List.getElem_mem hlt)
    have c1 := f73_ok d.cs[i]
    have c2 := f23_ok (comF d.cs[i]) (comF_ok hc)
    conv => whnf
    conv => arg 2; repeat (first | rw [hg] | (whnf; arg 2))
    conv => whnf
    refine ⟨_, c1, ?_⟩
    conv => whnf
    refine YldS.intro (I := []) hXM hm 20000 rfl rfl (by kernel_rfl) (fun l => ?_)
    conv => whnf
    refine ⟨_, c2, ?_⟩
    by_cases h2 : okC d.cs[i]
    · rw [chkC_ok h2]
      conv => whnf
      refine iteF rfl ?_
      conv => whnf
      refine iteT rfl ?_
      conv => whnf
      exact ⟨i + 1, [], ⟨by omega, take_all hlt hJ h2⟩, by dsimp only; omega, keep_sub rfl, rfl, ⟨incN (by omega), rfl, rfl, rfl, rfl, rfl, rfl, rfl, rfl, rfl, trivial⟩, ⟨rfl, rfl, rfl, rfl, rfl, rfl, rfl, rfl, rfl, rfl, trivial⟩⟩
    · rw [chkC_bad h2]
      conv => whnf
      refine iteT rfl ?_
      conv => whnf
      refine iteF rfl ?_
      rw [chkI_8 hn fun hv => h2 (hv.2 _ (List.getElem_mem hlt))]
      rfl
  have h1 := of_decide_eq_false h1
  rw [List.length_map] at h1
  have hil : i = d.cs.length := by omega
  subst hil
  rw [List.take_length] at hJ
  have hv : validT d := ⟨hI, hJ⟩
  have ho := once_iff hd hv
  conv => whnf
  refine InlS.intro (I := []) hXM hm 6000 Tryd.func75 rfl rfl (by kernel_rfl) rfl ?_
  conv => whnf
  refine RangeJ.clean [1, 2, 4, 23] [9002, 8, 16, 32, 168, 6008] ⟨nofun, rfl, ⟨rfl, rfl, rfl, rfl, rfl, rfl, rfl, rfl, trivial⟩, ⟨rfl, rfl, rfl, rfl, rfl, rfl, rfl, rfl, rfl, rfl, rfl, rfl, trivial⟩⟩ rfl ?_
  refine RangeJ.intro (I := []) hXM hm 8000 9003 9004 _ rfl Tryd.func94 rfl rfl (by kernel_rfl) rfl rfl rfl rfl (fun _ => .inr rfl) ?_
  conv => whnf
  refine LoopJ.introK (I := []) (base' := 13000) hXM hm (by kernel_rfl) [0, 1, 8, 9] [9003, 9004, 9002, 8, 16, 32, 6008] (σ := Nat) (fun i => [(10, .p (.i .i64 i))]) (fun i => [(168, .mp (keysT (d.ts.take i)))]) (fun i => i ≤ d.ts.length ∧ (keysT (d.ts.take i)).Nodup) (fun i => d.ts.length - i) 0
    ⟨Nat.zero_le _, by simp [keysT]⟩ ⟨keep_sub rfl, rfl, ⟨rfl, rfl, rfl, rfl, rfl, rfl, rfl, rfl, rfl, rfl, trivial⟩, ⟨rfl, rfl, rfl, rfl, rfl, rfl, rfl, rfl, rfl, rfl, rfl, rfl, rfl, rfl, rfl, rfl, trivial⟩⟩ ?_
  intro i ⟨hi, hN⟩
  conv => whnf
  refine iteC (fun h1 => ?_) (fun h1 => ?_)
  · have h1 := of_decide_eq_true h1
    rw [List.length_map] at h1
    have hlt : i < d.ts.length := by omega
    have hg := getM (f := fun t => tkv t) hlt
    have ht := hd.ts _ (List.getElem_mem hlt)
    have c1 := f55_ok d.ts[i]
    have c2 := f76_ok (tokF d.ts[i]) (tokF_ok ht)
    have hk1 : keysT (d.ts.take (i + 1)) = keysT (d.ts.take i) ++ [strF (tokF d.ts[i])] := take_map (fun t => strF (tokF t)) hlt
    have hk2 : keysT d.ts = keysT (d.ts.take i) ++ strF (tokF d.ts[i]) :: keysT (d.ts.drop (i + 1)) := cut_map (fun t => strF (tokF t)) hlt
    generalize strF (tokF d.ts[i]) = z at *
    generalize hks : keysT (d.ts.take i) = ks at *
    conv => whnf
    conv => arg 2; repeat (first | rw [hg] | (whnf; arg 2))
    conv => whnf
    refine ⟨_, c1, ?_⟩
    conv => whnf
    refine YldS.intro (I := []) hXM hm 30000 rfl rfl (by kernel_rfl) (fun l => ?_)
    conv => whnf
    refine ⟨_, c2, ?_⟩
    conv => whnf
    refine iteC (fun h2 => ?_) (fun h2 => ?_)
    · conv => whnf
      refine iteF rfl ?_
      have hno : ¬ onceT d := fun h => by
        have h3 := ho.1 h
        rw [hk2, List.append_assoc, List.cons_append] at h3
        exact nodup_no (hasK_iff.1 h2) h3
      rw [chkI_14 hn hv hno]
      rfl
    · have hz : z ∉ ks := fun h => by rw [hasK_iff.2 h] at h2; cases h2
      conv => whnf
      refine iteT rfl ?_
      conv => whnf
      refine ⟨i + 1, [], ⟨by omega, ?_⟩, by dsimp only; omega, keep_sub rfl, rfl, ⟨incN (by omega), rfl, rfl, rfl, rfl, rfl, rfl, rfl, rfl, rfl, trivial⟩, ⟨?_, rfl, rfl, rfl, rfl, rfl, rfl, rfl, rfl, rfl, rfl, rfl, rfl, rfl, rfl, rfl, trivial⟩⟩
      · rw [hk1]
        exact nodup_snoc hN hz
      · show some (Blk.mp (addKey z ks)) = some (Blk.mp (keysT (d.ts.take (i + 1))))
        rw [hk1, addKey_new h2]
  have h1 := of_decide_eq_false h1
  rw [List.length_map] at h1
  have hil : i = d.ts.length := by omega
  subst hil
  rw [List.take_length] at hN
  have hke : keysT (d.ts.take d.ts.length) = keysT d.ts ++ keysC (d.cs.take 0) := by rw [List.take_length]; exact (List.append_nil _).symm
  generalize keysT (d.ts.take d.ts.length) = k0 at *
  conv => whnf
  refine LoopJ.introK (I := []) (base' := 13000) hXM hm (by kernel_rfl) [0, 1, 21, 22] [9003, 9004, 9002, 8, 16, 32, 6008] (σ := Nat) (fun i => [(23, .p (.i .i64 i))]) (fun i => [(168, .mp (keysT d.ts ++ keysC (d.cs.take i)))]) (fun i => i ≤ d.cs.length ∧ (keysT d.ts ++ keysC (d.cs.take i)).Nodup) (fun i => d.cs.length - i) 0
    ⟨Nat.zero_le _, by simpa [keysC] using hN⟩ ⟨keep_sub rfl, rfl, ⟨rfl, rfl, rfl, rfl, rfl, rfl, rfl, rfl, rfl, rfl, trivial⟩, ⟨congrArg (fun x => some (Blk.mp x)) hke, rfl, rfl, rfl, rfl, rfl, rfl, rfl, rfl, rfl, rfl, rfl, rfl, rfl, rfl, rfl, trivial⟩⟩ ?_
  intro i ⟨hi, hN⟩
  conv => whnf
  refine iteC (fun h1 => ?_) (fun h1 => ?_)
  · have h1 := of_decide_eq_true h1
    rw [List.length_map] at h1
    have hlt : i < d.cs.length := by omega
    have hg := getM (f := fun c => cmv c) hlt
    have hc := hd.cs _ (List.getElem_mem hlt)
    have c1 := f73_ok d.cs[i]
    have c2 := f76_ok (comF d.cs[i]) (comF_ok hc)
    have hk1 : keysT d.ts ++ keysC (d.cs.take (i + 1)) = (keysT d.ts ++ keysC (d.cs.take i)) ++ [strF (comF d.cs[i])] := by
      rw [List.append_assoc]; exact congrArg _ (take_map (fun c => strF (comF c)) hlt)
    have hk2 : keysT d.ts ++ keysC d.cs = (keysT d.ts ++ keysC (d.cs.take i)) ++ strF (comF d.cs[i]) :: keysC (d.cs.drop (i + 1)) := by
      rw [List.append_assoc]; exact congrArg _ (cut_map (fun c => strF (comF c)) hlt)
    rw [hk2] at ho
    generalize strF (comF d.cs[i]) = z at *
    generalize hks : keysT d.ts ++ keysC (d.cs.take i) = ks at *
    conv => whnf
    conv => arg 2; repeat (first | rw [hg] | (whnf; arg 2))
    conv => whnf
    refine ⟨_, c1, ?_⟩
    conv => whnf
    refine YldS.intro (I := []) hXM hm 30000 rfl rfl (by kernel_rfl) (fun l => ?_)
    conv => whnf
    refine ⟨_, c2, ?_⟩
    conv => whnf
    refine iteC (fun h2 => ?_) (fun h2 => ?_)
    · conv => whnf
      refine iteF rfl ?_
      have hno : ¬ onceT d := fun h => nodup_no (hasK_iff.1 h2) (ho.1 h)
      rw [chkI_14 hn hv hno]
      rfl
    · have hz : z ∉ ks := fun h => by rw [hasK_iff.2 h] at h2; cases h2
      conv => whnf
      refine iteT rfl ?_
      conv => whnf
      refine ⟨i + 1, [], ⟨by omega, ?_⟩, by dsimp only; omega, keep_sub rfl, rfl, ⟨incN (by omega), rfl, rfl, rfl, rfl, rfl, rfl, rfl, rfl, rfl, trivial⟩, ⟨?_, rfl, rfl, rfl, rfl, rfl, rfl, rfl, rfl, rfl, rfl, rfl, rfl, rfl, rfl, rfl, trivial⟩⟩
      · rw [hk1]
        exact nodup_snoc hN hz
      · show some (Blk.mp (addKey z ks)) = some (Blk.mp (keysT d.ts ++ keysC (d.cs.take (i + 1))))
        rw [hk1, addKey_new h2]
  have h1 := of_decide_eq_false h1
  rw [List.length_map] at h1
  have hil : i = d.cs.length := by omega
  subst hil
  rw [List.take_length] at hN
  rw [chkI_0 hn hv (ho.2 hN)]
  rfl
end Go.Proofs.YtipmkjfbdflneaaDoor.AM
