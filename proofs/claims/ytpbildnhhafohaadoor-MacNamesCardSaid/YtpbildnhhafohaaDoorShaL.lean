/- Sha: the chapter's examples. -/
import Derived.Test.YtpbildnhhafohaaDoorShaJ
namespace Go.Proofs.YtpbildnhhafohaaDoor.AM
open Go Go.Proofs
set_option maxRecDepth 100000
def isV (v : V8) (a b c d z : Int) : Bool := (byW v.a 24 == a) && ((byW v.a 16 == b) && ((byW v.a 8 == c) && ((byW v.a 0 == d) && (byW v.z 0 == z))))
theorem f29_ok (s : ByteArray) (b : List Int) (hs : bytesOf s = bv b) (hz : s.size ≤ 1000000) (hb : byt b) (hl : b.length ≤ 1000) (p q u v z : Int) :
    Fn Tryd.prog X.G 29 [.p (.str s), .p (.i .u8 p), .p (.i .u8 q), .p (.i .u8 u), .p (.i .u8 v), .p (.i .u8 z)] (.p (.b (isV (afterV first (b ++ padL b.length)) p q u v z))) := by
  refine Fn.intro (I := []) hX hm 0 Tryd.func29 rfl rfl (by kernel_rfl) rfl ?_
  have c := f14_ok b hb
  rw [show sumD b = ofB b from by unfold sumD; rw [if_neg (by omega)], show sumE b = 0 from by unfold sumE; rw [if_neg (by omega)]] at c
  unfold ofB at c
  generalize afterV first (b ++ padL b.length) = w at *
  unfold digestV at c
  rw [show bvs b = .ro ush (bytesOf s) from by rw [hs]] at c
  have d1 := decide_eq_true hz
  unfold isV
  conv => whnf
  conv => arg 2; repeat (first | rw [d1] | (whnf; arg 2))
  conv => whnf
  refine ⟨_, c, ?_⟩
  conv => whnf
  refine iteT rfl ?_
  conv => whnf
  refine iteC (fun h => ?_) (fun h => ?_)
  · rw [h]
    conv => whnf
    refine iteC (fun h => ?_) (fun h => ?_)
    · rw [h]
      conv => whnf
      refine iteC (fun h => ?_) (fun h => ?_)
      · rw [h]
        conv => whnf
        refine iteC (fun h => ?_) (fun h => ?_)
        · rw [h]
          conv => whnf
          refine iteC (fun h => ?_) (fun h => ?_)
          · rw [h]; rfl
          · rw [h]; rfl
        · rw [h]; rfl
      · rw [h]; rfl
    · rw [h]; rfl
  · rw [h]; rfl
theorem ex0 : isV (afterV first ([] ++ padL ([] : List Int).length)) 227 176 196 66 85 = true := by kernel_rfl
theorem ex1 : isV (afterV first ([97, 98, 99] ++ padL ([97, 98, 99] : List Int).length)) 186 120 22 191 173 = true := by kernel_rfl
def p3 : List Int := [128, 0, 0, 0, 0, 0, 0, 0, 0, 0, 0, 0, 0, 0, 0, 0, 0, 0, 0, 0, 0, 0, 0, 0, 0, 0, 0, 0, 0, 0, 0, 0, 0, 0, 0, 0, 0, 0, 0, 0, 0, 0, 0, 0, 0, 0, 0, 0, 0, 0, 0, 0, 0, 0, 0, 0, 0, 0, 0, 0, 24]
theorem p3_eq : padP 3 = p3 := by kernel_rfl
theorem p3_zero : ∀ i, i < 60 → 1 ≤ i → p3.getD i 0 = 0 := by decide +kernel
theorem f28_ok : Fn Tryd.prog X.G 28 [] (.p (.b true)) := by
  refine Fn.intro (I := []) hX hm 0 Tryd.func28 rfl rfl (by kernel_rfl) rfl ?_
  have c1 := f16_ok 3
  have c2 := f16_ok 56
  have c3 := f29_ok ⟨#[]⟩ [] rfl (by decide) (fun x hx => by simp at hx) (by decide) 227 176 196 66 85
  have c4 := f29_ok ⟨#[97, 98, 99]⟩ [97, 98, 99] rfl (by decide) (by intro x hx; simp at hx; omega) (by decide) 186 120 22 191 173
  rw [ex0] at c3
  rw [ex1] at c4
  rw [p3_eq, show padE 3 = 0 from rfl] at c1
  have hl : (padP 56).length = 72 := by kernel_rfl
  rw [show padE 56 = 0 from rfl] at c2
  generalize padP 56 = p at *
  conv => whnf
  refine ⟨_, c1, ?_⟩
  conv => whnf
  refine ⟨_, c2, ?_⟩
  conv => whnf
  refine iteF rfl ?_
  conv => whnf
  refine iteF rfl ?_
  conv => whnf
  refine iteF rfl ?_
  conv => whnf
  refine iteF rfl ?_
  conv => whnf
  refine iteF rfl ?_
  conv => whnf
  refine iteF (by rw [List.length_map, hl]; rfl) ?_
  conv => whnf
  refine LoopJ.intro (I := []) (base' := 0) hX hm (by kernel_rfl) (σ := Nat) (fun i => [(1, .own 56), (5, .p (.i .i64 ((i + 1 : Nat) : Int)))]) (fun _ => [(56, .els true ush (bv p3))]) (fun i => i ≤ 59) (fun i => 59 - i) 0 []
    (by omega) ⟨nofun, rfl, ⟨rfl, rfl, rfl, rfl, trivial⟩, ⟨rfl, rfl, trivial⟩⟩ ?_
  intro i hi
  conv => whnf
  refine iteC (fun h => ?_) (fun h => ?_)
  · have h := of_decide_eq_true h
    have h : ((i + 1 : Nat) : Int) < 60 := h
    have hlt : i + 1 < p3.length := by have : p3.length = 61 := rfl; omega
    have hz := p3_zero (i + 1) (by omega) (by omega)
    rw [List.getD_eq_getElem?_getD, List.getElem?_eq_getElem hlt] at hz
    have hz : p3[i + 1] = 0 := hz
    have ga := getM (f := PV.i .u8) hlt
    have gn := nthM (f := PV.i .u8) hlt
    rw [hz] at ga gn
    generalize p3 = pp at *
    conv => whnf
    iterate 2 (conv => arg 2; repeat (first | rw [ga] | rw [gn] | (whnf; arg 2))
               conv => whnf)
    refine iteF rfl ?_
    conv => whnf
    refine ⟨i + 1, [], by omega, by dsimp only; omega, nofun, rfl, ⟨rfl, rfl, incN (by omega), rfl, trivial⟩, ⟨rfl, rfl, trivial⟩⟩
  · conv => whnf
    refine ⟨_, c3, ?_⟩
    conv => whnf
    refine iteT rfl ?_
    conv => whnf
    refine ⟨_, c4, ?_⟩
    conv => whnf
    refine iteT rfl ?_
    rfl
end Go.Proofs.YtpbildnhhafohaaDoor.AM
