/- ShaNames: the walk of the law. -/
import Derived.Test.YtpbildnhhafohaaDoorShaO
namespace Go.Proofs.YtpbildnhhafohaaDoor.AM
open Go Go.Proofs
set_option maxRecDepth 100000

def sLong : ByteArray := ⟨#[97, 98, 99, 100, 98, 99, 100, 101, 99, 100, 101, 102, 100, 101, 102, 103, 101, 102, 103, 104, 102, 103, 104, 105, 103, 104, 105, 106, 104, 105, 106, 107, 105, 106, 107, 108, 106, 107, 108, 109, 107, 108, 109, 110, 108, 109, 110, 111, 109, 110, 111, 112, 110, 111, 112, 113]⟩
def bLong : List Int := [97, 98, 99, 100, 98, 99, 100, 101, 99, 100, 101, 102, 100, 101, 102, 103, 101, 102, 103, 104, 102, 103, 104, 105, 103, 104, 105, 106, 104, 105, 106, 107, 105, 106, 107, 108, 106, 107, 108, 109, 107, 108, 109, 110, 108, 109, 110, 111, 109, 110, 111, 112, 110, 111, 112, 113]
theorem ex2 : isV (afterV first (bLong ++ padL bLong.length)) 36 141 106 97 193 = true := by kernel_rfl
theorem byt_all {l : List Int} (h : (l.all fun x => decide (0 ≤ x) && decide (x < 256)) = true) : byt l := fun x hx => by
  have := List.all_eq_true.1 h x hx
  simpa using this
theorem zb (n : Int) : bvs (List.replicate n.toNat 0) = .ro ush (List.replicate n.toNat (PV.i .u8 0)) := by simp
theorem zbyt (n : Nat) : byt (List.replicate n 0) := fun x hx => by
  rw [List.mem_replicate] at hx
  rw [hx.2]
  decide
theorem sum_many (n : Int) (h : n > 128000) : Fn Tryd.prog X.G 14 [.ro ush (List.replicate n.toNat (PV.i .u8 0))] (.tup [.p (dv zd), .p (.i .i64 4)]) := by
  have c := f14_ok (List.replicate n.toNat 0) (zbyt _)
  rw [zb, show sumD (List.replicate n.toNat 0) = zd from by unfold sumD; rw [if_pos (by simp; omega)], show sumE (List.replicate n.toNat 0) = 4 from by unfold sumE; rw [if_pos (by simp; omega)]] at c
  exact c
theorem block_bad (n : Int) (h : n.toNat ≠ 64) : Fn Tryd.prog X.G 18 [.p (hw z8), .ro ush (List.replicate n.toNat (PV.i .u8 0))] (.tup [.p (hw z8), .p (.i .i64 2)]) := by
  have c := f18_ok z8 (List.replicate n.toNat 0) (zbyt _)
  rw [zb, show blkV z8 (List.replicate n.toNat 0) = z8 from by unfold blkV; rw [if_neg (by simp; omega)], show blkE (List.replicate n.toNat 0) = 2 from by unfold blkE; rw [if_neg (by simp; omega)]] at c
  exact c
theorem write_bad (r : List Int) (n : Int) (b : List Int) (hr : byt r) (hb : byt b) (hv : validH ⟨z8, r, n⟩ = false) : Fn Tryd.prog X.G 21 [hsv ⟨z8, r, n⟩, bvs b] (.tup [hsv h00, .p (.i .i64 8)]) := by
  have c := f21_ok ⟨z8, r, n⟩ b hr hb
  rw [show wrD ⟨z8, r, n⟩ b = h00 from by unfold wrD wrE; rw [hv]; rfl, show wrE ⟨z8, r, n⟩ b = 8 from by unfold wrE; rw [hv]; rfl] at c
  exact c
theorem write_many (n : Int) (b : List Int) (hb : byt b) (hv : validH ⟨z8, [], n⟩ = true) (hl : (b.length : Int) > 128000 - n) : Fn Tryd.prog X.G 21 [hsv ⟨z8, [], n⟩, bvs b] (.tup [hsv h00, .p (.i .i64 4)]) := by
  have c := f21_ok ⟨z8, [], n⟩ b (fun x hx => by simp at hx) hb
  have e : wrE ⟨z8, [], n⟩ b = 4 := by unfold wrE; rw [if_pos hv, if_pos hl]
  rw [show wrD ⟨z8, [], n⟩ b = h00 from by unfold wrD; rw [e]; rfl, e] at c
  exact c
theorem finish_bad (r : List Int) (n : Int) (hr : byt r) (hv : validH ⟨z8, r, n⟩ = false) : Fn Tryd.prog X.G 23 [hsv ⟨z8, r, n⟩] (.tup [.p (dv zd), .p (.i .i64 8)]) := by
  have c := f23_ok ⟨z8, r, n⟩ hr
  rw [show fiD ⟨z8, r, n⟩ = zd from by unfold fiD; rw [hv]; rfl, show fiE ⟨z8, r, n⟩ = 8 from by unfold fiE; rw [hv]; rfl] at c
  exact c
theorem write_full : ∃ w : V8, Fn Tryd.prog X.G 21 [hsv ⟨z8, [], 127936⟩, .ro ush (List.replicate (Int.toNat 64) (PV.i .u8 0))] (.tup [hsv ⟨w, [], 128000⟩, .p (.i .i64 0)]) := by
  have c := f21_ok ⟨z8, [], 127936⟩ (List.replicate (Int.toNat 64) 0) (fun x hx => by simp at hx) (zbyt _)
  obtain ⟨q1, q2, q3, q4⟩ := validW (h := ⟨z8, [], 127936⟩) (b := List.replicate (Int.toNat 64) 0) (m := 127936) rfl (by show 0 = _; rfl) (by simp)
  rw [q1, q2, zb] at c
  generalize writeH ⟨z8, [], 127936⟩ (List.replicate (Int.toNat 64) 0) = g at *
  obtain ⟨w, r, n⟩ := g
  dsimp only at q3 q4
  have hr : r = [] := by
    refine List.eq_nil_of_length_eq_zero ?_
    rw [q4, List.length_replicate]
    rfl
  rw [List.length_replicate] at q3
  have hn : n = 128000 := by rw [q3]; rfl
  subst hr
  subst hn
  exact ⟨w, c⟩
def pEnd : List Int := [128, 0, 0, 0, 0, 0, 0, 0, 0, 0, 0, 0, 0, 0, 0, 0, 0, 0, 0, 0, 0, 0, 0, 0, 0, 0, 0, 0, 0, 0, 0, 0, 0, 0, 0, 0, 0, 0, 0, 0, 0, 0, 0, 0, 0, 0, 0, 0, 0, 0, 0, 0, 0, 0, 0, 0, 0, 0, 0, 0, 0, 15, 160, 0]
def pZero : List Int := [128, 0, 0, 0, 0, 0, 0, 0, 0, 0, 0, 0, 0, 0, 0, 0, 0, 0, 0, 0, 0, 0, 0, 0, 0, 0, 0, 0, 0, 0, 0, 0, 0, 0, 0, 0, 0, 0, 0, 0, 0, 0, 0, 0, 0, 0, 0, 0, 0, 0, 0, 0, 0, 0, 0, 0, 0, 0, 0, 0, 0, 0, 0, 0]
theorem pEnd_eq : padP 128000 = pEnd := by kernel_rfl
theorem pZero_eq : padP 0 = pZero := by kernel_rfl
set_option maxHeartbeats 4000000 in
theorem f7_ok : Fn Tryd.prog X.G 7 [] (.p (.b true)) := by
  refine Fn.intro (I := []) hX hm 0 Tryd.func7 rfl rfl (by kernel_rfl) rfl ?_
  have nb : byt ([] : List Int) := fun x hx => by simp at hx
  have c0 := f29_ok sLong bLong rfl (by decide) (byt_all rfl) (by decide) 36 141 106 97 193
  rw [ex2] at c0
  have c2 := f16_ok (-1)
  rw [show padP (-1) = [] from rfl, show padE (-1) = 2 from rfl] at c2
  have c3 := f16_ok 128001
  rw [show padP 128001 = [] from rfl, show padE 128001 = 2 from rfl] at c3
  have c4 := f16_ok 128000
  rw [pEnd_eq, show padE 128000 = 0 from rfl] at c4
  have c5 := f16_ok 0
  rw [pZero_eq, show padE 0 = 0 from rfl] at c5
  obtain ⟨w, c6⟩ := write_full
  conv => whnf
  refine ⟨_, c0, ?_⟩
  conv => whnf
  refine iteT rfl ?_
  conv => whnf
  refine ⟨_, sum_many _ (by decide), ?_⟩
  conv => whnf
  refine ⟨_, c2, ?_⟩
  conv => whnf
  refine ⟨_, c3, ?_⟩
  conv => whnf
  refine ⟨_, c4, ?_⟩
  conv => whnf
  refine ⟨_, c5, ?_⟩
  conv => whnf
  refine ⟨_, block_bad _ (by decide), ?_⟩
  conv => whnf
  refine ⟨_, block_bad _ (by decide), ?_⟩
  conv => whnf
  refine ⟨_, (write_bad [] (-64) [] nb nb rfl).nilS1.nil2, ?_⟩
  conv => whnf
  refine ⟨_, (write_bad [] 1 [] nb nb rfl).nilS1.nil2, ?_⟩
  conv => whnf
  have c7 : Fn Tryd.prog X.G 21 [.st [.p (hw z8), bvs (List.replicate (Int.toNat 64) 0), .p (.i .i64 64)], bvs []] (.tup [hsv h00, .p (.i .i64 8)]) := write_bad (List.replicate (Int.toNat 64) 0) 64 [] (zbyt _) nb (by kernel_rfl)
  rw [zb] at c7
  refine ⟨_, c7.nil2, ?_⟩
  conv => whnf
  refine ⟨_, (write_many 128000 [1] (byt_all rfl) rfl (by decide)).nilS1, ?_⟩
  conv => whnf
  have c8 := write_many 127936 (List.replicate (Int.toNat 65) 0) (zbyt _) rfl (by decide)
  rw [zb] at c8
  refine ⟨_, c8.nilS1, ?_⟩
  conv => whnf
  refine ⟨_, c6.nilS1, ?_⟩
  conv => whnf
  refine ⟨_, (finish_bad [] 128064 nb rfl).nilS1, ?_⟩
  conv => whnf
  refine ⟨_, finish_bad [1, 2] 3 (byt_all rfl) rfl, ?_⟩
  conv => whnf
  repeat (refine iteT rfl ?_
          conv => whnf)
  refine ⟨_, f28_ok, ?_⟩
  conv => whnf
  refine iteT rfl ?_
  rfl
end Go.Proofs.YtpbildnhhafohaaDoor.AM
