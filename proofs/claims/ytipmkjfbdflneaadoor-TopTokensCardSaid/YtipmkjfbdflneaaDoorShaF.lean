/- Sha: hashes; bytes are written to them, and they are finished. -/
import Derived.Test.YtipmkjfbdflneaaDoorShaE
namespace Go.Proofs.YtipmkjfbdflneaaDoor.AM
open Go Go.Proofs
set_option maxRecDepth 100000

structure Hs where
  w : V8
  r : List Int
  n : Int
abbrev hsv (h : Hs) : AV := .st [.p (hw h.w), bvs h.r, .p (.i .i64 h.n)]
def blk (h : V8) (b : List Int) : Nat → V8
  | 0 => h
  | k + 1 => takeV (blk h b k) ((b.drop (64 * k)).take 64)
def afterV (h : V8) (b : List Int) : V8 := blk h b (b.length / 64)
def writeH (h : Hs) (b : List Int) : Hs := ⟨afterV h.w (h.r ++ b), (h.r ++ b).drop (64 * ((h.r ++ b).length / 64)), IntKind.i64.wrap (h.n + b.length)⟩
def byW (w s : Int) : Int := IntKind.u8.wrap (sr32 w s)
def digestV (v : V8) : List Int := [byW v.a 24, byW v.a 16, byW v.a 8, byW v.a 0, byW v.b 24, byW v.b 16, byW v.b 8, byW v.b 0, byW v.c 24, byW v.c 16, byW v.c 8, byW v.c 0, byW v.d 24, byW v.d 16, byW v.d 8, byW v.d 0,
  byW v.e 24, byW v.e 16, byW v.e 8, byW v.e 0, byW v.f 24, byW v.f 16, byW v.f 8, byW v.f 0, byW v.g 24, byW v.g 16, byW v.g 8, byW v.g 0, byW v.z 24, byW v.z 16, byW v.z 8, byW v.z 0]
def validH (h : Hs) : Bool := decide (0 ≤ h.n) && (decide (h.n ≤ 128000) && ((h.r.length : Int) == h.n.tmod 64))
theorem byt_drop {b : List Int} (hb : byt b) (n : Nat) : byt (b.drop n) := fun x hx => hb x (List.mem_of_mem_drop hx)
theorem byt_take {b : List Int} (hb : byt b) (n : Nat) : byt (b.take n) := fun x hx => hb x (List.mem_of_mem_take hx)
theorem byt_append {a b : List Int} (ha : byt a) (hb : byt b) : byt (a ++ b) := fun x hx => by
  rcases List.mem_append.1 hx with h | h
  · exact ha x h
  · exact hb x h
theorem bv_sub (b : List Int) (i n : Nat) : bv ((b.drop i).take n) = ((bv b).drop i).take n := by simp only [bv, List.map_take, List.map_drop]
theorem bvs_sub (b : List Int) (i n : Nat) : bvs ((b.drop i).take n) = .ro ush (((bv b).drop i).take n) := congrArg (AV.ro ush) (bv_sub b i n)

theorem f104_ok (h : Hs) : Fn Tryd.prog X.G 104 [hsv h] (.p (.b (validH h))) := by
  refine Fn.intro (I := []) hX hm 0 Tryd.func104 rfl rfl (by kernel_rfl) rfl ?_
  unfold validH
  conv => whnf
  refine iteC (fun h1 => ?_) (fun h1 => ?_)
  · rw [show decide (0 ≤ h.n) = true from h1]
    conv => whnf
    refine iteC (fun h2 => ?_) (fun h2 => ?_)
    · rw [h2]
      conv => whnf
      refine iteC (fun h3 => ?_) (fun h3 => ?_)
      · rw [List.length_map] at h3
        rw [h3]
        rfl
      · rw [List.length_map] at h3
        rw [h3]
        rfl
    · rw [h2]
      rfl
  · rw [show decide (0 ≤ h.n) = false from h1]
    rfl
theorem f93_ok : Fn Tryd.prog X.G 93 [] (hsv ⟨first, [], 0⟩) := by
  refine Fn.intro (I := []) hX hm 0 Tryd.func93 rfl rfl (by kernel_rfl) rfl ?_
  conv => whnf
  rfl
set_option maxHeartbeats 8000000 in
theorem f92_ok (h : Hs) (b : List Int) (hr : byt h.r) (hb : byt b) (lr : h.r.length ≤ 400000) (lb : b.length ≤ 400000) : Fn Tryd.prog X.G 92 [hsv h, bvs b] (hsv (writeH h b)) := by
  refine Fn.intro (I := []) hX hm 0 Tryd.func92 rfl rfl (by kernel_rfl) rfl ?_
  have hall : byt (h.r ++ b) := byt_append hr hb
  have la : (h.r ++ b).length ≤ 800000 := by simp; omega
  have cc := f98_ok h.r b (by omega) (by omega)
  obtain ⟨w, r, n⟩ := h
  dsimp only at *
  unfold writeH
  dsimp only
  generalize r ++ b = al at *
  conv => whnf
  refine ⟨_, cc, ?_⟩
  conv => whnf
  refine LoopJ.unroll (I := []) (base' := 0) hX hm (by kernel_rfl) ?_
  conv => whnf
  refine iteC (fun h1 => ?_) (fun h1 => ?_)
  · have h1 := of_decide_eq_true h1
    rw [List.length_map] at h1
    have h1' : (64 : Int) ≤ ((bv al).length : Int) := by simp; omega
    have d1 : decide ((64 : Int) ≤ ((bv al).length : Int)) = true := decide_eq_true h1'
    have ct := f99_ok w ((al.drop 0).take 64) (byt_take (byt_drop hall _) _) (by simp; omega)
    rw [bvs_sub] at ct
    have nn : (⟨w, r, n⟩ : Hs).n = n := rfl
    conv => whnf
    conv => arg 2; repeat (first | rw [d1] | rw [leT h1'] | (whnf; arg 2))
    conv => whnf
    refine ⟨_, ct, ?_⟩
    conv => whnf
    conv => arg 2; repeat (first | rw [d1] | rw [leT h1'] | (whnf; arg 2))
    conv => whnf
    refine LoopJ.intro (I := []) (base' := 0) hX hm (by kernel_rfl) (σ := Nat) (fun k => [(2, .ptr 16 []), (4, .ptr 32 []), (5, .sl 128 (64 * k) (al.length - 64 * k))])
      (fun k => [(16, .var (.st [.p (hw (blk w al k)), bvs r, .p (.i .i64 (IntKind.i64.wrap (n + b.length)))])), (32, .var (.st [.p (.arr 8 wsh (List.replicate 8 (.i .u32 0))), .nil, .p (.i .i64 0)])), (128, .els true ush (bv al))]) (fun k => 1 ≤ k ∧ 64 * k ≤ al.length) (fun k => al.length - 64 * k) 1 []
      ⟨by omega, by omega⟩ ⟨nofun, rfl, ⟨rfl, rfl, rfl, rfl, ?_, rfl, trivial⟩, ⟨?_, rfl, rfl, rfl, rfl, rfl, trivial⟩⟩ ?_
    · show AV.sl 128 64 ((bv al).length - 64) = AV.sl 128 64 (al.length - 64)
      rw [List.length_map]
    · show some (Blk.var (.st [.p (hw (takeV w ((al.drop 0).take 64))), bvs r, .p (.i .i64 (IntKind.i64.wrap (n + (bv b).length)))])) = some (Blk.var (.st [.p (hw (takeV w ((al.drop 0).take 64))), bvs r, .p (.i .i64 (IntKind.i64.wrap (n + b.length)))]))
      rw [List.length_map]
    intro k hk
    conv => whnf
    refine iteC (fun h2 => ?_) (fun h2 => ?_)
    · have h2 := of_decide_eq_true h2
      have h2' : (64 : Int) ≤ ((al.length - 64 * k : Nat) : Int) := h2
      have d2 : decide ((64 : Int) ≤ ((al.length - 64 * k : Nat) : Int)) = true := decide_eq_true h2'
      have ct := f99_ok (blk w al k) ((al.drop (64 * k)).take 64) (byt_take (byt_drop hall _) _) (by simp; omega)
      rw [bvs_sub] at ct
      conv => whnf
      conv => arg 2; repeat (first | rw [d2] | rw [leT h2'] | (whnf; arg 2))
      conv => whnf
      refine ⟨_, ct, ?_⟩
      conv => whnf
      conv => arg 2; repeat (first | rw [d2] | rw [leT h2'] | (whnf; arg 2))
      conv => whnf
      refine ⟨k + 1, [], ⟨by omega, by omega⟩, by dsimp only; omega, nofun, rfl, ⟨rfl, rfl, rfl, rfl, ?_, rfl, trivial⟩, ⟨rfl, rfl, rfl, rfl, rfl, rfl, trivial⟩⟩
      show AV.sl 128 (64 * (k + 1)) (al.length - 64 * k - 64) = AV.sl 128 (64 * (k + 1)) (al.length - 64 * (k + 1))
      rw [show al.length - 64 * k - 64 = al.length - 64 * (k + 1) by omega]
    · have h2 := of_decide_eq_false h2
      have h2' : ¬ (64 : Int) ≤ ((al.length - 64 * k : Nat) : Int) := h2
      obtain rfl : al.length / 64 = k := by omega
      have cl := f74_ok ((al.drop (64 * (al.length / 64))).take (al.length - 64 * (al.length / 64))) (by simp; omega)
      rw [bvs_sub] at cl
      have e3 : al.drop (64 * (al.length / 64)) = (al.drop (64 * (al.length / 64))).take (al.length - 64 * (al.length / 64)) := by rw [List.take_of_length_le (by simp)]
      conv => whnf
      refine ⟨_, cl, ?_⟩
      conv => whnf
      show some (AV.st [.p (hw (blk w al (al.length / 64))), .ro ush (((bv al).drop (64 * (al.length / 64))).take (al.length - 64 * (al.length / 64))), .p (.i .i64 (IntKind.i64.wrap (n + b.length)))]) =
        some (AV.st [.p (hw (blk w al (al.length / 64))), bvs (al.drop (64 * (al.length / 64))), .p (.i .i64 (IntKind.i64.wrap (n + b.length)))])
      rw [← bvs_sub, ← e3]
  · have h1 := of_decide_eq_false h1
    rw [List.length_map] at h1
    have h1' : ¬ (64 : Int) ≤ (al.length : Int) := h1
    have e0 : al.length / 64 = 0 := by omega
    have cl := f74_ok al (by omega)
    conv => whnf
    refine ⟨_, cl, ?_⟩
    conv => whnf
    show some (AV.st [.p (hw w), bvs al, .p (.i .i64 (IntKind.i64.wrap (n + (bv b).length)))]) = some (AV.st [.p (hw (blk w al (al.length / 64))), bvs (al.drop (64 * (al.length / 64))), .p (.i .i64 (IntKind.i64.wrap (n + b.length)))])
    rw [List.length_map, e0]
    rfl
end Go.Proofs.YtipmkjfbdflneaaDoor.AM
