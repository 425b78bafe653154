/- Sha: hashes; bytes are written to them, and they are finished. -/
import Derived.Test.YtgdpmnkmllelmaaShaE
namespace Go.Proofs.Ytgdpmnkmllelmaa.AM
open Go Go.Proofs
set_option maxRecDepth 100000

structure Hs where
  w : V8
  r : List Int
  n : Int
abbrev hsv (h : Hs) : AV := .st [.p (hw h.w), bvs h.r, .p (.i .i64 h.n)]
def blk (h : V8) (b : List Int) : Nat → V8
  | 0 => h
  | k + 1 => takeV (blk h b k) ((b.drop (64 * k)).take 64)
def afterV (h : V8) (b : List Int) : V8 := blk h b (b.length / 64)
def writeH (h : Hs) (b : List Int) : Hs := ⟨afterV h.w (h.r ++ b), (h.r ++ b).drop (64 * ((h.r ++ b).length / 64)), IntKind.i64.wrap (h.n + b.length)⟩
def byW (w s : Int) : Int := IntKind.u8.wrap (sr32 w s)
def digestV (v : V8) : List Int := [byW v.a 24, byW v.a 16, byW v.a 8, byW v.a 0, byW v.b 24, byW v.b 16, byW v.b 8, byW v.b 0, byW v.c 24, byW v.c 16, byW v.c 8, byW v.c 0, byW v.d 24, byW v.d 16, byW v.d 8, byW v.d 0,
  byW v.e 24, byW v.e 16, byW v.e 8, byW v.e 0, byW v.f 24, byW v.f 16, byW v.f 8, byW v.f 0, byW v.g 24, byW v.g 16, byW v.g 8, byW v.g 0, byW v.z 24, byW v.z 16, byW v.z 8, byW v.z 0]
def validH (h : Hs) : Bool := decide (0 ≤ h.n) && (decide (h.n ≤ 128000) && ((h.r.length : Int) == h.n.tmod 64))
theorem byt_drop {b : List Int} (hb : byt b) (n : Nat) : byt (b.drop n) := fun x hx => hb x (List.mem_of_mem_drop hx)
theorem byt_take {b : List Int} (hb : byt b) (n : Nat) : byt (b.take n) := fun x hx => hb x (List.mem_of_mem_take hx)
theorem byt_append {a b : List Int} (ha : byt a) (hb : byt b) : byt (a ++ b) := fun x hx => by
  rcases List.mem_append.1 hx with h | h
  · exact ha x h
  · exact hb x h
theorem bv_sub (b : List Int) (i n : Nat) : bv ((b.drop i).take n) = ((bv b).drop i).take n := by simp only [bv, List.map_take, List.map_drop]
theorem bvs_sub (b : List Int) (i n : Nat) : bvs ((b.drop i).take n) = .ro ush (((bv b).drop i).take n) := congrArg (AV.ro ush) (bv_sub b i n)

end Go.Proofs.Ytgdpmnkmllelmaa.AM
