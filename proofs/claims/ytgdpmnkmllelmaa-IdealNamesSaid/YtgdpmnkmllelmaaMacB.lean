/- Mac: pads and sums. -/
import Derived.Test.YtgdpmnkmllelmaaMacA
import Derived.Test.YtgdpmnkmllelmaaShaM
namespace Go.Proofs.Ytgdpmnkmllelmaa.AM
open Go Go.Proofs
set_option maxRecDepth 100000

def x8 (a b : Int) : Int := IntKind.u8.wrap (BitVec.ofInt IntKind.u8.bits a ^^^ BitVec.ofInt IntKind.u8.bits b).toNat
theorem x8_range (a b : Int) : 0 ≤ x8 a b ∧ x8 a b < 256 := u8_range _
def keyB (k : List Int) : List Int := if k.length > 64 then ofB k else k
def blockK (k : List Int) : List Int := keyB k ++ List.replicate (64 - (keyB k).length) 0
def mixK (k : List Int) (y : Int) : List Int := (blockK k).map fun x => x8 x y
theorem ofB_length (b : List Int) : (ofB b).length = 32 := rfl
theorem byW_byt (w s : Int) : 0 ≤ byW w s ∧ byW w s < 256 := by
  unfold byW
  simp [IntKind.wrap, IntKind.signed, IntKind.bits]
  omega
theorem digestV_byt (v : V8) : byt (digestV v) := by
  intro x hx
  simp only [digestV, List.mem_cons, List.not_mem_nil, or_false] at hx
  rcases hx with h | h | h | h | h | h | h | h | h | h | h | h | h | h | h | h | h | h | h | h | h | h | h | h | h | h | h | h | h | h | h | h <;> (rw [h]; exact byW_byt _ _)
theorem ofB_byt (b : List Int) : byt (ofB b) := digestV_byt _
theorem keyB_len {k : List Int} : (keyB k).length ≤ 64 := by
  unfold keyB
  split
  · rw [ofB_length]; decide
  · omega
theorem keyB_byt {k : List Int} (h : byt k) : byt (keyB k) := by
  unfold keyB
  split
  · exact ofB_byt _
  · exact h
theorem blockK_len (k : List Int) : (blockK k).length = 64 := by
  have := keyB_len (k := k)
  simp [blockK]
  omega
theorem mixK_len (k : List Int) (y : Int) : (mixK k y).length = 64 := by rw [mixK, List.length_map, blockK_len]
theorem mixK_byt (k : List Int) (y : Int) : byt (mixK k y) := fun x hx => by
  obtain ⟨z, _, rfl⟩ := List.mem_map.1 hx
  exact x8_range _ _
abbrev dv64 (l : List Int) : PV := .arr 64 ush (bv l)
theorem copy_block (k : List Int) : copyL (List.replicate 64 (PV.i .u8 0)) 0 64 (bv (keyB k)) = bv (blockK k) := by
  have h := keyB_len (k := k)
  unfold copyL blockK
  rw [List.take_zero, List.nil_append, List.take_of_length_le (l := bv (keyB k)) (by simpa using h), List.drop_replicate, bv_app, List.length_map, Nat.zero_add]
  simp
def hashE (b : List Int) : Int := if b.length > 127936 then 4 else 0
def hashD (p b : List Int) : List Int := if b.length > 127936 then zd else ofB (p ++ b)
def inE (k b : List Int) : Int := if k.length > 200 ∨ b.length > 127936 then 4 else 0
def inD (k b : List Int) : List Int := if k.length > 200 ∨ b.length > 127936 then zd else ofB (mixK k 54 ++ b)
def ouE (k : List Int) : Int := if k.length > 200 then 4 else 0
def ouD (k d : List Int) : List Int := if k.length > 200 then zd else ofB (mixK k 92 ++ d)
def macD (k b : List Int) : List Int := if k.length > 200 ∨ b.length > 127936 then zd else ofB (mixK k 92 ++ ofB (mixK k 54 ++ b))
end Go.Proofs.Ytgdpmnkmllelmaa.AM
