/- Ported by name: FieldI. -/
import Derived.Test.YtgdpmnkmllelmaapFieldH
namespace Go.Proofs.Ytgdpmnkmllelmaa.AM
open Go Go.Proofs
set_option maxRecDepth 100000
abbrev numF (k n : Int) : Fd := ⟨k, n, zd⟩
theorem numF_ok {k n : Int} (h1 : 0 ≤ k ∧ k < 256) (h2 : 0 ≤ n ∧ n < 18446744073709551616) : (numF k n).ok :=
  ⟨h1, h2, by simp, fun x hx => by have := List.eq_of_mem_replicate hx; omega⟩
def gf : List Fd := [numF 4 258, numF 1 1, numF 3 3]
theorem gf_ok : ∀ f ∈ gf, f.ok := by
  intro f hf
  simp only [gf, List.mem_cons, List.not_mem_nil, or_false] at hf
  rcases hf with rfl | rfl | rfl <;> exact numF_ok (by decide) (by decide)
theorem byt_of {l : List Int} (h : l.all (fun x => decide (0 ≤ x) && decide (x < 256)) = true) : byt l := fun x hx => by
  have := List.all_eq_true.1 h x hx
  simpa using this
def kindsL (l : List Fd) : List Int := l.map Fd.k
theorem kinds_step {l : List Fd} {i : Nat} (h : i < l.length) : kindsL (l.take (i + 1)) = kindsL (l.take i) ++ [l[i].k] := by
  unfold kindsL
  rw [List.take_add_one, List.map_append]
  simp [h]
end Go.Proofs.Ytgdpmnkmllelmaa.AM
