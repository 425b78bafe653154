/- The library's sort: comparing; insertion. -/
import Derived.Test.YtgjebgplbkjkhaaSrtA
import Derived.Test.YtgjebgplbkjkhaaCkA
namespace Go.Proofs.Ytgjebgplbkjkhaa.AM
open Go Go.Proofs Go.Sort
set_option maxRecDepth 100000

/-- The sorted slice's block. -/
abbrev qb (d : Array Int) : Blk := .els true qsh64 (qv64 d.toList)
theorem gQ {d : Array Int} {i : Nat} (h : i < d.size) {e : Int} (he : e = (i : Int)) : getI (qv64 d.toList) e = some (.i .u64 d[i]!) := by
  subst he
  have h1 : i < d.toList.length := by simpa using h
  rw [getM (f := PV.i .u64) h1, Array.getElem_toList, getElem!_pos d i h]
theorem gN {d : Array Int} {i : Nat} (h : i < d.size) {e : Nat} (he : e = i) : (qv64 d.toList)[e]? = some (.i .u64 d[i]!) := by
  subst he
  have h1 : e < d.toList.length := by simpa using h
  rw [List.getElem?_map, List.getElem?_eq_getElem h1, Array.getElem_toList, getElem!_pos d e h]
  rfl
theorem setQ (d : Array Int) (i : Nat) (x : Int) : (qv64 d.toList).set i (.i .u64 x) = qv64 (d.setIfInBounds i x).toList := by
  rw [← List.map_set, Array.toList_setIfInBounds]
theorem swpQ (d : Array Int) (i j : Nat) : ((qv64 d.toList).set i (.i .u64 d[j]!)).set j (.i .u64 d[i]!) = qv64 (swp d i j).toList := by
  rw [setQ, setQ]; rfl

theorem heapQ {l : List PV} {d : Array Int} {T : Heap} (h : l = qv64 d.toList) : ((208, Blk.els true qsh64 l) :: T : Heap) = (208, qb d) :: T := by rw [h]
/-- An exchange, as the memory shows it. -/
theorem swpZ {d : Array Int} {i j : Nat} {p q : Nat} {x y : Int} (hp : p = i) (hq : q = j) (hx : x = d[j]!) (hy : y = d[i]!) : ((qv64 d.toList).set p (.i .u64 x)).set q (.i .u64 y) = qv64 (swp d i j).toList := by
  subst hp hq hx hy; exact swpQ d p q
theorem gS {d : Array Int} {i k p : Nat} {x : Int} (hp : p = k) (h : i < d.size) {e : Int} (he : e = (i : Int)) : getI ((qv64 d.toList).set p (.i .u64 x)) e = some (.i .u64 (d.setIfInBounds k x)[i]!) := by
  subst hp
  rw [setQ]
  exact gQ (by simpa using h) he
theorem nS {d : Array Int} {i k p : Nat} {x : Int} (hp : p = k) (h : i < d.size) {e : Nat} (he : e = i) : ((qv64 d.toList).set p (.i .u64 x))[e]? = some (.i .u64 (d.setIfInBounds k x)[i]!) := by
  subst hp
  rw [setQ]
  exact gN (by simpa using h) he

theorem f33_ok (x : Int) : Fn Try.prog X.G 33 [.p (.i .u64 x)] (.p (.b false)) := by
  refine Fn.intro (I := []) hX hm 0 Try.func33 rfl rfl (by kernel_rfl) rfl ?_
  conv => whnf
  refine iteF (by simp) ?_
  rfl
theorem f28_ok (x y : Int) : Fn Try.prog X.G 28 [.p (.i .u64 x), .p (.i .u64 y)] (.p (.b (ltInt x y))) := by
  refine Fn.intro (I := []) hX hm 0 Try.func28 rfl rfl (by kernel_rfl) rfl ?_
  have c1 := f33_ok x
  unfold ltInt
  conv => whnf
  refine ⟨_, c1, ?_⟩
  conv => whnf
  refine iteF rfl ?_
  conv => whnf
  refine iteC (fun h => ?_) (fun h => ?_)
  · rw [h]; rfl
  · rw [h]; rfl
end Go.Proofs.Ytgjebgplbkjkhaa.AM
