/- The variables that the laws read hold what the program's text lays: from the rows' condition to the walks' premise. -/
import Derived.Test.YtipmkjfbdflneaaDoorBaseD
import Derived.Test.YtipmkjfbdflneaaDoorRows
import Derived.ProofKit
import Derived.LaidMore
import Derived.OpenShut
import Derived.Stop.Joined
namespace Go.Proofs.YtipmkjfbdflneaaDoor.AM
open Go Go.Proofs Go.ChangeShapes Go.WideShapes Go.ChangeAt Go.RowKit
set_option maxRecDepth 100000

section
variable {H : Type} {enc : TypeId × Value → H} {P : Program} {w : World} {base : Nat} {spare : Nat → Bool} {held : Bool} {fuel : Nat} {t : TypeId} {cs : List Value}
theorem trod_ints {k : IntKind} {e : TypeId} {n : Nat} {ns : List Int} {p : List MemPlace} (ht : P.underlying t = some (.array n e)) (he : P.underlying e = some (.int k)) (hce : P.cellsOf e = 1) (hct : P.cellsOf t = n) (hn : ns.length = n)
    (h : DataW.trod enc P w base spare held fuel t cs = some (.agg (ns.map fun m => .lit (.int k m)), p)) : cs = ns.map (.int k) := by
  obtain ⟨xs, m, rfl, hx, hlen, hxn, hel⟩ := DataW.trod_array ht h
  simp only [Prod.mk.injEq, DataW.agg.injEq] at hx
  refine List.ext_getElem (by simp; omega) fun i h1 h2 => ?_
  have hi : i < n := by omega
  have hix : i < xs.length := by omega
  have h3 := hel i hi
  rw [hce, Nat.mul_one, List.getElem?_eq_getElem hix] at h3
  obtain ⟨v, e1, e2, _⟩ := DataW.trod_int he h3
  have h4 := congrArg (fun l => l[i]?) hx.1
  simp only [List.getElem?_map] at h4
  have hin : i < ns.length := by omega
  rw [List.getElem?_eq_getElem hix, List.getElem?_eq_getElem hin, e2] at h4
  simp at h4
  have h5 := congrArg (fun l => l[0]?) e1
  simp at h5
  rw [List.getElem?_eq_getElem h1] at h5
  simp at h5
  rw [h5, ← h4]
  simp
end
theorem cellsL_ints (k : IntKind) (ns : List Int) : PV.cellsL (ns.map (.i k)) = ns.map (.int k) := by
  induction ns with
  | nil => rfl
  | cons n ns ih =>
    show [Value.int k n] ++ PV.cellsL (ns.map (.i k)) = _
    rw [ih]
    rfl
def laidL : List (String × DataW Unit) := [("spigot/sha.constants", Rows.laid_spigot_sha_constants), ("spigot/sha.first", Rows.laid_spigot_sha_first)]
theorem door_met (os : Os) (args : Array Value) : laidMetH Tryd.prog laidL ((World.doorLaid Tryd.prog 400 os).forCall (fun _ _ => 0) ⟨#[], args, []⟩).memory :=
  laidMetH_of_parts3 (fuel := 8) (laidMet_of_run' 8 (by kernel_rfl) (by kernel_rfl)) (by kernel_rfl) (by kernel_rfl)
theorem gConsts : Tryd.prog.globalNamed "spigot/sha.constants" = some 1 := by kernel_rfl
theorem gFirst : Tryd.prog.globalNamed "spigot/sha.first" = some 0 := by kernel_rfl
theorem tConsts : (Tryd.prog.globals[ 1 ]?).map (·.type) = some 168 := by kernel_rfl
theorem tFirst : (Tryd.prog.globals[ 0 ]?).map (·.type) = some 152 := by kernel_rfl
theorem datConsts {H : Type} : (Rows.laid_spigot_sha_constants : DataW H) = .agg (constsL.map fun m => .lit (.int .u32 m)) := rfl
theorem datFirst {H : Type} : (Rows.laid_spigot_sha_first : DataW H) = .agg (firstL.map fun m => .lit (.int .u32 m)) := rfl
theorem rowAt_of {W : World} {g : Nat} {n : String} {cs : Array Value} (hg : Tryd.prog.globalNamed n = some g) (hv : W.var? Tryd.prog n = some cs) : RowAt W ⟨g, 0, none⟩ cs.toList := fun j c hj => by
  have := World.var?_cell hg hv j
  rw [Array.getElem?_toList] at hj
  rw [hj] at this
  unfold Addr.add
  by_cases h0 : j = 0
  · subst h0
    simpa using this
  · simpa [h0] using this
theorem globs {W : World} (h : laidMetH Tryd.prog laidL W) : GlobOK W X.G := by
  rw [MakeChecks.laidMetH_plain _ _ _ (by kernel_rfl)] at h
  obtain ⟨ps, ⟨g0, t0, cs0, f0, p0, q0, hg0, ht0, hv0, hd0, ⟨g1, t1, cs1, f1, p1, q1, hg1, ht1, hv1, hd1, _, _⟩, _⟩, _, _⟩ := h
  obtain rfl := Option.some.inj (gConsts.symm.trans hg0)
  obtain rfl := Option.some.inj (gFirst.symm.trans hg1)
  obtain rfl := Option.some.inj (tConsts.symm.trans ht0)
  obtain rfl := Option.some.inj (tFirst.symm.trans ht1)
  rw [datConsts] at hd0
  rw [datFirst] at hd1
  have r0 := rowAt_of gConsts hv0
  have r1 := rowAt_of gFirst hv1
  rw [trod_ints (k := .u32) (n := 64) (e := 24) (by kernel_rfl) (by kernel_rfl) (by kernel_rfl) (by kernel_rfl) (by rfl) hd0] at r0
  rw [trod_ints (k := .u32) (n := 8) (e := 24) (by kernel_rfl) (by kernel_rfl) (by kernel_rfl) (by kernel_rfl) (by rfl) hd1] at r1
  intro g x hx
  have hx : (g, x) ∈ [(1, PV.arr 64 wsh (wv constsL)), (0, PV.arr 8 wsh (wv firstL))] := hx
  simp only [List.mem_cons, List.not_mem_nil, or_false, Prod.mk.injEq] at hx
  rcases hx with ⟨rfl, rfl⟩ | ⟨rfl, rfl⟩
  · refine ⟨PV.okB_ok _ (by kernel_rfl), ?_⟩
    show RowAt W _ (PV.cellsL (wv constsL))
    rw [cellsL_ints]
    exact r0
  · refine ⟨PV.okB_ok _ (by kernel_rfl), ?_⟩
    show RowAt W _ (PV.cellsL (wv firstL))
    rw [cellsL_ints]
    exact r1
theorem own : ownKnob Tryd.prog.godebug = none := by kernel_rfl
theorem laidOut : laidOutB Tryd.prog = true := by kernel_rfl
end Go.Proofs.YtipmkjfbdflneaaDoor.AM
