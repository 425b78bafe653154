/- CostTotals: totals are what the reference returns, and the requests stay as they are. The statement. -/
import Derived.Test.YtmngcmfcbfkimaaCostC
import Derived.Test.YtmngcmfcbfkimaaCPrices
namespace Go.Proofs.Ytmngcmfcbfkimaa.AM
open Go Go.Proofs

theorem qv_of {y : PV} (h1 : y.sh = qsh) (h2 : y.ok) (h3 : y.wf) : ∃ q : Q, y = qv q := by
  obtain ⟨ys, rfl, h, hw⟩ := st_of h1 h3
  have hok : PV.okL ys := h2
  obtain ⟨x, y1, rfl, hx, hxw, h, hw⟩ := shL_cons h hw
  obtain ⟨n1, y2, rfl, _, h, hw⟩ := shL_int h hw
  obtain ⟨n2, y3, rfl, _, h, hw⟩ := shL_int h hw
  obtain rfl := shL_nil h
  obtain ⟨zs, rfl, g, gw⟩ := st_of hx hxw
  have gok : PV.okL zs := hok.1
  obtain ⟨a0, z0, rfl, _, g, gw⟩ := shL_int g gw
  obtain ⟨a1, z1, rfl, _, g, gw⟩ := shL_int g gw
  obtain ⟨a2, z2, rfl, _, g, gw⟩ := shL_int g gw
  obtain ⟨a3, z3, rfl, _, g, gw⟩ := shL_int g gw
  obtain ⟨t, z4, rfl, ht, htw, g, gw⟩ := shL_cons g gw
  obtain rfl := shL_nil g
  obtain ⟨ns, rfl, _, _⟩ := arr_of ht gok.2.2.2.2.1 htw
  exact ⟨⟨a0, a1, a2, a3, ns, n1, n2⟩, rfl⟩
theorem qs_of {l : List PV} (h : ∀ y ∈ l, y.sh = qsh ∧ y.ok ∧ y.wf) : ∃ qs : List Q, l = qs.map qv := by
  induction l with
  | nil => exact ⟨[], rfl⟩
  | cons y l ih =>
    obtain ⟨qs, rfl⟩ := ih fun z hz => h z (by simp [hz])
    obtain ⟨h1, h2, h3⟩ := h y (by simp)
    obtain ⟨q, rfl⟩ := qv_of h1 h2 h3
    exact ⟨q :: qs, rfl⟩
end Go.Proofs.Ytmngcmfcbfkimaa.AM

namespace Go.Proofs.Ytmngcmfcbfkimaa.CostTotals
open Go Go.Proofs Go.RowKit Go.ChangeShapes Go.WideShapes Go.Proofs.Ytmngcmfcbfkimaa.AM

theorem own : ownKnob Try.prog.godebug = none := by kernel_rfl
theorem laidOut : laidOutB Try.prog = true := by kernel_rfl

set_option maxRecDepth 100000 in
theorem lifted (os : Os) (started : os.Started) (H : Type) (enc : TypeId × Value → H) :
    ReturnsInHanded {} Try.checked os 5 .any (Rows.costTotalsSpec.pre6 enc Try.prog Try.f5 Rows.costTotalsRow.domain false) (Rows.costTotalsSpec.post enc Try.prog Try.f5 false true false false) := by
  refine returnsInHanded_of_change (C := Try.checked) own started (by kernel_rfl) Try.func5
    (ChangeSpec.witness6 (enc := enc) (C := Try.checked) false ⟨#[], #[.slice none 0 0, .slice none 0 0], []⟩ 8 (by kernel_rfl) (by kernel_rfl) (by kernel_rfl) (by kernel_rfl)) ?_
  intro W base args ds gs before hval0 hW hcnd _
  have hval : ∀ (j : Nat) t v, Try.f5.params[j]? = some t → args[j]? = some v → Value.okWide Try.prog W .any base t v := hval0
  have hW' := hW
  obtain ⟨p, q, hA0, hV, rfl, hfz, hnd⟩ := hW
  have hA : DataW.TrodAll enc Try.prog W 0 (fun _ => true) true Try.f5.params.toList args.toList ds p := hA0
  rw [Try.params5] at hA hval
  obtain ⟨v0, vs0, d0, ds0, p0, q0, hargs, rfl, rfl, h0, r0⟩ := trodAll_cons hA
  obtain ⟨v1, vs1, d1, ds1, p1, q1, rfl, rfl, rfl, h1, r1⟩ := trodAll_cons r0
  obtain ⟨rfl, rfl, rfl⟩ := trodAll_nil r1
  obtain rfl : args = #[v0, v1] := by cases args; simp_all
  obtain ⟨rfl, rfl⟩ := trodVars_none hV
  have lt0 : ∀ x ∈ p0, x.block < W.heap.size := by obtain ⟨m, hm⟩ := h0; exact DataW.trod_lt m _ _ _ hm
  have lt1 : ∀ x ∈ p1, x.block < W.heap.size := by obtain ⟨m, hm⟩ := h1; exact DataW.trod_lt m _ _ _ hm
  obtain ⟨l0, s0, m0, e0⟩ := arg_slice (d := 12) (s := rsh) Try.underlying40 (by kernel_rfl) (by kernel_rfl) (hval 0 40 v0 rfl rfl) h0
  obtain ⟨l1, s1, m1, e1⟩ := arg_slice (d := 12) (s := qsh) Try.underlying54 (by kernel_rfl) (by kernel_rfl) (hval 1 54 v1 rfl rfl) h1
  obtain ⟨rs, rfl⟩ := rs_of s0
  obtain ⟨qs, rfl⟩ := qs_of s1
  have con := f5_ok rs qs
  have walk := con.calls (w := W) (vs := [v0, v1]) (noG W) ⟨e0, e1, trivial⟩
  clear hA0 hval0
  refine walk.mono fun e W' ⟨he, bel⟩ => ?_
  subst he
  exact ⟨_, rfl, _, _, _, [], _, [], hW', trodAll_mk1 (shut_bool Try.underlying4 _), (trodAll_cons_mk (Below.trod laidOut (by kernel_rfl) (of_decide_eq_true (by kernel_rfl)) h0 bel lt0) (trodAll_cons_mk (Below.trod laidOut (by kernel_rfl) (of_decide_eq_true (by kernel_rfl)) h1 bel lt1) trodAll_mk0)), rfl, bel.frame _, fun h => by cases h⟩

theorem over : Rows.costTotalsRow.holds Try.pinned (OpenSpec.ofChange Rows.costTotalsSpec) :=
  OpenClaim.holds_of_wide 5 Try.f5 rfl rfl rfl rfl rfl rfl rfl ⟨rfl, rfl, rfl, rfl, rfl⟩ rfl rfl rfl rfl rfl (by kernel_rfl) Try.func5 (by kernel_rfl)
    (of_decide_eq_true (by kernel_rfl)) (by unfold Func.isWrapper; first | (rw [if_pos (by decide +kernel)]; kernel_rfl) | (rw [if_neg (by decide +kernel)]; exact ⟨rfl, rfl⟩))
    (fun os started H enc _ => lifted os started H enc)

/-- The statement. -/
theorem proved : Rows.CostTotalsSaid := over
#print axioms proved
end Go.Proofs.Ytmngcmfcbfkimaa.CostTotals
