/- CostPrices: prices and the rules that fit are what the reference returns. The statement. -/
import Derived.Test.YtmngcmfcbfkimaaCostA
import Derived.Test.YtmngcmfcbfkimaaRows
namespace Go.Proofs.Ytmngcmfcbfkimaa.AM
open Go Go.Proofs

theorem shL_cons {ys : List PV} {s : Sh} {r : List Sh} (h : PV.shL ys = s :: r) (hw : PV.wfL ys) : ∃ x zs, ys = x :: zs ∧ x.sh = s ∧ x.wf ∧ PV.shL zs = r ∧ PV.wfL zs := by
  cases ys with
  | nil => simp [PV.shL] at h
  | cons x zs =>
    simp only [PV.shL, List.cons.injEq] at h
    exact ⟨x, zs, rfl, h.1, hw.1, h.2, hw.2⟩
theorem shL_int {ys : List PV} {k : IntKind} {r : List Sh} (h : PV.shL ys = .int k :: r) (hw : PV.wfL ys) : ∃ n zs, ys = .i k n :: zs ∧ (Lit.int k n).wf = true ∧ PV.shL zs = r ∧ PV.wfL zs := by
  obtain ⟨x, zs, rfl, h1, h2, h3, h4⟩ := shL_cons h hw
  obtain ⟨n, rfl, h5⟩ := int_of h1 h2
  exact ⟨n, zs, rfl, h5, h3, h4⟩
theorem shL_nil {ys : List PV} (h : PV.shL ys = []) : ys = [] := by
  cases ys with
  | nil => rfl
  | cons x zs => simp [PV.shL] at h
theorem st_of {y : PV} {l : List Sh} (h : y.sh = .st l) (hw : y.wf) : ∃ ys, y = .st ys ∧ PV.shL ys = l ∧ PV.wfL ys := by
  cases y with
  | st ys =>
    simp only [PV.sh, Sh.st.injEq] at h
    exact ⟨ys, rfl, h, hw⟩
  | _ => simp [PV.sh] at h
theorem rv_of {y : PV} (h1 : y.sh = rsh) (h3 : y.wf) : ∃ r : R, y = rv r := by
  obtain ⟨ys, rfl, h, hw⟩ := st_of h1 h3
  obtain ⟨n0, y0, rfl, _, h, hw⟩ := shL_int h hw
  obtain ⟨n1, y1, rfl, _, h, hw⟩ := shL_int h hw
  obtain ⟨n2, y2, rfl, _, h, hw⟩ := shL_int h hw
  obtain ⟨n3, y3, rfl, _, h, hw⟩ := shL_int h hw
  obtain ⟨n4, y4, rfl, _, h, hw⟩ := shL_int h hw
  obtain ⟨n5, y5, rfl, _, h, hw⟩ := shL_int h hw
  obtain rfl := shL_nil h
  exact ⟨⟨n0, n1, n2, n3, n4, n5⟩, rfl⟩
theorem rs_of {l : List PV} (h : ∀ y ∈ l, y.sh = rsh ∧ y.ok ∧ y.wf) : ∃ rs : List R, l = rs.map rv := by
  induction l with
  | nil => exact ⟨[], rfl⟩
  | cons y l ih =>
    obtain ⟨rs, rfl⟩ := ih fun z hz => h z (by simp [hz])
    obtain ⟨h1, h2, h3⟩ := h y (by simp)
    obtain ⟨r, rfl⟩ := rv_of h1 h3
    exact ⟨r :: rs, rfl⟩
end Go.Proofs.Ytmngcmfcbfkimaa.AM

namespace Go.Proofs.Ytmngcmfcbfkimaa.CostPrices
open Go Go.Proofs Go.RowKit Go.ChangeShapes Go.WideShapes Go.Proofs.Ytmngcmfcbfkimaa.AM

theorem own : ownKnob Try.prog.godebug = none := by kernel_rfl
theorem laidOut : laidOutB Try.prog = true := by kernel_rfl

set_option maxRecDepth 100000 in
theorem lifted (os : Os) (started : os.Started) (H : Type) (enc : TypeId × Value → H) :
    ReturnsInHanded {} Try.checked os 4 .any (Rows.costPricesSpec.pre6 enc Try.prog Try.f4 Rows.costPricesRow.domain false) (Rows.costPricesSpec.post enc Try.prog Try.f4 false true false false) := by
  refine returnsInHanded_of_change (C := Try.checked) own started (by kernel_rfl) Try.func4
    (ChangeSpec.witness6 (enc := enc) (C := Try.checked) false ⟨#[], #[.slice none 0 0, .int .u16 0, .int .u32 0], []⟩ 8 (by kernel_rfl) (by kernel_rfl) (by kernel_rfl) (by kernel_rfl)) ?_
  intro W base args ds gs before hval0 hW hcnd _
  have hval : ∀ (j : Nat) t v, Try.f4.params[j]? = some t → args[j]? = some v → Value.okWide Try.prog W .any base t v := hval0
  have hW' := hW
  obtain ⟨p, q, hA0, hV, rfl, hfz, hnd⟩ := hW
  have hA : DataW.TrodAll enc Try.prog W 0 (fun _ => true) true Try.f4.params.toList args.toList ds p := hA0
  rw [Try.params4] at hA hval
  obtain ⟨v0, vs0, d0, ds0, p0, q0, hargs, rfl, rfl, h0, r0⟩ := trodAll_cons hA
  obtain ⟨v1, vs1, d1, ds1, p1, q1, rfl, rfl, rfl, h1, r1⟩ := trodAll_cons r0
  obtain ⟨v2, vs2, d2, ds2, p2, q2, rfl, rfl, rfl, h2, r2⟩ := trodAll_cons r1
  obtain ⟨rfl, rfl, rfl⟩ := trodAll_nil r2
  obtain rfl : args = #[v0, v1, v2] := by cases args; simp_all
  obtain ⟨rfl, rfl⟩ := trodVars_none hV
  have lt0 : ∀ x ∈ p0, x.block < W.heap.size := by obtain ⟨m, hm⟩ := h0; exact DataW.trod_lt m _ _ _ hm
  have lt1 : ∀ x ∈ p1, x.block < W.heap.size := by obtain ⟨m, hm⟩ := h1; exact DataW.trod_lt m _ _ _ hm
  have lt2 : ∀ x ∈ p2, x.block < W.heap.size := by obtain ⟨m, hm⟩ := h2; exact DataW.trod_lt m _ _ _ hm
  obtain ⟨l0, s0, m0, e0⟩ := arg_slice (d := 12) (s := rsh) Try.underlying40 (by kernel_rfl) (by kernel_rfl) (hval 0 40 v0 rfl rfl) h0
  obtain ⟨y1, a1, b1, c1, e1⟩ := arg_plain (d := 12) (s := .int .u16) (by kernel_rfl) (hval 1 41 v1 rfl rfl) h1
  obtain ⟨y2, a2, b2, c2, e2⟩ := arg_plain (d := 12) (s := .int .u32) (by kernel_rfl) (hval 2 42 v2 rfl rfl) h2
  obtain ⟨rs, rfl⟩ := rs_of s0
  obtain ⟨n1, rfl, _⟩ := int_of a1 c1
  obtain ⟨n2, rfl, _⟩ := int_of a2 c2
  have con := f4_ok rs n1 n2
  have walk := con.calls (w := W) (vs := [v0, v1, v2]) (noG W) ⟨e0, e1, e2, trivial⟩
  clear hA0 hval0
  refine walk.mono fun e W' ⟨he, bel⟩ => ?_
  subst he
  exact ⟨_, rfl, _, _, _, [], _, [], hW', trodAll_mk1 (shut_bool Try.underlying4 _), (trodAll_cons_mk (Below.trod laidOut (by kernel_rfl) (of_decide_eq_true (by kernel_rfl)) h0 bel lt0) (trodAll_cons_mk (Below.trod laidOut (by kernel_rfl) (of_decide_eq_true (by kernel_rfl)) h1 bel lt1) (trodAll_cons_mk (Below.trod laidOut (by kernel_rfl) (of_decide_eq_true (by kernel_rfl)) h2 bel lt2) trodAll_mk0))), rfl, bel.frame _, fun h => by cases h⟩

theorem over : Rows.costPricesRow.holds Try.pinned (OpenSpec.ofChange Rows.costPricesSpec) :=
  OpenClaim.holds_of_wide 4 Try.f4 rfl rfl rfl rfl rfl rfl rfl ⟨rfl, rfl, rfl, rfl, rfl⟩ rfl rfl rfl rfl rfl (by kernel_rfl) Try.func4 (by kernel_rfl)
    (of_decide_eq_true (by kernel_rfl)) (by unfold Func.isWrapper; first | (rw [if_pos (by decide +kernel)]; kernel_rfl) | (rw [if_neg (by decide +kernel)]; exact ⟨rfl, rfl⟩))
    (fun os started H enc _ => lifted os started H enc)

/-- The statement. -/
theorem proved : Rows.CostPricesSaid := over
#print axioms proved
end Go.Proofs.Ytmngcmfcbfkimaa.CostPrices
