/- Ported by name: TokB. -/
import Derived.Test.YtipmkjfbdflneaaDoorpTokA
namespace Go.Proofs.YtipmkjfbdflneaaDoor.AM
open Go Go.Proofs
set_option maxRecDepth 100000
def t0T : Tk := ⟨0, 0, 0, 0, zd⟩
def readT_ (b : List Int) : Tk × Int := if b.length = 52 then (rdT b, 0) else (t0T, 12)
theorem rdT_w {b : List Int} (hb : byt b) (hl : b.length = 52) : (⟨IntKind.u32.wrap (rdT b).t, IntKind.u32.wrap (rdT b).u, IntKind.u32.wrap (rdT b).e, (rdT b).x, (rdT b).d⟩ : Tk) = rdT b := by
  have ho := rdT_ok hb hl
  rw [wr_u32 ho.t.1 ho.t.2, wr_u32 ho.u.1 ho.u.2, wr_u32 ho.e.1 ho.e.2]
theorem f42_ok (b : List Int) (hb : byt b) (hl : b.length ≤ 100000) : Fn Tryd.prog X.G 42 [bvs b] (.tup [.p (tkv (readT_ b).1), .p (.i .i64 (readT_ b).2)]) := by
  refine Fn.intro (I := []) hX hm 0 Tryd.func42 rfl rfl (by kernel_rfl) rfl ?_
  have c1 := f74_ok b (by omega)
  have c2 := f34_ok kindsT b (byt_of rfl) hb hl (by decide)
  conv => whnf
  refine ⟨_, c1, ?_⟩
  conv => whnf
  rcases readT hb with ⟨h1, h2⟩ | ⟨h1, h2⟩
  · rw [h2] at c2
    have hw := rdT_w hb h1
    rw [show readT_ b = (rdT b, 0) from by unfold readT_; rw [if_pos h1]]
    generalize rdT b = t at *
    refine ⟨_, c2, ?_⟩
    conv => whnf
    refine iteF rfl ?_
    conv => whnf
    exact congrArg (fun x => some (AV.tup [.p (tkv x), .p (.i .i64 0)])) hw
  · rw [show readT_ b = (t0T, 12) from by unfold readT_; rw [if_neg h1]]
    refine ⟨_, c2, ?_⟩
    conv => whnf
    refine iteT (by simpa using h2) ?_
    rfl
theorem sameT (t : Tk) : PV.same (tkv t) (tkv t) = true := by
  simp only [PV.same, PV.sameL, sameL_bv]
  simp
end Go.Proofs.YtipmkjfbdflneaaDoor.AM
