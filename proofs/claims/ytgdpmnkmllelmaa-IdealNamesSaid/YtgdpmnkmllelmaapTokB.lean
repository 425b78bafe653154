/- Ported by name: TokB. -/
import Derived.Test.YtgdpmnkmllelmaapTokA
namespace Go.Proofs.Ytgdpmnkmllelmaa.AM
open Go Go.Proofs
set_option maxRecDepth 100000
def t0T : Tk := ⟨0, 0, 0, 0, zd⟩
def readT_ (b : List Int) : Tk × Int := if b.length = 52 then (rdT b, 0) else (t0T, 12)
theorem rdT_w {b : List Int} (hb : byt b) (hl : b.length = 52) : (⟨IntKind.u32.wrap (rdT b).t, IntKind.u32.wrap (rdT b).u, IntKind.u32.wrap (rdT b).e, (rdT b).x, (rdT b).d⟩ : Tk) = rdT b := by
  have ho := rdT_ok hb hl
  rw [wr_u32 ho.t.1 ho.t.2, wr_u32 ho.u.1 ho.u.2, wr_u32 ho.e.1 ho.e.2]
theorem sameT (t : Tk) : PV.same (tkv t) (tkv t) = true := by
  simp only [PV.same, PV.sameL, sameL_bv]
  simp
end Go.Proofs.Ytgdpmnkmllelmaa.AM
