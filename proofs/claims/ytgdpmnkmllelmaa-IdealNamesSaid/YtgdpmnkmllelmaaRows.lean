/-
  No cell of these rows narrows 'for every input' (looked for: loops, veiled, ifaces, maps, wideKeys, modest, calm, conditions, laid).
  DERIVED. THE GIVEN ROWS OF THIS SEAT. 11 by the template 'for every input the law returns true; each argument reads behind the call as it read before'; 0 by the template 'total and deterministic' (their statements: YtgdpmnkmllelmaaTotals.lean).
  GIVEN WITH THE SEED: the statements are not yours to turn. If you find one false, say at which input.
  Laid BY PROGRAM, IN A SANDBOX (cutbox-rows.mjs): the forced cells as the released guide's own fill.sh prints them over the translation 7fbd57fc58bdfa9c… (all of the seat's roots in one cut). By AI agents, Wed Nov 11 2026. No macro, syntax, notation, axiom, sorry.
-/
import Derived.Test.YtgdpmnkmllelmaaChecked
import GoSem.Claim
import GoSem.ClaimJoined
import GoSem.ClaimMapViews
import Derived.JoinedTies
import Derived.KernelRfl
namespace Go.Proofs.Ytgdpmnkmllelmaa
/- THE CELL 'sum', in the pinned program and in every row, IS THE sha256 OF THE DUMP (.gsa) THAT YtgdpmnkmllelmaaProg.lean LOADS. Nothing in Lean hashes anything: it is a label: what it is worth is what the hold of that sum in a sandbox is worth. -/
noncomputable def Try.pinned : Pinned := { name := "ytgdpmnkmllelmaa", sum := "7fbd57fc58bdfa9cf9cef51e57817d496034ce0bb7abc1d888b7bae0ec8248bf", checked := Try.checked }
namespace Rows
def none {H : Type} : Left H := { results := [], args := [] }

/-- 'spigotlaw02.ClockClamps': WHATEVER THE INPUT: true; the input reads as it did. -/
def clockClampsSpec : ChangeSpec := { name := "clockClamps", fn := fun _ => fun
  | [d1, d2, d3] => { results := [.lit (.bool true)], args := [d1, d2, d3] }
  | _ => none }
def clockClampsRow : OpenClaim := { program := "ytgdpmnkmllelmaa", sum := "7fbd57fc58bdfa9cf9cef51e57817d496034ce0bb7abc1d888b7bae0ec8248bf", func := "spigot/spigotlaw02.ClockClamps", spec := "clockClamps", unfollowed := true, recurses := true, apart := false }
def ClockClampsSaid : Prop := clockClampsRow.holds Try.pinned (OpenSpec.ofChange clockClampsSpec)

/-- ITS FALSE NEIGHBOUR: 'it returns false'. Refute it at one input. -/
def clockClampsWrong : ChangeSpec := { name := "clockClamps", fn := fun _ => fun
  | [d1, d2, d3] => { results := [.lit (.bool false)], args := [d1, d2, d3] }
  | _ => none }
def ClockClampsWrongFalsely : Prop := clockClampsRow.holds Try.pinned (OpenSpec.ofChange clockClampsWrong)

/-- 'spigotlaw12.IdealAccepts': WHATEVER THE INPUT: true; the input reads as it did. -/
def idealAcceptsSpec : ChangeSpec := { name := "idealAccepts", fn := fun _ => fun
  | [d1, d2] => { results := [.lit (.bool true)], args := [d1, d2] }
  | _ => none }
def idealAcceptsRow : OpenClaim := { program := "ytgdpmnkmllelmaa", sum := "7fbd57fc58bdfa9cf9cef51e57817d496034ce0bb7abc1d888b7bae0ec8248bf", func := "spigot/spigotlaw12.IdealAccepts", spec := "idealAccepts", unfollowed := true, recurses := true, apart := false }
def IdealAcceptsSaid : Prop := idealAcceptsRow.holds Try.pinned (OpenSpec.ofChange idealAcceptsSpec)

/-- ITS FALSE NEIGHBOUR: 'it returns false'. Refute it at one input. -/
def idealAcceptsWrong : ChangeSpec := { name := "idealAccepts", fn := fun _ => fun
  | [d1, d2] => { results := [.lit (.bool false)], args := [d1, d2] }
  | _ => none }
def IdealAcceptsWrongFalsely : Prop := idealAcceptsRow.holds Try.pinned (OpenSpec.ofChange idealAcceptsWrong)

/-- 'spigotlaw12.IdealOrder': WHATEVER THE INPUT: true; the input reads as it did. -/
def idealOrderSpec : ChangeSpec := { name := "idealOrder", fn := fun _ => fun
  | [d1, d2, d3, d4, d5, d6] => { results := [.lit (.bool true)], args := [d1, d2, d3, d4, d5, d6] }
  | _ => none }
def idealOrderRow : OpenClaim := { program := "ytgdpmnkmllelmaa", sum := "7fbd57fc58bdfa9cf9cef51e57817d496034ce0bb7abc1d888b7bae0ec8248bf", func := "spigot/spigotlaw12.IdealOrder", spec := "idealOrder", unfollowed := true, recurses := true, apart := false }
def IdealOrderSaid : Prop := idealOrderRow.holds Try.pinned (OpenSpec.ofChange idealOrderSpec)

/-- ITS FALSE NEIGHBOUR: 'it returns false'. Refute it at one input. -/
def idealOrderWrong : ChangeSpec := { name := "idealOrder", fn := fun _ => fun
  | [d1, d2, d3, d4, d5, d6] => { results := [.lit (.bool false)], args := [d1, d2, d3, d4, d5, d6] }
  | _ => none }
def IdealOrderWrongFalsely : Prop := idealOrderRow.holds Try.pinned (OpenSpec.ofChange idealOrderWrong)

/-- 'spigotlaw12.IdealMints': WHATEVER THE INPUT: true; the input reads as it did. -/
def idealMintsSpec : ChangeSpec := { name := "idealMints", fn := fun _ => fun
  | [d1, d2, d3] => { results := [.lit (.bool true)], args := [d1, d2, d3] }
  | _ => none }
def idealMintsRow : OpenClaim := { program := "ytgdpmnkmllelmaa", sum := "7fbd57fc58bdfa9cf9cef51e57817d496034ce0bb7abc1d888b7bae0ec8248bf", func := "spigot/spigotlaw12.IdealMints", spec := "idealMints", unfollowed := true, recurses := true, apart := false }
def IdealMintsSaid : Prop := idealMintsRow.holds Try.pinned (OpenSpec.ofChange idealMintsSpec)

/-- ITS FALSE NEIGHBOUR: 'it returns false'. Refute it at one input. -/
def idealMintsWrong : ChangeSpec := { name := "idealMints", fn := fun _ => fun
  | [d1, d2, d3] => { results := [.lit (.bool false)], args := [d1, d2, d3] }
  | _ => none }
def IdealMintsWrongFalsely : Prop := idealMintsRow.holds Try.pinned (OpenSpec.ofChange idealMintsWrong)

/-- 'spigotlaw12.IdealNames': WHATEVER THE INPUT: true; the input reads as it did. -/
def idealNamesSpec : ChangeSpec := { name := "idealNames", fn := fun _ => fun
  | [] => { results := [.lit (.bool true)], args := [] }
  | _ => none }
def idealNamesRow : OpenClaim := { program := "ytgdpmnkmllelmaa", sum := "7fbd57fc58bdfa9cf9cef51e57817d496034ce0bb7abc1d888b7bae0ec8248bf", func := "spigot/spigotlaw12.IdealNames", spec := "idealNames", unfollowed := true, recurses := true, apart := false }
def IdealNamesSaid : Prop := idealNamesRow.holds Try.pinned (OpenSpec.ofChange idealNamesSpec)

/-- ITS FALSE NEIGHBOUR: 'it returns false'. Refute it at one input. -/
def idealNamesWrong : ChangeSpec := { name := "idealNames", fn := fun _ => fun
  | [] => { results := [.lit (.bool false)], args := [] }
  | _ => none }
def IdealNamesWrongFalsely : Prop := idealNamesRow.holds Try.pinned (OpenSpec.ofChange idealNamesWrong)

/-- 'spigotlaw12.IdealExact': WHATEVER THE INPUT: true; the input reads as it did. -/
def idealExactSpec : ChangeSpec := { name := "idealExact", fn := fun _ => fun
  | [d1, d2, d3, d4] => { results := [.lit (.bool true)], args := [d1, d2, d3, d4] }
  | _ => none }
def idealExactRow : OpenClaim := { program := "ytgdpmnkmllelmaa", sum := "7fbd57fc58bdfa9cf9cef51e57817d496034ce0bb7abc1d888b7bae0ec8248bf", func := "spigot/spigotlaw12.IdealExact", spec := "idealExact", unfollowed := true, recurses := true, apart := false }
def IdealExactSaid : Prop := idealExactRow.holds Try.pinned (OpenSpec.ofChange idealExactSpec)

/-- ITS FALSE NEIGHBOUR: 'it returns false'. Refute it at one input. -/
def idealExactWrong : ChangeSpec := { name := "idealExact", fn := fun _ => fun
  | [d1, d2, d3, d4] => { results := [.lit (.bool false)], args := [d1, d2, d3, d4] }
  | _ => none }
def IdealExactWrongFalsely : Prop := idealExactRow.holds Try.pinned (OpenSpec.ofChange idealExactWrong)

/-- 'spigotlaw02.ClockTicks': WHATEVER THE INPUT: true; the input reads as it did. -/
def clockTicksSpec : ChangeSpec := { name := "clockTicks", fn := fun _ => fun
  | [d1, d2, d3, d4] => { results := [.lit (.bool true)], args := [d1, d2, d3, d4] }
  | _ => none }
def clockTicksRow : OpenClaim := { program := "ytgdpmnkmllelmaa", sum := "7fbd57fc58bdfa9cf9cef51e57817d496034ce0bb7abc1d888b7bae0ec8248bf", func := "spigot/spigotlaw02.ClockTicks", spec := "clockTicks", recurses := true, apart := false }
def ClockTicksSaid : Prop := clockTicksRow.holds Try.pinned (OpenSpec.ofChange clockTicksSpec)

/-- ITS FALSE NEIGHBOUR: 'it returns false'. Refute it at one input. -/
def clockTicksWrong : ChangeSpec := { name := "clockTicks", fn := fun _ => fun
  | [d1, d2, d3, d4] => { results := [.lit (.bool false)], args := [d1, d2, d3, d4] }
  | _ => none }
def ClockTicksWrongFalsely : Prop := clockTicksRow.holds Try.pinned (OpenSpec.ofChange clockTicksWrong)

/-- 'spigotlaw02.ClockNames': WHATEVER THE INPUT: true; the input reads as it did. -/
def clockNamesSpec : ChangeSpec := { name := "clockNames", fn := fun _ => fun
  | [] => { results := [.lit (.bool true)], args := [] }
  | _ => none }
def clockNamesRow : OpenClaim := { program := "ytgdpmnkmllelmaa", sum := "7fbd57fc58bdfa9cf9cef51e57817d496034ce0bb7abc1d888b7bae0ec8248bf", func := "spigot/spigotlaw02.ClockNames", spec := "clockNames", unfollowed := true, recurses := true, apart := false }
def ClockNamesSaid : Prop := clockNamesRow.holds Try.pinned (OpenSpec.ofChange clockNamesSpec)

/-- ITS FALSE NEIGHBOUR: 'it returns false'. Refute it at one input. -/
def clockNamesWrong : ChangeSpec := { name := "clockNames", fn := fun _ => fun
  | [] => { results := [.lit (.bool false)], args := [] }
  | _ => none }
def ClockNamesWrongFalsely : Prop := clockNamesRow.holds Try.pinned (OpenSpec.ofChange clockNamesWrong)

/-- 'spigotlaw02.ClockNever': WHATEVER THE INPUT: true; the input reads as it did. -/
def clockNeverSpec : ChangeSpec := { name := "clockNever", fn := fun _ => fun
  | [d1, d2] => { results := [.lit (.bool true)], args := [d1, d2] }
  | _ => none }
def clockNeverRow : OpenClaim := { program := "ytgdpmnkmllelmaa", sum := "7fbd57fc58bdfa9cf9cef51e57817d496034ce0bb7abc1d888b7bae0ec8248bf", func := "spigot/spigotlaw02.ClockNever", spec := "clockNever", unfollowed := true, recurses := true, apart := false }
def ClockNeverSaid : Prop := clockNeverRow.holds Try.pinned (OpenSpec.ofChange clockNeverSpec)

/-- ITS FALSE NEIGHBOUR: 'it returns false'. Refute it at one input. -/
def clockNeverWrong : ChangeSpec := { name := "clockNever", fn := fun _ => fun
  | [d1, d2] => { results := [.lit (.bool false)], args := [d1, d2] }
  | _ => none }
def ClockNeverWrongFalsely : Prop := clockNeverRow.holds Try.pinned (OpenSpec.ofChange clockNeverWrong)

/-- 'spigotlaw02.ClockParts': WHATEVER THE INPUT: true; the input reads as it did. -/
def clockPartsSpec : ChangeSpec := { name := "clockParts", fn := fun _ => fun
  | [d1, d2, d3] => { results := [.lit (.bool true)], args := [d1, d2, d3] }
  | _ => none }
def clockPartsRow : OpenClaim := { program := "ytgdpmnkmllelmaa", sum := "7fbd57fc58bdfa9cf9cef51e57817d496034ce0bb7abc1d888b7bae0ec8248bf", func := "spigot/spigotlaw02.ClockParts", spec := "clockParts", unfollowed := true, recurses := true, apart := false }
def ClockPartsSaid : Prop := clockPartsRow.holds Try.pinned (OpenSpec.ofChange clockPartsSpec)

/-- ITS FALSE NEIGHBOUR: 'it returns false'. Refute it at one input. -/
def clockPartsWrong : ChangeSpec := { name := "clockParts", fn := fun _ => fun
  | [d1, d2, d3] => { results := [.lit (.bool false)], args := [d1, d2, d3] }
  | _ => none }
def ClockPartsWrongFalsely : Prop := clockPartsRow.holds Try.pinned (OpenSpec.ofChange clockPartsWrong)

/-- 'spigotlaw02.ClockSince': WHATEVER THE INPUT: true; the input reads as it did. -/
def clockSinceSpec : ChangeSpec := { name := "clockSince", fn := fun _ => fun
  | [d1, d2, d3, d4] => { results := [.lit (.bool true)], args := [d1, d2, d3, d4] }
  | _ => none }
def clockSinceRow : OpenClaim := { program := "ytgdpmnkmllelmaa", sum := "7fbd57fc58bdfa9cf9cef51e57817d496034ce0bb7abc1d888b7bae0ec8248bf", func := "spigot/spigotlaw02.ClockSince", spec := "clockSince", unfollowed := true, recurses := true, apart := false }
def ClockSinceSaid : Prop := clockSinceRow.holds Try.pinned (OpenSpec.ofChange clockSinceSpec)

/-- ITS FALSE NEIGHBOUR: 'it returns false'. Refute it at one input. -/
def clockSinceWrong : ChangeSpec := { name := "clockSince", fn := fun _ => fun
  | [d1, d2, d3, d4] => { results := [.lit (.bool false)], args := [d1, d2, d3, d4] }
  | _ => none }
def ClockSinceWrongFalsely : Prop := clockSinceRow.holds Try.pinned (OpenSpec.ofChange clockSinceWrong)

/- THE SECOND FORM. 'bulk': how many values and letters a reading holds, each counted each time it is reached (what is shared counts as often as it is met; a slice's spare places count too). A statement '..UptoSaid' is the law's where the arguments, and the package variables that the reading takes, are together of bulk at most 1048576: NARROWER than '..Said'. Prove '..Said' where nothing that the law and all that it calls make is longer than what came in: it says more and counts as full. Else prove '..UptoSaid'. A law counts once. -/
mutual
def uptoBulk {H : Type} : DataW H → Nat
  | .lit (.string bytes) => bytes.length + 1
  | .lit _ => 1
  | .nil => 1
  | .ptr d => uptoBulk d + 1
  | .slice elems spare => uptoBulkAll elems + uptoBulkAll spare + 1
  | .agg parts => uptoBulkAll parts + 1
  | .iface _ d => uptoBulk d + 1
  | .map entries => uptoBulkEntries entries + 1
  | .held _ => 1
def uptoBulkAll {H : Type} : List (DataW H) → Nat
  | [] => 0
  | d :: r => uptoBulk d + uptoBulkAll r
def uptoBulkEntries {H : Type} : List (Lit × DataW H) → Nat
  | [] => 0
  | x :: r => uptoBulkEntry x + uptoBulkEntries r
def uptoBulkEntry {H : Type} : Lit × DataW H → Nat
  | (.string bytes, d) => bytes.length + uptoBulk d + 1
  | (_, d) => uptoBulk d + 1
 end
def uptoSmall : (H : Type) → List (DataW H) → Bool := fun _ ds => decide (uptoBulkAll ds ≤ 1048576)
def OpenSpec.upto (s : _root_.Go.ChangeSpec) : _root_.Go.OpenSpec := { _root_.Go.OpenSpec.ofChange s with cond := some uptoSmall }

/-- 'spigotlaw02.ClockClamps', WHERE WHAT IT READS IS OF BULK AT MOST 1048576: true; the input reads as it did. -/
def clockClampsUptoRow : OpenClaim := { program := "ytgdpmnkmllelmaa", sum := "7fbd57fc58bdfa9cf9cef51e57817d496034ce0bb7abc1d888b7bae0ec8248bf", func := "spigot/spigotlaw02.ClockClamps", spec := "clockClamps", unfollowed := true, recurses := true, apart := false, narrowed := true }
def ClockClampsUptoSaid : Prop := clockClampsUptoRow.holds Try.pinned (OpenSpec.upto clockClampsSpec)

/-- 'spigotlaw12.IdealAccepts', WHERE WHAT IT READS IS OF BULK AT MOST 1048576: true; the input reads as it did. -/
def idealAcceptsUptoRow : OpenClaim := { program := "ytgdpmnkmllelmaa", sum := "7fbd57fc58bdfa9cf9cef51e57817d496034ce0bb7abc1d888b7bae0ec8248bf", func := "spigot/spigotlaw12.IdealAccepts", spec := "idealAccepts", unfollowed := true, recurses := true, apart := false, narrowed := true }
def IdealAcceptsUptoSaid : Prop := idealAcceptsUptoRow.holds Try.pinned (OpenSpec.upto idealAcceptsSpec)

/-- 'spigotlaw12.IdealOrder', WHERE WHAT IT READS IS OF BULK AT MOST 1048576: true; the input reads as it did. -/
def idealOrderUptoRow : OpenClaim := { program := "ytgdpmnkmllelmaa", sum := "7fbd57fc58bdfa9cf9cef51e57817d496034ce0bb7abc1d888b7bae0ec8248bf", func := "spigot/spigotlaw12.IdealOrder", spec := "idealOrder", unfollowed := true, recurses := true, apart := false, narrowed := true }
def IdealOrderUptoSaid : Prop := idealOrderUptoRow.holds Try.pinned (OpenSpec.upto idealOrderSpec)

/-- 'spigotlaw12.IdealMints', WHERE WHAT IT READS IS OF BULK AT MOST 1048576: true; the input reads as it did. -/
def idealMintsUptoRow : OpenClaim := { program := "ytgdpmnkmllelmaa", sum := "7fbd57fc58bdfa9cf9cef51e57817d496034ce0bb7abc1d888b7bae0ec8248bf", func := "spigot/spigotlaw12.IdealMints", spec := "idealMints", unfollowed := true, recurses := true, apart := false, narrowed := true }
def IdealMintsUptoSaid : Prop := idealMintsUptoRow.holds Try.pinned (OpenSpec.upto idealMintsSpec)

/-- 'spigotlaw12.IdealNames', WHERE WHAT IT READS IS OF BULK AT MOST 1048576: true; the input reads as it did. -/
def idealNamesUptoRow : OpenClaim := { program := "ytgdpmnkmllelmaa", sum := "7fbd57fc58bdfa9cf9cef51e57817d496034ce0bb7abc1d888b7bae0ec8248bf", func := "spigot/spigotlaw12.IdealNames", spec := "idealNames", unfollowed := true, recurses := true, apart := false, narrowed := true }
def IdealNamesUptoSaid : Prop := idealNamesUptoRow.holds Try.pinned (OpenSpec.upto idealNamesSpec)

/-- 'spigotlaw12.IdealExact', WHERE WHAT IT READS IS OF BULK AT MOST 1048576: true; the input reads as it did. -/
def idealExactUptoRow : OpenClaim := { program := "ytgdpmnkmllelmaa", sum := "7fbd57fc58bdfa9cf9cef51e57817d496034ce0bb7abc1d888b7bae0ec8248bf", func := "spigot/spigotlaw12.IdealExact", spec := "idealExact", unfollowed := true, recurses := true, apart := false, narrowed := true }
def IdealExactUptoSaid : Prop := idealExactUptoRow.holds Try.pinned (OpenSpec.upto idealExactSpec)

/-- 'spigotlaw02.ClockTicks', WHERE WHAT IT READS IS OF BULK AT MOST 1048576: true; the input reads as it did. -/
def clockTicksUptoRow : OpenClaim := { program := "ytgdpmnkmllelmaa", sum := "7fbd57fc58bdfa9cf9cef51e57817d496034ce0bb7abc1d888b7bae0ec8248bf", func := "spigot/spigotlaw02.ClockTicks", spec := "clockTicks", recurses := true, apart := false, narrowed := true }
def ClockTicksUptoSaid : Prop := clockTicksUptoRow.holds Try.pinned (OpenSpec.upto clockTicksSpec)

/-- 'spigotlaw02.ClockNames', WHERE WHAT IT READS IS OF BULK AT MOST 1048576: true; the input reads as it did. -/
def clockNamesUptoRow : OpenClaim := { program := "ytgdpmnkmllelmaa", sum := "7fbd57fc58bdfa9cf9cef51e57817d496034ce0bb7abc1d888b7bae0ec8248bf", func := "spigot/spigotlaw02.ClockNames", spec := "clockNames", unfollowed := true, recurses := true, apart := false, narrowed := true }
def ClockNamesUptoSaid : Prop := clockNamesUptoRow.holds Try.pinned (OpenSpec.upto clockNamesSpec)

/-- 'spigotlaw02.ClockNever', WHERE WHAT IT READS IS OF BULK AT MOST 1048576: true; the input reads as it did. -/
def clockNeverUptoRow : OpenClaim := { program := "ytgdpmnkmllelmaa", sum := "7fbd57fc58bdfa9cf9cef51e57817d496034ce0bb7abc1d888b7bae0ec8248bf", func := "spigot/spigotlaw02.ClockNever", spec := "clockNever", unfollowed := true, recurses := true, apart := false, narrowed := true }
def ClockNeverUptoSaid : Prop := clockNeverUptoRow.holds Try.pinned (OpenSpec.upto clockNeverSpec)

/-- 'spigotlaw02.ClockParts', WHERE WHAT IT READS IS OF BULK AT MOST 1048576: true; the input reads as it did. -/
def clockPartsUptoRow : OpenClaim := { program := "ytgdpmnkmllelmaa", sum := "7fbd57fc58bdfa9cf9cef51e57817d496034ce0bb7abc1d888b7bae0ec8248bf", func := "spigot/spigotlaw02.ClockParts", spec := "clockParts", unfollowed := true, recurses := true, apart := false, narrowed := true }
def ClockPartsUptoSaid : Prop := clockPartsUptoRow.holds Try.pinned (OpenSpec.upto clockPartsSpec)

/-- 'spigotlaw02.ClockSince', WHERE WHAT IT READS IS OF BULK AT MOST 1048576: true; the input reads as it did. -/
def clockSinceUptoRow : OpenClaim := { program := "ytgdpmnkmllelmaa", sum := "7fbd57fc58bdfa9cf9cef51e57817d496034ce0bb7abc1d888b7bae0ec8248bf", func := "spigot/spigotlaw02.ClockSince", spec := "clockSince", unfollowed := true, recurses := true, apart := false, narrowed := true }
def ClockSinceUptoSaid : Prop := clockSinceUptoRow.holds Try.pinned (OpenSpec.upto clockSinceSpec)

end Rows
end Go.Proofs.Ytgdpmnkmllelmaa
