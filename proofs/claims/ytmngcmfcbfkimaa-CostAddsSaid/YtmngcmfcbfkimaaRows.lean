/-
  No cell of these rows narrows 'for every input' (looked for: loops, veiled, ifaces, maps, wideKeys, modest, calm, conditions, laid).
  DERIVED. THE GIVEN ROWS OF THIS SEAT. 12 by the template 'for every input the law returns true; each argument reads behind the call as it read before'; 0 by the template 'total and deterministic' (their statements: YtmngcmfcbfkimaaTotals.lean).
  GIVEN WITH THE SEED: the statements are not yours to turn. If you find one false, say at which input.
  Laid BY PROGRAM, IN A SANDBOX (cutbox-rows.mjs): the forced cells as the released guide's own fill.sh prints them over the translation e3093011a0e27933… (all of the seat's roots in one cut). By AI agents, Wed Nov 11 2026. No macro, syntax, notation, axiom, sorry.
-/
import Derived.Test.YtmngcmfcbfkimaaChecked
import GoSem.Claim
import GoSem.ClaimJoined
import GoSem.ClaimMapViews
import Derived.JoinedTies
import Derived.KernelRfl
namespace Go.Proofs.Ytmngcmfcbfkimaa
/- THE CELL 'sum', in the pinned program and in every row, IS THE sha256 OF THE DUMP (.gsa) THAT YtmngcmfcbfkimaaProg.lean LOADS. Nothing in Lean hashes anything: it is a label: what it is worth is what the hold of that sum in a sandbox is worth. -/
noncomputable def Try.pinned : Pinned := { name := "ytmngcmfcbfkimaa", sum := "e3093011a0e27933075b71e9d7f9baaae41329ebc5d7a14c454e4eddab9e28b8", checked := Try.checked }
namespace Rows
def none {H : Type} : Left H := { results := [], args := [] }

/-- 'spigotlaw02.ClockClamps': WHATEVER THE INPUT: true; the input reads as it did. -/
def clockClampsSpec : ChangeSpec := { name := "clockClamps", fn := fun _ => fun
  | [d1, d2, d3] => { results := [.lit (.bool true)], args := [d1, d2, d3] }
  | _ => none }
def clockClampsRow : OpenClaim := { program := "ytmngcmfcbfkimaa", sum := "e3093011a0e27933075b71e9d7f9baaae41329ebc5d7a14c454e4eddab9e28b8", func := "spigot/spigotlaw02.ClockClamps", spec := "clockClamps", unfollowed := true, recurses := true, apart := false }
def ClockClampsSaid : Prop := clockClampsRow.holds Try.pinned (OpenSpec.ofChange clockClampsSpec)

/-- ITS FALSE NEIGHBOUR: 'it returns false'. Refute it at one input. -/
def clockClampsWrong : ChangeSpec := { name := "clockClamps", fn := fun _ => fun
  | [d1, d2, d3] => { results := [.lit (.bool false)], args := [d1, d2, d3] }
  | _ => none }
def ClockClampsWrongFalsely : Prop := clockClampsRow.holds Try.pinned (OpenSpec.ofChange clockClampsWrong)

/-- 'spigotlaw17.CostPrices': WHATEVER THE INPUT: true; the input reads as it did. -/
def costPricesSpec : ChangeSpec := { name := "costPrices", fn := fun _ => fun
  | [d1, d2, d3] => { results := [.lit (.bool true)], args := [d1, d2, d3] }
  | _ => none }
def costPricesRow : OpenClaim := { program := "ytmngcmfcbfkimaa", sum := "e3093011a0e27933075b71e9d7f9baaae41329ebc5d7a14c454e4eddab9e28b8", func := "spigot/spigotlaw17.CostPrices", spec := "costPrices", unfollowed := true, recurses := true, apart := false }
def CostPricesSaid : Prop := costPricesRow.holds Try.pinned (OpenSpec.ofChange costPricesSpec)

/-- ITS FALSE NEIGHBOUR: 'it returns false'. Refute it at one input. -/
def costPricesWrong : ChangeSpec := { name := "costPrices", fn := fun _ => fun
  | [d1, d2, d3] => { results := [.lit (.bool false)], args := [d1, d2, d3] }
  | _ => none }
def CostPricesWrongFalsely : Prop := costPricesRow.holds Try.pinned (OpenSpec.ofChange costPricesWrong)

/-- 'spigotlaw17.CostTotals': WHATEVER THE INPUT: true; the input reads as it did. -/
def costTotalsSpec : ChangeSpec := { name := "costTotals", fn := fun _ => fun
  | [d1, d2] => { results := [.lit (.bool true)], args := [d1, d2] }
  | _ => none }
def costTotalsRow : OpenClaim := { program := "ytmngcmfcbfkimaa", sum := "e3093011a0e27933075b71e9d7f9baaae41329ebc5d7a14c454e4eddab9e28b8", func := "spigot/spigotlaw17.CostTotals", spec := "costTotals", unfollowed := true, recurses := true, apart := false }
def CostTotalsSaid : Prop := costTotalsRow.holds Try.pinned (OpenSpec.ofChange costTotalsSpec)

/-- ITS FALSE NEIGHBOUR: 'it returns false'. Refute it at one input. -/
def costTotalsWrong : ChangeSpec := { name := "costTotals", fn := fun _ => fun
  | [d1, d2] => { results := [.lit (.bool false)], args := [d1, d2] }
  | _ => none }
def CostTotalsWrongFalsely : Prop := costTotalsRow.holds Try.pinned (OpenSpec.ofChange costTotalsWrong)

/-- 'spigotlaw17.CostNames': WHATEVER THE INPUT: true; the input reads as it did. -/
def costNamesSpec : ChangeSpec := { name := "costNames", fn := fun _ => fun
  | [] => { results := [.lit (.bool true)], args := [] }
  | _ => none }
def costNamesRow : OpenClaim := { program := "ytmngcmfcbfkimaa", sum := "e3093011a0e27933075b71e9d7f9baaae41329ebc5d7a14c454e4eddab9e28b8", func := "spigot/spigotlaw17.CostNames", spec := "costNames", unfollowed := true, recurses := true, apart := false }
def CostNamesSaid : Prop := costNamesRow.holds Try.pinned (OpenSpec.ofChange costNamesSpec)

/-- ITS FALSE NEIGHBOUR: 'it returns false'. Refute it at one input. -/
def costNamesWrong : ChangeSpec := { name := "costNames", fn := fun _ => fun
  | [] => { results := [.lit (.bool false)], args := [] }
  | _ => none }
def CostNamesWrongFalsely : Prop := costNamesRow.holds Try.pinned (OpenSpec.ofChange costNamesWrong)

/-- 'spigotlaw17.CostFirst': WHATEVER THE INPUT: true; the input reads as it did. -/
def costFirstSpec : ChangeSpec := { name := "costFirst", fn := fun _ => fun
  | [d1, d2, d3, d4] => { results := [.lit (.bool true)], args := [d1, d2, d3, d4] }
  | _ => none }
def costFirstRow : OpenClaim := { program := "ytmngcmfcbfkimaa", sum := "e3093011a0e27933075b71e9d7f9baaae41329ebc5d7a14c454e4eddab9e28b8", func := "spigot/spigotlaw17.CostFirst", spec := "costFirst", unfollowed := true, recurses := true, apart := false }
def CostFirstSaid : Prop := costFirstRow.holds Try.pinned (OpenSpec.ofChange costFirstSpec)

/-- ITS FALSE NEIGHBOUR: 'it returns false'. Refute it at one input. -/
def costFirstWrong : ChangeSpec := { name := "costFirst", fn := fun _ => fun
  | [d1, d2, d3, d4] => { results := [.lit (.bool false)], args := [d1, d2, d3, d4] }
  | _ => none }
def CostFirstWrongFalsely : Prop := costFirstRow.holds Try.pinned (OpenSpec.ofChange costFirstWrong)

/-- 'spigotlaw17.CostAdds': WHATEVER THE INPUT: true; the input reads as it did. -/
def costAddsSpec : ChangeSpec := { name := "costAdds", fn := fun _ => fun
  | [d1, d2, d3] => { results := [.lit (.bool true)], args := [d1, d2, d3] }
  | _ => none }
def costAddsRow : OpenClaim := { program := "ytmngcmfcbfkimaa", sum := "e3093011a0e27933075b71e9d7f9baaae41329ebc5d7a14c454e4eddab9e28b8", func := "spigot/spigotlaw17.CostAdds", spec := "costAdds", unfollowed := true, recurses := true, apart := false }
def CostAddsSaid : Prop := costAddsRow.holds Try.pinned (OpenSpec.ofChange costAddsSpec)

/-- ITS FALSE NEIGHBOUR: 'it returns false'. Refute it at one input. -/
def costAddsWrong : ChangeSpec := { name := "costAdds", fn := fun _ => fun
  | [d1, d2, d3] => { results := [.lit (.bool false)], args := [d1, d2, d3] }
  | _ => none }
def CostAddsWrongFalsely : Prop := costAddsRow.holds Try.pinned (OpenSpec.ofChange costAddsWrong)

/-- 'spigotlaw17.CostPlain': WHATEVER THE INPUT: true; the input reads as it did. -/
def costPlainSpec : ChangeSpec := { name := "costPlain", fn := fun _ => fun
  | [d1, d2, d3, d4] => { results := [.lit (.bool true)], args := [d1, d2, d3, d4] }
  | _ => none }
def costPlainRow : OpenClaim := { program := "ytmngcmfcbfkimaa", sum := "e3093011a0e27933075b71e9d7f9baaae41329ebc5d7a14c454e4eddab9e28b8", func := "spigot/spigotlaw17.CostPlain", spec := "costPlain", unfollowed := true, recurses := true, apart := false }
def CostPlainSaid : Prop := costPlainRow.holds Try.pinned (OpenSpec.ofChange costPlainSpec)

/-- ITS FALSE NEIGHBOUR: 'it returns false'. Refute it at one input. -/
def costPlainWrong : ChangeSpec := { name := "costPlain", fn := fun _ => fun
  | [d1, d2, d3, d4] => { results := [.lit (.bool false)], args := [d1, d2, d3, d4] }
  | _ => none }
def CostPlainWrongFalsely : Prop := costPlainRow.holds Try.pinned (OpenSpec.ofChange costPlainWrong)

/-- 'spigotlaw02.ClockTicks': WHATEVER THE INPUT: true; the input reads as it did. -/
def clockTicksSpec : ChangeSpec := { name := "clockTicks", fn := fun _ => fun
  | [d1, d2, d3, d4] => { results := [.lit (.bool true)], args := [d1, d2, d3, d4] }
  | _ => none }
def clockTicksRow : OpenClaim := { program := "ytmngcmfcbfkimaa", sum := "e3093011a0e27933075b71e9d7f9baaae41329ebc5d7a14c454e4eddab9e28b8", func := "spigot/spigotlaw02.ClockTicks", spec := "clockTicks", recurses := true, apart := false }
def ClockTicksSaid : Prop := clockTicksRow.holds Try.pinned (OpenSpec.ofChange clockTicksSpec)

/-- ITS FALSE NEIGHBOUR: 'it returns false'. Refute it at one input. -/
def clockTicksWrong : ChangeSpec := { name := "clockTicks", fn := fun _ => fun
  | [d1, d2, d3, d4] => { results := [.lit (.bool false)], args := [d1, d2, d3, d4] }
  | _ => none }
def ClockTicksWrongFalsely : Prop := clockTicksRow.holds Try.pinned (OpenSpec.ofChange clockTicksWrong)

/-- 'spigotlaw02.ClockNames': WHATEVER THE INPUT: true; the input reads as it did. -/
def clockNamesSpec : ChangeSpec := { name := "clockNames", fn := fun _ => fun
  | [] => { results := [.lit (.bool true)], args := [] }
  | _ => none }
def clockNamesRow : OpenClaim := { program := "ytmngcmfcbfkimaa", sum := "e3093011a0e27933075b71e9d7f9baaae41329ebc5d7a14c454e4eddab9e28b8", func := "spigot/spigotlaw02.ClockNames", spec := "clockNames", unfollowed := true, recurses := true, apart := false }
def ClockNamesSaid : Prop := clockNamesRow.holds Try.pinned (OpenSpec.ofChange clockNamesSpec)

/-- ITS FALSE NEIGHBOUR: 'it returns false'. Refute it at one input. -/
def clockNamesWrong : ChangeSpec := { name := "clockNames", fn := fun _ => fun
  | [] => { results := [.lit (.bool false)], args := [] }
  | _ => none }
def ClockNamesWrongFalsely : Prop := clockNamesRow.holds Try.pinned (OpenSpec.ofChange clockNamesWrong)

/-- 'spigotlaw02.ClockNever': WHATEVER THE INPUT: true; the input reads as it did. -/
def clockNeverSpec : ChangeSpec := { name := "clockNever", fn := fun _ => fun
  | [d1, d2] => { results := [.lit (.bool true)], args := [d1, d2] }
  | _ => none }
def clockNeverRow : OpenClaim := { program := "ytmngcmfcbfkimaa", sum := "e3093011a0e27933075b71e9d7f9baaae41329ebc5d7a14c454e4eddab9e28b8", func := "spigot/spigotlaw02.ClockNever", spec := "clockNever", unfollowed := true, recurses := true, apart := false }
def ClockNeverSaid : Prop := clockNeverRow.holds Try.pinned (OpenSpec.ofChange clockNeverSpec)

/-- ITS FALSE NEIGHBOUR: 'it returns false'. Refute it at one input. -/
def clockNeverWrong : ChangeSpec := { name := "clockNever", fn := fun _ => fun
  | [d1, d2] => { results := [.lit (.bool false)], args := [d1, d2] }
  | _ => none }
def ClockNeverWrongFalsely : Prop := clockNeverRow.holds Try.pinned (OpenSpec.ofChange clockNeverWrong)

/-- 'spigotlaw02.ClockParts': WHATEVER THE INPUT: true; the input reads as it did. -/
def clockPartsSpec : ChangeSpec := { name := "clockParts", fn := fun _ => fun
  | [d1, d2, d3] => { results := [.lit (.bool true)], args := [d1, d2, d3] }
  | _ => none }
def clockPartsRow : OpenClaim := { program := "ytmngcmfcbfkimaa", sum := "e3093011a0e27933075b71e9d7f9baaae41329ebc5d7a14c454e4eddab9e28b8", func := "spigot/spigotlaw02.ClockParts", spec := "clockParts", unfollowed := true, recurses := true, apart := false }
def ClockPartsSaid : Prop := clockPartsRow.holds Try.pinned (OpenSpec.ofChange clockPartsSpec)

/-- ITS FALSE NEIGHBOUR: 'it returns false'. Refute it at one input. -/
def clockPartsWrong : ChangeSpec := { name := "clockParts", fn := fun _ => fun
  | [d1, d2, d3] => { results := [.lit (.bool false)], args := [d1, d2, d3] }
  | _ => none }
def ClockPartsWrongFalsely : Prop := clockPartsRow.holds Try.pinned (OpenSpec.ofChange clockPartsWrong)

/-- 'spigotlaw02.ClockSince': WHATEVER THE INPUT: true; the input reads as it did. -/
def clockSinceSpec : ChangeSpec := { name := "clockSince", fn := fun _ => fun
  | [d1, d2, d3, d4] => { results := [.lit (.bool true)], args := [d1, d2, d3, d4] }
  | _ => none }
def clockSinceRow : OpenClaim := { program := "ytmngcmfcbfkimaa", sum := "e3093011a0e27933075b71e9d7f9baaae41329ebc5d7a14c454e4eddab9e28b8", func := "spigot/spigotlaw02.ClockSince", spec := "clockSince", unfollowed := true, recurses := true, apart := false }
def ClockSinceSaid : Prop := clockSinceRow.holds Try.pinned (OpenSpec.ofChange clockSinceSpec)

/-- ITS FALSE NEIGHBOUR: 'it returns false'. Refute it at one input. -/
def clockSinceWrong : ChangeSpec := { name := "clockSince", fn := fun _ => fun
  | [d1, d2, d3, d4] => { results := [.lit (.bool false)], args := [d1, d2, d3, d4] }
  | _ => none }
def ClockSinceWrongFalsely : Prop := clockSinceRow.holds Try.pinned (OpenSpec.ofChange clockSinceWrong)

/- THE SECOND FORM. 'bulk': how many values and letters a reading holds, each counted each time it is reached (what is shared counts as often as it is met; a slice's spare places count too). A statement '..UptoSaid' is the law's where the arguments, and the package variables that the reading takes, are together of bulk at most 1048576: NARROWER than '..Said'. Prove '..Said' where nothing that the law and all that it calls make is longer than what came in: it says more and counts as full. Else prove '..UptoSaid'. A law counts once. -/
mutual
def uptoBulk {H : Type} : DataW H → Nat
  | .lit (.string bytes) => bytes.length + 1
  | .lit _ => 1
  | .nil => 1
  | .ptr d => uptoBulk d + 1
  | .slice elems spare => uptoBulkAll elems + uptoBulkAll spare + 1
  | .agg parts => uptoBulkAll parts + 1
  | .iface _ d => uptoBulk d + 1
  | .map entries => uptoBulkEntries entries + 1
  | .held _ => 1
def uptoBulkAll {H : Type} : List (DataW H) → Nat
  | [] => 0
  | d :: r => uptoBulk d + uptoBulkAll r
def uptoBulkEntries {H : Type} : List (Lit × DataW H) → Nat
  | [] => 0
  | x :: r => uptoBulkEntry x + uptoBulkEntries r
def uptoBulkEntry {H : Type} : Lit × DataW H → Nat
  | (.string bytes, d) => bytes.length + uptoBulk d + 1
  | (_, d) => uptoBulk d + 1
 end
def uptoSmall : (H : Type) → List (DataW H) → Bool := fun _ ds => decide (uptoBulkAll ds ≤ 1048576)
def OpenSpec.upto (s : _root_.Go.ChangeSpec) : _root_.Go.OpenSpec := { _root_.Go.OpenSpec.ofChange s with cond := some uptoSmall }

/-- 'spigotlaw02.ClockClamps', WHERE WHAT IT READS IS OF BULK AT MOST 1048576: true; the input reads as it did. -/
def clockClampsUptoRow : OpenClaim := { program := "ytmngcmfcbfkimaa", sum := "e3093011a0e27933075b71e9d7f9baaae41329ebc5d7a14c454e4eddab9e28b8", func := "spigot/spigotlaw02.ClockClamps", spec := "clockClamps", unfollowed := true, recurses := true, apart := false, narrowed := true }
def ClockClampsUptoSaid : Prop := clockClampsUptoRow.holds Try.pinned (OpenSpec.upto clockClampsSpec)

/-- 'spigotlaw17.CostPrices', WHERE WHAT IT READS IS OF BULK AT MOST 1048576: true; the input reads as it did. -/
def costPricesUptoRow : OpenClaim := { program := "ytmngcmfcbfkimaa", sum := "e3093011a0e27933075b71e9d7f9baaae41329ebc5d7a14c454e4eddab9e28b8", func := "spigot/spigotlaw17.CostPrices", spec := "costPrices", unfollowed := true, recurses := true, apart := false, narrowed := true }
def CostPricesUptoSaid : Prop := costPricesUptoRow.holds Try.pinned (OpenSpec.upto costPricesSpec)

/-- 'spigotlaw17.CostTotals', WHERE WHAT IT READS IS OF BULK AT MOST 1048576: true; the input reads as it did. -/
def costTotalsUptoRow : OpenClaim := { program := "ytmngcmfcbfkimaa", sum := "e3093011a0e27933075b71e9d7f9baaae41329ebc5d7a14c454e4eddab9e28b8", func := "spigot/spigotlaw17.CostTotals", spec := "costTotals", unfollowed := true, recurses := true, apart := false, narrowed := true }
def CostTotalsUptoSaid : Prop := costTotalsUptoRow.holds Try.pinned (OpenSpec.upto costTotalsSpec)

/-- 'spigotlaw17.CostNames', WHERE WHAT IT READS IS OF BULK AT MOST 1048576: true; the input reads as it did. -/
def costNamesUptoRow : OpenClaim := { program := "ytmngcmfcbfkimaa", sum := "e3093011a0e27933075b71e9d7f9baaae41329ebc5d7a14c454e4eddab9e28b8", func := "spigot/spigotlaw17.CostNames", spec := "costNames", unfollowed := true, recurses := true, apart := false, narrowed := true }
def CostNamesUptoSaid : Prop := costNamesUptoRow.holds Try.pinned (OpenSpec.upto costNamesSpec)

/-- 'spigotlaw17.CostFirst', WHERE WHAT IT READS IS OF BULK AT MOST 1048576: true; the input reads as it did. -/
def costFirstUptoRow : OpenClaim := { program := "ytmngcmfcbfkimaa", sum := "e3093011a0e27933075b71e9d7f9baaae41329ebc5d7a14c454e4eddab9e28b8", func := "spigot/spigotlaw17.CostFirst", spec := "costFirst", unfollowed := true, recurses := true, apart := false, narrowed := true }
def CostFirstUptoSaid : Prop := costFirstUptoRow.holds Try.pinned (OpenSpec.upto costFirstSpec)

/-- 'spigotlaw17.CostAdds', WHERE WHAT IT READS IS OF BULK AT MOST 1048576: true; the input reads as it did. -/
def costAddsUptoRow : OpenClaim := { program := "ytmngcmfcbfkimaa", sum := "e3093011a0e27933075b71e9d7f9baaae41329ebc5d7a14c454e4eddab9e28b8", func := "spigot/spigotlaw17.CostAdds", spec := "costAdds", unfollowed := true, recurses := true, apart := false, narrowed := true }
def CostAddsUptoSaid : Prop := costAddsUptoRow.holds Try.pinned (OpenSpec.upto costAddsSpec)

/-- 'spigotlaw17.CostPlain', WHERE WHAT IT READS IS OF BULK AT MOST 1048576: true; the input reads as it did. -/
def costPlainUptoRow : OpenClaim := { program := "ytmngcmfcbfkimaa", sum := "e3093011a0e27933075b71e9d7f9baaae41329ebc5d7a14c454e4eddab9e28b8", func := "spigot/spigotlaw17.CostPlain", spec := "costPlain", unfollowed := true, recurses := true, apart := false, narrowed := true }
def CostPlainUptoSaid : Prop := costPlainUptoRow.holds Try.pinned (OpenSpec.upto costPlainSpec)

/-- 'spigotlaw02.ClockTicks', WHERE WHAT IT READS IS OF BULK AT MOST 1048576: true; the input reads as it did. -/
def clockTicksUptoRow : OpenClaim := { program := "ytmngcmfcbfkimaa", sum := "e3093011a0e27933075b71e9d7f9baaae41329ebc5d7a14c454e4eddab9e28b8", func := "spigot/spigotlaw02.ClockTicks", spec := "clockTicks", recurses := true, apart := false, narrowed := true }
def ClockTicksUptoSaid : Prop := clockTicksUptoRow.holds Try.pinned (OpenSpec.upto clockTicksSpec)

/-- 'spigotlaw02.ClockNames', WHERE WHAT IT READS IS OF BULK AT MOST 1048576: true; the input reads as it did. -/
def clockNamesUptoRow : OpenClaim := { program := "ytmngcmfcbfkimaa", sum := "e3093011a0e27933075b71e9d7f9baaae41329ebc5d7a14c454e4eddab9e28b8", func := "spigot/spigotlaw02.ClockNames", spec := "clockNames", unfollowed := true, recurses := true, apart := false, narrowed := true }
def ClockNamesUptoSaid : Prop := clockNamesUptoRow.holds Try.pinned (OpenSpec.upto clockNamesSpec)

/-- 'spigotlaw02.ClockNever', WHERE WHAT IT READS IS OF BULK AT MOST 1048576: true; the input reads as it did. -/
def clockNeverUptoRow : OpenClaim := { program := "ytmngcmfcbfkimaa", sum := "e3093011a0e27933075b71e9d7f9baaae41329ebc5d7a14c454e4eddab9e28b8", func := "spigot/spigotlaw02.ClockNever", spec := "clockNever", unfollowed := true, recurses := true, apart := false, narrowed := true }
def ClockNeverUptoSaid : Prop := clockNeverUptoRow.holds Try.pinned (OpenSpec.upto clockNeverSpec)

/-- 'spigotlaw02.ClockParts', WHERE WHAT IT READS IS OF BULK AT MOST 1048576: true; the input reads as it did. -/
def clockPartsUptoRow : OpenClaim := { program := "ytmngcmfcbfkimaa", sum := "e3093011a0e27933075b71e9d7f9baaae41329ebc5d7a14c454e4eddab9e28b8", func := "spigot/spigotlaw02.ClockParts", spec := "clockParts", unfollowed := true, recurses := true, apart := false, narrowed := true }
def ClockPartsUptoSaid : Prop := clockPartsUptoRow.holds Try.pinned (OpenSpec.upto clockPartsSpec)

/-- 'spigotlaw02.ClockSince', WHERE WHAT IT READS IS OF BULK AT MOST 1048576: true; the input reads as it did. -/
def clockSinceUptoRow : OpenClaim := { program := "ytmngcmfcbfkimaa", sum := "e3093011a0e27933075b71e9d7f9baaae41329ebc5d7a14c454e4eddab9e28b8", func := "spigot/spigotlaw02.ClockSince", spec := "clockSince", unfollowed := true, recurses := true, apart := false, narrowed := true }
def ClockSinceUptoSaid : Prop := clockSinceUptoRow.holds Try.pinned (OpenSpec.upto clockSinceSpec)

end Rows
end Go.Proofs.Ytmngcmfcbfkimaa
