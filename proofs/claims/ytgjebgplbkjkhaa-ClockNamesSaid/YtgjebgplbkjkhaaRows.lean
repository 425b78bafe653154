/-
  No cell of these rows narrows 'for every input' (looked for: loops, veiled, ifaces, maps, wideKeys, modest, calm, conditions, laid).
  DERIVED. THE GIVEN ROWS OF THIS SEAT. 5 by the template 'for every input the law returns true; each argument reads behind the call as it read before'; 0 by the template 'total and deterministic' (their statements: YtgjebgplbkjkhaaTotals.lean).
  GIVEN WITH THE SEED: the statements are not yours to turn. If you find one false, say at which input.
  Laid BY PROGRAM, IN A SANDBOX (cutbox-rows.mjs): the forced cells as the released guide's own fill.sh prints them over the translation b7babf032947332f… (all of the seat's roots in one cut). By AI agents, Wed Nov 11 2026. No macro, syntax, notation, axiom, sorry.
-/
import Derived.Test.YtgjebgplbkjkhaaChecked
import GoSem.Claim
import GoSem.ClaimJoined
import GoSem.ClaimMapViews
import Derived.JoinedTies
import Derived.KernelRfl
namespace Go.Proofs.Ytgjebgplbkjkhaa
/- THE CELL 'sum', in the pinned program and in every row, IS THE sha256 OF THE DUMP (.gsa) THAT YtgjebgplbkjkhaaProg.lean LOADS. Nothing in Lean hashes anything: it is a label: what it is worth is what the hold of that sum in a sandbox is worth. -/
noncomputable def Try.pinned : Pinned := { name := "ytgjebgplbkjkhaa", sum := "b7babf032947332fdb2faae8e237ebc0ce136899cabb7cc2e6b6952f78225ea2", checked := Try.checked }
namespace Rows
def none {H : Type} : Left H := { results := [], args := [] }

/-- 'spigotlaw02.ClockTicks': WHATEVER THE INPUT: true; the input reads as it did. -/
def clockTicksSpec : ChangeSpec := { name := "clockTicks", fn := fun _ => fun
  | [d1, d2, d3, d4] => { results := [.lit (.bool true)], args := [d1, d2, d3, d4] }
  | _ => none }
def clockTicksRow : OpenClaim := { program := "ytgjebgplbkjkhaa", sum := "b7babf032947332fdb2faae8e237ebc0ce136899cabb7cc2e6b6952f78225ea2", func := "spigot/spigotlaw02.ClockTicks", spec := "clockTicks", recurses := true, apart := false }
def ClockTicksSaid : Prop := clockTicksRow.holds Try.pinned (OpenSpec.ofChange clockTicksSpec)

/-- ITS FALSE NEIGHBOUR: 'it returns false'. Refute it at one input. -/
def clockTicksWrong : ChangeSpec := { name := "clockTicks", fn := fun _ => fun
  | [d1, d2, d3, d4] => { results := [.lit (.bool false)], args := [d1, d2, d3, d4] }
  | _ => none }
def ClockTicksWrongFalsely : Prop := clockTicksRow.holds Try.pinned (OpenSpec.ofChange clockTicksWrong)

/-- 'spigotlaw02.ClockNames': WHATEVER THE INPUT: true; the input reads as it did. -/
def clockNamesSpec : ChangeSpec := { name := "clockNames", fn := fun _ => fun
  | [] => { results := [.lit (.bool true)], args := [] }
  | _ => none }
def clockNamesRow : OpenClaim := { program := "ytgjebgplbkjkhaa", sum := "b7babf032947332fdb2faae8e237ebc0ce136899cabb7cc2e6b6952f78225ea2", func := "spigot/spigotlaw02.ClockNames", spec := "clockNames", unfollowed := true, recurses := true, apart := false }
def ClockNamesSaid : Prop := clockNamesRow.holds Try.pinned (OpenSpec.ofChange clockNamesSpec)

/-- ITS FALSE NEIGHBOUR: 'it returns false'. Refute it at one input. -/
def clockNamesWrong : ChangeSpec := { name := "clockNames", fn := fun _ => fun
  | [] => { results := [.lit (.bool false)], args := [] }
  | _ => none }
def ClockNamesWrongFalsely : Prop := clockNamesRow.holds Try.pinned (OpenSpec.ofChange clockNamesWrong)

/-- 'spigotlaw02.ClockNever': WHATEVER THE INPUT: true; the input reads as it did. -/
def clockNeverSpec : ChangeSpec := { name := "clockNever", fn := fun _ => fun
  | [d1, d2] => { results := [.lit (.bool true)], args := [d1, d2] }
  | _ => none }
def clockNeverRow : OpenClaim := { program := "ytgjebgplbkjkhaa", sum := "b7babf032947332fdb2faae8e237ebc0ce136899cabb7cc2e6b6952f78225ea2", func := "spigot/spigotlaw02.ClockNever", spec := "clockNever", unfollowed := true, recurses := true, apart := false }
def ClockNeverSaid : Prop := clockNeverRow.holds Try.pinned (OpenSpec.ofChange clockNeverSpec)

/-- ITS FALSE NEIGHBOUR: 'it returns false'. Refute it at one input. -/
def clockNeverWrong : ChangeSpec := { name := "clockNever", fn := fun _ => fun
  | [d1, d2] => { results := [.lit (.bool false)], args := [d1, d2] }
  | _ => none }
def ClockNeverWrongFalsely : Prop := clockNeverRow.holds Try.pinned (OpenSpec.ofChange clockNeverWrong)

/-- 'spigotlaw02.ClockParts': WHATEVER THE INPUT: true; the input reads as it did. -/
def clockPartsSpec : ChangeSpec := { name := "clockParts", fn := fun _ => fun
  | [d1, d2, d3] => { results := [.lit (.bool true)], args := [d1, d2, d3] }
  | _ => none }
def clockPartsRow : OpenClaim := { program := "ytgjebgplbkjkhaa", sum := "b7babf032947332fdb2faae8e237ebc0ce136899cabb7cc2e6b6952f78225ea2", func := "spigot/spigotlaw02.ClockParts", spec := "clockParts", unfollowed := true, recurses := true, apart := false }
def ClockPartsSaid : Prop := clockPartsRow.holds Try.pinned (OpenSpec.ofChange clockPartsSpec)

/-- ITS FALSE NEIGHBOUR: 'it returns false'. Refute it at one input. -/
def clockPartsWrong : ChangeSpec := { name := "clockParts", fn := fun _ => fun
  | [d1, d2, d3] => { results := [.lit (.bool false)], args := [d1, d2, d3] }
  | _ => none }
def ClockPartsWrongFalsely : Prop := clockPartsRow.holds Try.pinned (OpenSpec.ofChange clockPartsWrong)

/-- 'spigotlaw02.ClockSince': WHATEVER THE INPUT: true; the input reads as it did. -/
def clockSinceSpec : ChangeSpec := { name := "clockSince", fn := fun _ => fun
  | [d1, d2, d3, d4] => { results := [.lit (.bool true)], args := [d1, d2, d3, d4] }
  | _ => none }
def clockSinceRow : OpenClaim := { program := "ytgjebgplbkjkhaa", sum := "b7babf032947332fdb2faae8e237ebc0ce136899cabb7cc2e6b6952f78225ea2", func := "spigot/spigotlaw02.ClockSince", spec := "clockSince", unfollowed := true, recurses := true, apart := false }
def ClockSinceSaid : Prop := clockSinceRow.holds Try.pinned (OpenSpec.ofChange clockSinceSpec)

/-- ITS FALSE NEIGHBOUR: 'it returns false'. Refute it at one input. -/
def clockSinceWrong : ChangeSpec := { name := "clockSince", fn := fun _ => fun
  | [d1, d2, d3, d4] => { results := [.lit (.bool false)], args := [d1, d2, d3, d4] }
  | _ => none }
def ClockSinceWrongFalsely : Prop := clockSinceRow.holds Try.pinned (OpenSpec.ofChange clockSinceWrong)

/- THE SECOND FORM. 'bulk': how many values and letters a reading holds, each counted each time it is reached (what is shared counts as often as it is met; a slice's spare places count too). A statement '..UptoSaid' is the law's where the arguments, and the package variables that the reading takes, are together of bulk at most 1048576: NARROWER than '..Said'. Prove '..Said' where nothing that the law and all that it calls make is longer than what came in: it says more and counts as full. Else prove '..UptoSaid'. A law counts once. -/
mutual
def uptoBulk {H : Type} : DataW H → Nat
  | .lit (.string bytes) => bytes.length + 1
  | .lit _ => 1
  | .nil => 1
  | .ptr d => uptoBulk d + 1
  | .slice elems spare => uptoBulkAll elems + uptoBulkAll spare + 1
  | .agg parts => uptoBulkAll parts + 1
  | .iface _ d => uptoBulk d + 1
  | .map entries => uptoBulkEntries entries + 1
  | .held _ => 1
def uptoBulkAll {H : Type} : List (DataW H) → Nat
  | [] => 0
  | d :: r => uptoBulk d + uptoBulkAll r
def uptoBulkEntries {H : Type} : List (Lit × DataW H) → Nat
  | [] => 0
  | x :: r => uptoBulkEntry x + uptoBulkEntries r
def uptoBulkEntry {H : Type} : Lit × DataW H → Nat
  | (.string bytes, d) => bytes.length + uptoBulk d + 1
  | (_, d) => uptoBulk d + 1
 end
def uptoSmall : (H : Type) → List (DataW H) → Bool := fun _ ds => decide (uptoBulkAll ds ≤ 1048576)
def OpenSpec.upto (s : _root_.Go.ChangeSpec) : _root_.Go.OpenSpec := { _root_.Go.OpenSpec.ofChange s with cond := some uptoSmall }

/-- 'spigotlaw02.ClockTicks', WHERE WHAT IT READS IS OF BULK AT MOST 1048576: true; the input reads as it did. -/
def clockTicksUptoRow : OpenClaim := { program := "ytgjebgplbkjkhaa", sum := "b7babf032947332fdb2faae8e237ebc0ce136899cabb7cc2e6b6952f78225ea2", func := "spigot/spigotlaw02.ClockTicks", spec := "clockTicks", recurses := true, apart := false, narrowed := true }
def ClockTicksUptoSaid : Prop := clockTicksUptoRow.holds Try.pinned (OpenSpec.upto clockTicksSpec)

/-- 'spigotlaw02.ClockNames', WHERE WHAT IT READS IS OF BULK AT MOST 1048576: true; the input reads as it did. -/
def clockNamesUptoRow : OpenClaim := { program := "ytgjebgplbkjkhaa", sum := "b7babf032947332fdb2faae8e237ebc0ce136899cabb7cc2e6b6952f78225ea2", func := "spigot/spigotlaw02.ClockNames", spec := "clockNames", unfollowed := true, recurses := true, apart := false, narrowed := true }
def ClockNamesUptoSaid : Prop := clockNamesUptoRow.holds Try.pinned (OpenSpec.upto clockNamesSpec)

/-- 'spigotlaw02.ClockNever', WHERE WHAT IT READS IS OF BULK AT MOST 1048576: true; the input reads as it did. -/
def clockNeverUptoRow : OpenClaim := { program := "ytgjebgplbkjkhaa", sum := "b7babf032947332fdb2faae8e237ebc0ce136899cabb7cc2e6b6952f78225ea2", func := "spigot/spigotlaw02.ClockNever", spec := "clockNever", unfollowed := true, recurses := true, apart := false, narrowed := true }
def ClockNeverUptoSaid : Prop := clockNeverUptoRow.holds Try.pinned (OpenSpec.upto clockNeverSpec)

/-- 'spigotlaw02.ClockParts', WHERE WHAT IT READS IS OF BULK AT MOST 1048576: true; the input reads as it did. -/
def clockPartsUptoRow : OpenClaim := { program := "ytgjebgplbkjkhaa", sum := "b7babf032947332fdb2faae8e237ebc0ce136899cabb7cc2e6b6952f78225ea2", func := "spigot/spigotlaw02.ClockParts", spec := "clockParts", unfollowed := true, recurses := true, apart := false, narrowed := true }
def ClockPartsUptoSaid : Prop := clockPartsUptoRow.holds Try.pinned (OpenSpec.upto clockPartsSpec)

/-- 'spigotlaw02.ClockSince', WHERE WHAT IT READS IS OF BULK AT MOST 1048576: true; the input reads as it did. -/
def clockSinceUptoRow : OpenClaim := { program := "ytgjebgplbkjkhaa", sum := "b7babf032947332fdb2faae8e237ebc0ce136899cabb7cc2e6b6952f78225ea2", func := "spigot/spigotlaw02.ClockSince", spec := "clockSince", unfollowed := true, recurses := true, apart := false, narrowed := true }
def ClockSinceUptoSaid : Prop := clockSinceUptoRow.holds Try.pinned (OpenSpec.upto clockSinceSpec)

end Rows
end Go.Proofs.Ytgjebgplbkjkhaa
