/-
  No cell of these rows narrows 'for every input' (looked for: loops, veiled, ifaces, maps, wideKeys, modest, calm, conditions, laid).
  DERIVED. THE GIVEN ROWS OF THIS SEAT. 19 by the template 'for every input the law returns true; each argument reads behind the call as it read before'; 0 by the template 'total and deterministic' (their statements: YtjgffjofgeppoaaTotals.lean).
  GIVEN WITH THE SEED: the statements are not yours to turn. If you find one false, say at which input.
  Laid BY PROGRAM, IN A SANDBOX (cutbox-rows.mjs): the forced cells as the released guide's own fill.sh prints them over the translation 2c2eca0d2527e9df… (all of the seat's roots in one cut). By AI agents, Wed Nov 11 2026. No macro, syntax, notation, axiom, sorry.
-/
import Derived.Test.YtjgffjofgeppoaaChecked
import GoSem.Claim
import GoSem.ClaimJoined
import GoSem.ClaimMapViews
import Derived.JoinedTies
import Derived.KernelRfl
namespace Go.Proofs.Ytjgffjofgeppoaa
/- THE CELL 'sum', in the pinned program and in every row, IS THE sha256 OF THE DUMP (.gsa) THAT YtjgffjofgeppoaaProg.lean LOADS. Nothing in Lean hashes anything: it is a label: what it is worth is what the hold of that sum in a sandbox is worth. -/
noncomputable def Try.pinned : Pinned := { name := "ytjgffjofgeppoaa", sum := "2c2eca0d2527e9df5a179c8e8301783bb81f11931851e6e92eb6e1836dbc49f1", checked := Try.checked }
namespace Rows
def none {H : Type} : Left H := { results := [], args := [] }

/-- 'spigotlaw07.FieldWrites': WHATEVER THE INPUT: true; the input reads as it did. -/
def fieldWritesSpec : ChangeSpec := { name := "fieldWrites", fn := fun _ => fun
  | [d1, d2] => { results := [.lit (.bool true)], args := [d1, d2] }
  | _ => none }
def fieldWritesRow : OpenClaim := { program := "ytjgffjofgeppoaa", sum := "2c2eca0d2527e9df5a179c8e8301783bb81f11931851e6e92eb6e1836dbc49f1", func := "spigot/spigotlaw07.FieldWrites", spec := "fieldWrites", unfollowed := true, recurses := true, apart := false }
def FieldWritesSaid : Prop := fieldWritesRow.holds Try.pinned (OpenSpec.ofChange fieldWritesSpec)

/-- ITS FALSE NEIGHBOUR: 'it returns false'. Refute it at one input. -/
def fieldWritesWrong : ChangeSpec := { name := "fieldWrites", fn := fun _ => fun
  | [d1, d2] => { results := [.lit (.bool false)], args := [d1, d2] }
  | _ => none }
def FieldWritesWrongFalsely : Prop := fieldWritesRow.holds Try.pinned (OpenSpec.ofChange fieldWritesWrong)

/-- 'spigotlaw07.FieldReads': WHATEVER THE INPUT: true; the input reads as it did. -/
def fieldReadsSpec : ChangeSpec := { name := "fieldReads", fn := fun _ => fun
  | [d1, d2] => { results := [.lit (.bool true)], args := [d1, d2] }
  | _ => none }
def fieldReadsRow : OpenClaim := { program := "ytjgffjofgeppoaa", sum := "2c2eca0d2527e9df5a179c8e8301783bb81f11931851e6e92eb6e1836dbc49f1", func := "spigot/spigotlaw07.FieldReads", spec := "fieldReads", unfollowed := true, recurses := true, apart := false }
def FieldReadsSaid : Prop := fieldReadsRow.holds Try.pinned (OpenSpec.ofChange fieldReadsSpec)

/-- ITS FALSE NEIGHBOUR: 'it returns false'. Refute it at one input. -/
def fieldReadsWrong : ChangeSpec := { name := "fieldReads", fn := fun _ => fun
  | [d1, d2] => { results := [.lit (.bool false)], args := [d1, d2] }
  | _ => none }
def FieldReadsWrongFalsely : Prop := fieldReadsRow.holds Try.pinned (OpenSpec.ofChange fieldReadsWrong)

/-- 'spigotlaw07.FieldJoins': WHATEVER THE INPUT: true; the input reads as it did. -/
def fieldJoinsSpec : ChangeSpec := { name := "fieldJoins", fn := fun _ => fun
  | [d1, d2] => { results := [.lit (.bool true)], args := [d1, d2] }
  | _ => none }
def fieldJoinsRow : OpenClaim := { program := "ytjgffjofgeppoaa", sum := "2c2eca0d2527e9df5a179c8e8301783bb81f11931851e6e92eb6e1836dbc49f1", func := "spigot/spigotlaw07.FieldJoins", spec := "fieldJoins", unfollowed := true, recurses := true, apart := false }
def FieldJoinsSaid : Prop := fieldJoinsRow.holds Try.pinned (OpenSpec.ofChange fieldJoinsSpec)

/-- ITS FALSE NEIGHBOUR: 'it returns false'. Refute it at one input. -/
def fieldJoinsWrong : ChangeSpec := { name := "fieldJoins", fn := fun _ => fun
  | [d1, d2] => { results := [.lit (.bool false)], args := [d1, d2] }
  | _ => none }
def FieldJoinsWrongFalsely : Prop := fieldJoinsRow.holds Try.pinned (OpenSpec.ofChange fieldJoinsWrong)

/-- 'spigotlaw10.ReplyWrites': WHATEVER THE INPUT: true; the input reads as it did. -/
def replyWritesSpec : ChangeSpec := { name := "replyWrites", fn := fun _ => fun
  | [d1, d2] => { results := [.lit (.bool true)], args := [d1, d2] }
  | _ => none }
def replyWritesRow : OpenClaim := { program := "ytjgffjofgeppoaa", sum := "2c2eca0d2527e9df5a179c8e8301783bb81f11931851e6e92eb6e1836dbc49f1", func := "spigot/spigotlaw10.ReplyWrites", spec := "replyWrites", unfollowed := true, recurses := true, apart := false }
def ReplyWritesSaid : Prop := replyWritesRow.holds Try.pinned (OpenSpec.ofChange replyWritesSpec)

/-- ITS FALSE NEIGHBOUR: 'it returns false'. Refute it at one input. -/
def replyWritesWrong : ChangeSpec := { name := "replyWrites", fn := fun _ => fun
  | [d1, d2] => { results := [.lit (.bool false)], args := [d1, d2] }
  | _ => none }
def ReplyWritesWrongFalsely : Prop := replyWritesRow.holds Try.pinned (OpenSpec.ofChange replyWritesWrong)

/-- 'spigotlaw07.FieldBack': WHATEVER THE INPUT: true; the input reads as it did. -/
def fieldBackSpec : ChangeSpec := { name := "fieldBack", fn := fun _ => fun
  | [d1, d2, d3] => { results := [.lit (.bool true)], args := [d1, d2, d3] }
  | _ => none }
def fieldBackRow : OpenClaim := { program := "ytjgffjofgeppoaa", sum := "2c2eca0d2527e9df5a179c8e8301783bb81f11931851e6e92eb6e1836dbc49f1", func := "spigot/spigotlaw07.FieldBack", spec := "fieldBack", unfollowed := true, recurses := true, apart := false }
def FieldBackSaid : Prop := fieldBackRow.holds Try.pinned (OpenSpec.ofChange fieldBackSpec)

/-- ITS FALSE NEIGHBOUR: 'it returns false'. Refute it at one input. -/
def fieldBackWrong : ChangeSpec := { name := "fieldBack", fn := fun _ => fun
  | [d1, d2, d3] => { results := [.lit (.bool false)], args := [d1, d2, d3] }
  | _ => none }
def FieldBackWrongFalsely : Prop := fieldBackRow.holds Try.pinned (OpenSpec.ofChange fieldBackWrong)

/-- 'spigotlaw07.FieldOrder': WHATEVER THE INPUT: true; the input reads as it did. -/
def fieldOrderSpec : ChangeSpec := { name := "fieldOrder", fn := fun _ => fun
  | [d1, d2, d3] => { results := [.lit (.bool true)], args := [d1, d2, d3] }
  | _ => none }
def fieldOrderRow : OpenClaim := { program := "ytjgffjofgeppoaa", sum := "2c2eca0d2527e9df5a179c8e8301783bb81f11931851e6e92eb6e1836dbc49f1", func := "spigot/spigotlaw07.FieldOrder", spec := "fieldOrder", unfollowed := true, recurses := true, apart := false }
def FieldOrderSaid : Prop := fieldOrderRow.holds Try.pinned (OpenSpec.ofChange fieldOrderSpec)

/-- ITS FALSE NEIGHBOUR: 'it returns false'. Refute it at one input. -/
def fieldOrderWrong : ChangeSpec := { name := "fieldOrder", fn := fun _ => fun
  | [d1, d2, d3] => { results := [.lit (.bool false)], args := [d1, d2, d3] }
  | _ => none }
def FieldOrderWrongFalsely : Prop := fieldOrderRow.holds Try.pinned (OpenSpec.ofChange fieldOrderWrong)

/-- 'spigotlaw07.FieldNames': WHATEVER THE INPUT: true; the input reads as it did. -/
def fieldNamesSpec : ChangeSpec := { name := "fieldNames", fn := fun _ => fun
  | [] => { results := [.lit (.bool true)], args := [] }
  | _ => none }
def fieldNamesRow : OpenClaim := { program := "ytjgffjofgeppoaa", sum := "2c2eca0d2527e9df5a179c8e8301783bb81f11931851e6e92eb6e1836dbc49f1", func := "spigot/spigotlaw07.FieldNames", spec := "fieldNames", unfollowed := true, recurses := true, apart := false }
def FieldNamesSaid : Prop := fieldNamesRow.holds Try.pinned (OpenSpec.ofChange fieldNamesSpec)

/-- ITS FALSE NEIGHBOUR: 'it returns false'. Refute it at one input. -/
def fieldNamesWrong : ChangeSpec := { name := "fieldNames", fn := fun _ => fun
  | [] => { results := [.lit (.bool false)], args := [] }
  | _ => none }
def FieldNamesWrongFalsely : Prop := fieldNamesRow.holds Try.pinned (OpenSpec.ofChange fieldNamesWrong)

/-- 'spigotlaw08.TokenReads': WHATEVER THE INPUT: true; the input reads as it did. -/
def tokenReadsSpec : ChangeSpec := { name := "tokenReads", fn := fun _ => fun
  | [d1, d2] => { results := [.lit (.bool true)], args := [d1, d2] }
  | _ => none }
def tokenReadsRow : OpenClaim := { program := "ytjgffjofgeppoaa", sum := "2c2eca0d2527e9df5a179c8e8301783bb81f11931851e6e92eb6e1836dbc49f1", func := "spigot/spigotlaw08.TokenReads", spec := "tokenReads", unfollowed := true, recurses := true, apart := false }
def TokenReadsSaid : Prop := tokenReadsRow.holds Try.pinned (OpenSpec.ofChange tokenReadsSpec)

/-- ITS FALSE NEIGHBOUR: 'it returns false'. Refute it at one input. -/
def tokenReadsWrong : ChangeSpec := { name := "tokenReads", fn := fun _ => fun
  | [d1, d2] => { results := [.lit (.bool false)], args := [d1, d2] }
  | _ => none }
def TokenReadsWrongFalsely : Prop := tokenReadsRow.holds Try.pinned (OpenSpec.ofChange tokenReadsWrong)

/-- 'spigotlaw10.ReplyReads': WHATEVER THE INPUT: true; the input reads as it did. -/
def replyReadsSpec : ChangeSpec := { name := "replyReads", fn := fun _ => fun
  | [d] => { results := [.lit (.bool true)], args := [d] }
  | _ => none }
def replyReadsRow : OpenClaim := { program := "ytjgffjofgeppoaa", sum := "2c2eca0d2527e9df5a179c8e8301783bb81f11931851e6e92eb6e1836dbc49f1", func := "spigot/spigotlaw10.ReplyReads", spec := "replyReads", unfollowed := true, recurses := true, apart := false }
def ReplyReadsSaid : Prop := replyReadsRow.holds Try.pinned (OpenSpec.ofChange replyReadsSpec)

/-- ITS FALSE NEIGHBOUR: 'it returns false'. Refute it at one input. -/
def replyReadsWrong : ChangeSpec := { name := "replyReads", fn := fun _ => fun
  | [d] => { results := [.lit (.bool false)], args := [d] }
  | _ => none }
def ReplyReadsWrongFalsely : Prop := replyReadsRow.holds Try.pinned (OpenSpec.ofChange replyReadsWrong)

/-- 'spigotlaw09.FrameWrites': WHATEVER THE INPUT: true; the input reads as it did. -/
def frameWritesSpec : ChangeSpec := { name := "frameWrites", fn := fun _ => fun
  | [d] => { results := [.lit (.bool true)], args := [d] }
  | _ => none }
def frameWritesRow : OpenClaim := { program := "ytjgffjofgeppoaa", sum := "2c2eca0d2527e9df5a179c8e8301783bb81f11931851e6e92eb6e1836dbc49f1", func := "spigot/spigotlaw09.FrameWrites", spec := "frameWrites", unfollowed := true, recurses := true, apart := false }
def FrameWritesSaid : Prop := frameWritesRow.holds Try.pinned (OpenSpec.ofChange frameWritesSpec)

/-- ITS FALSE NEIGHBOUR: 'it returns false'. Refute it at one input. -/
def frameWritesWrong : ChangeSpec := { name := "frameWrites", fn := fun _ => fun
  | [d] => { results := [.lit (.bool false)], args := [d] }
  | _ => none }
def FrameWritesWrongFalsely : Prop := frameWritesRow.holds Try.pinned (OpenSpec.ofChange frameWritesWrong)

/-- 'spigotlaw10.ReplyNames': WHATEVER THE INPUT: true; the input reads as it did. -/
def replyNamesSpec : ChangeSpec := { name := "replyNames", fn := fun _ => fun
  | [] => { results := [.lit (.bool true)], args := [] }
  | _ => none }
def replyNamesRow : OpenClaim := { program := "ytjgffjofgeppoaa", sum := "2c2eca0d2527e9df5a179c8e8301783bb81f11931851e6e92eb6e1836dbc49f1", func := "spigot/spigotlaw10.ReplyNames", spec := "replyNames", unfollowed := true, recurses := true, apart := false }
def ReplyNamesSaid : Prop := replyNamesRow.holds Try.pinned (OpenSpec.ofChange replyNamesSpec)

/-- ITS FALSE NEIGHBOUR: 'it returns false'. Refute it at one input. -/
def replyNamesWrong : ChangeSpec := { name := "replyNames", fn := fun _ => fun
  | [] => { results := [.lit (.bool false)], args := [] }
  | _ => none }
def ReplyNamesWrongFalsely : Prop := replyNamesRow.holds Try.pinned (OpenSpec.ofChange replyNamesWrong)

/-- 'spigotlaw10.ReplyOne': WHATEVER THE INPUT: true; the input reads as it did. -/
def replyOneSpec : ChangeSpec := { name := "replyOne", fn := fun _ => fun
  | [d1, d2, d3] => { results := [.lit (.bool true)], args := [d1, d2, d3] }
  | _ => none }
def replyOneRow : OpenClaim := { program := "ytjgffjofgeppoaa", sum := "2c2eca0d2527e9df5a179c8e8301783bb81f11931851e6e92eb6e1836dbc49f1", func := "spigot/spigotlaw10.ReplyOne", spec := "replyOne", unfollowed := true, recurses := true, apart := false }
def ReplyOneSaid : Prop := replyOneRow.holds Try.pinned (OpenSpec.ofChange replyOneSpec)

/-- ITS FALSE NEIGHBOUR: 'it returns false'. Refute it at one input. -/
def replyOneWrong : ChangeSpec := { name := "replyOne", fn := fun _ => fun
  | [d1, d2, d3] => { results := [.lit (.bool false)], args := [d1, d2, d3] }
  | _ => none }
def ReplyOneWrongFalsely : Prop := replyOneRow.holds Try.pinned (OpenSpec.ofChange replyOneWrong)

/-- 'spigotlaw10.ReplyBare': WHATEVER THE INPUT: true; the input reads as it did. -/
def replyBareSpec : ChangeSpec := { name := "replyBare", fn := fun _ => fun
  | [d1, d2] => { results := [.lit (.bool true)], args := [d1, d2] }
  | _ => none }
def replyBareRow : OpenClaim := { program := "ytjgffjofgeppoaa", sum := "2c2eca0d2527e9df5a179c8e8301783bb81f11931851e6e92eb6e1836dbc49f1", func := "spigot/spigotlaw10.ReplyBare", spec := "replyBare", unfollowed := true, recurses := true, apart := false }
def ReplyBareSaid : Prop := replyBareRow.holds Try.pinned (OpenSpec.ofChange replyBareSpec)

/-- ITS FALSE NEIGHBOUR: 'it returns false'. Refute it at one input. -/
def replyBareWrong : ChangeSpec := { name := "replyBare", fn := fun _ => fun
  | [d1, d2] => { results := [.lit (.bool false)], args := [d1, d2] }
  | _ => none }
def ReplyBareWrongFalsely : Prop := replyBareRow.holds Try.pinned (OpenSpec.ofChange replyBareWrong)

/-- 'spigotlaw10.ReplyChanged': WHATEVER THE INPUT: true; the input reads as it did. -/
def replyChangedSpec : ChangeSpec := { name := "replyChanged", fn := fun _ => fun
  | [d1, d2, d3] => { results := [.lit (.bool true)], args := [d1, d2, d3] }
  | _ => none }
def replyChangedRow : OpenClaim := { program := "ytjgffjofgeppoaa", sum := "2c2eca0d2527e9df5a179c8e8301783bb81f11931851e6e92eb6e1836dbc49f1", func := "spigot/spigotlaw10.ReplyChanged", spec := "replyChanged", unfollowed := true, recurses := true, apart := false }
def ReplyChangedSaid : Prop := replyChangedRow.holds Try.pinned (OpenSpec.ofChange replyChangedSpec)

/-- ITS FALSE NEIGHBOUR: 'it returns false'. Refute it at one input. -/
def replyChangedWrong : ChangeSpec := { name := "replyChanged", fn := fun _ => fun
  | [d1, d2, d3] => { results := [.lit (.bool false)], args := [d1, d2, d3] }
  | _ => none }
def ReplyChangedWrongFalsely : Prop := replyChangedRow.holds Try.pinned (OpenSpec.ofChange replyChangedWrong)

/-- 'spigotlaw09.FrameReads': WHATEVER THE INPUT: true; the input reads as it did. -/
def frameReadsSpec : ChangeSpec := { name := "frameReads", fn := fun _ => fun
  | [d] => { results := [.lit (.bool true)], args := [d] }
  | _ => none }
def frameReadsRow : OpenClaim := { program := "ytjgffjofgeppoaa", sum := "2c2eca0d2527e9df5a179c8e8301783bb81f11931851e6e92eb6e1836dbc49f1", func := "spigot/spigotlaw09.FrameReads", spec := "frameReads", unfollowed := true, recurses := true, apart := false }
def FrameReadsSaid : Prop := frameReadsRow.holds Try.pinned (OpenSpec.ofChange frameReadsSpec)

/-- ITS FALSE NEIGHBOUR: 'it returns false'. Refute it at one input. -/
def frameReadsWrong : ChangeSpec := { name := "frameReads", fn := fun _ => fun
  | [d] => { results := [.lit (.bool false)], args := [d] }
  | _ => none }
def FrameReadsWrongFalsely : Prop := frameReadsRow.holds Try.pinned (OpenSpec.ofChange frameReadsWrong)

/-- 'spigotlaw09.FrameOne': WHATEVER THE INPUT: true; the input reads as it did. -/
def frameOneSpec : ChangeSpec := { name := "frameOne", fn := fun _ => fun
  | [d1, d2] => { results := [.lit (.bool true)], args := [d1, d2] }
  | _ => none }
def frameOneRow : OpenClaim := { program := "ytjgffjofgeppoaa", sum := "2c2eca0d2527e9df5a179c8e8301783bb81f11931851e6e92eb6e1836dbc49f1", func := "spigot/spigotlaw09.FrameOne", spec := "frameOne", unfollowed := true, recurses := true, apart := false }
def FrameOneSaid : Prop := frameOneRow.holds Try.pinned (OpenSpec.ofChange frameOneSpec)

/-- ITS FALSE NEIGHBOUR: 'it returns false'. Refute it at one input. -/
def frameOneWrong : ChangeSpec := { name := "frameOne", fn := fun _ => fun
  | [d1, d2] => { results := [.lit (.bool false)], args := [d1, d2] }
  | _ => none }
def FrameOneWrongFalsely : Prop := frameOneRow.holds Try.pinned (OpenSpec.ofChange frameOneWrong)

/-- 'spigotlaw09.FrameBefore': WHATEVER THE INPUT: true; the input reads as it did. -/
def frameBeforeSpec : ChangeSpec := { name := "frameBefore", fn := fun _ => fun
  | [d1, d2, d3] => { results := [.lit (.bool true)], args := [d1, d2, d3] }
  | _ => none }
def frameBeforeRow : OpenClaim := { program := "ytjgffjofgeppoaa", sum := "2c2eca0d2527e9df5a179c8e8301783bb81f11931851e6e92eb6e1836dbc49f1", func := "spigot/spigotlaw09.FrameBefore", spec := "frameBefore", unfollowed := true, recurses := true, apart := false }
def FrameBeforeSaid : Prop := frameBeforeRow.holds Try.pinned (OpenSpec.ofChange frameBeforeSpec)

/-- ITS FALSE NEIGHBOUR: 'it returns false'. Refute it at one input. -/
def frameBeforeWrong : ChangeSpec := { name := "frameBefore", fn := fun _ => fun
  | [d1, d2, d3] => { results := [.lit (.bool false)], args := [d1, d2, d3] }
  | _ => none }
def FrameBeforeWrongFalsely : Prop := frameBeforeRow.holds Try.pinned (OpenSpec.ofChange frameBeforeWrong)

/-- 'spigotlaw09.FrameChanged': WHATEVER THE INPUT: true; the input reads as it did. -/
def frameChangedSpec : ChangeSpec := { name := "frameChanged", fn := fun _ => fun
  | [d1, d2, d3] => { results := [.lit (.bool true)], args := [d1, d2, d3] }
  | _ => none }
def frameChangedRow : OpenClaim := { program := "ytjgffjofgeppoaa", sum := "2c2eca0d2527e9df5a179c8e8301783bb81f11931851e6e92eb6e1836dbc49f1", func := "spigot/spigotlaw09.FrameChanged", spec := "frameChanged", unfollowed := true, recurses := true, apart := false }
def FrameChangedSaid : Prop := frameChangedRow.holds Try.pinned (OpenSpec.ofChange frameChangedSpec)

/-- ITS FALSE NEIGHBOUR: 'it returns false'. Refute it at one input. -/
def frameChangedWrong : ChangeSpec := { name := "frameChanged", fn := fun _ => fun
  | [d1, d2, d3] => { results := [.lit (.bool false)], args := [d1, d2, d3] }
  | _ => none }
def FrameChangedWrongFalsely : Prop := frameChangedRow.holds Try.pinned (OpenSpec.ofChange frameChangedWrong)

/-- 'spigotlaw09.FrameNames': WHATEVER THE INPUT: true; the input reads as it did. -/
def frameNamesSpec : ChangeSpec := { name := "frameNames", fn := fun _ => fun
  | [] => { results := [.lit (.bool true)], args := [] }
  | _ => none }
def frameNamesRow : OpenClaim := { program := "ytjgffjofgeppoaa", sum := "2c2eca0d2527e9df5a179c8e8301783bb81f11931851e6e92eb6e1836dbc49f1", func := "spigot/spigotlaw09.FrameNames", spec := "frameNames", unfollowed := true, recurses := true, apart := false }
def FrameNamesSaid : Prop := frameNamesRow.holds Try.pinned (OpenSpec.ofChange frameNamesSpec)

/-- ITS FALSE NEIGHBOUR: 'it returns false'. Refute it at one input. -/
def frameNamesWrong : ChangeSpec := { name := "frameNames", fn := fun _ => fun
  | [] => { results := [.lit (.bool false)], args := [] }
  | _ => none }
def FrameNamesWrongFalsely : Prop := frameNamesRow.holds Try.pinned (OpenSpec.ofChange frameNamesWrong)

/- THE SECOND FORM. 'bulk': how many values and letters a reading holds, each counted each time it is reached (what is shared counts as often as it is met; a slice's spare places count too). A statement '..UptoSaid' is the law's where the arguments, and the package variables that the reading takes, are together of bulk at most 1048576: NARROWER than '..Said'. Prove '..Said' where nothing that the law and all that it calls make is longer than what came in: it says more and counts as full. Else prove '..UptoSaid'. A law counts once. -/
mutual
def uptoBulk {H : Type} : DataW H → Nat
  | .lit (.string bytes) => bytes.length + 1
  | .lit _ => 1
  | .nil => 1
  | .ptr d => uptoBulk d + 1
  | .slice elems spare => uptoBulkAll elems + uptoBulkAll spare + 1
  | .agg parts => uptoBulkAll parts + 1
  | .iface _ d => uptoBulk d + 1
  | .map entries => uptoBulkEntries entries + 1
  | .held _ => 1
def uptoBulkAll {H : Type} : List (DataW H) → Nat
  | [] => 0
  | d :: r => uptoBulk d + uptoBulkAll r
def uptoBulkEntries {H : Type} : List (Lit × DataW H) → Nat
  | [] => 0
  | x :: r => uptoBulkEntry x + uptoBulkEntries r
def uptoBulkEntry {H : Type} : Lit × DataW H → Nat
  | (.string bytes, d) => bytes.length + uptoBulk d + 1
  | (_, d) => uptoBulk d + 1
 end
def uptoSmall : (H : Type) → List (DataW H) → Bool := fun _ ds => decide (uptoBulkAll ds ≤ 1048576)
def OpenSpec.upto (s : _root_.Go.ChangeSpec) : _root_.Go.OpenSpec := { _root_.Go.OpenSpec.ofChange s with cond := some uptoSmall }

/-- 'spigotlaw07.FieldWrites', WHERE WHAT IT READS IS OF BULK AT MOST 1048576: true; the input reads as it did. -/
def fieldWritesUptoRow : OpenClaim := { program := "ytjgffjofgeppoaa", sum := "2c2eca0d2527e9df5a179c8e8301783bb81f11931851e6e92eb6e1836dbc49f1", func := "spigot/spigotlaw07.FieldWrites", spec := "fieldWrites", unfollowed := true, recurses := true, apart := false, narrowed := true }
def FieldWritesUptoSaid : Prop := fieldWritesUptoRow.holds Try.pinned (OpenSpec.upto fieldWritesSpec)

/-- 'spigotlaw07.FieldReads', WHERE WHAT IT READS IS OF BULK AT MOST 1048576: true; the input reads as it did. -/
def fieldReadsUptoRow : OpenClaim := { program := "ytjgffjofgeppoaa", sum := "2c2eca0d2527e9df5a179c8e8301783bb81f11931851e6e92eb6e1836dbc49f1", func := "spigot/spigotlaw07.FieldReads", spec := "fieldReads", unfollowed := true, recurses := true, apart := false, narrowed := true }
def FieldReadsUptoSaid : Prop := fieldReadsUptoRow.holds Try.pinned (OpenSpec.upto fieldReadsSpec)

/-- 'spigotlaw07.FieldJoins', WHERE WHAT IT READS IS OF BULK AT MOST 1048576: true; the input reads as it did. -/
def fieldJoinsUptoRow : OpenClaim := { program := "ytjgffjofgeppoaa", sum := "2c2eca0d2527e9df5a179c8e8301783bb81f11931851e6e92eb6e1836dbc49f1", func := "spigot/spigotlaw07.FieldJoins", spec := "fieldJoins", unfollowed := true, recurses := true, apart := false, narrowed := true }
def FieldJoinsUptoSaid : Prop := fieldJoinsUptoRow.holds Try.pinned (OpenSpec.upto fieldJoinsSpec)

/-- 'spigotlaw10.ReplyWrites', WHERE WHAT IT READS IS OF BULK AT MOST 1048576: true; the input reads as it did. -/
def replyWritesUptoRow : OpenClaim := { program := "ytjgffjofgeppoaa", sum := "2c2eca0d2527e9df5a179c8e8301783bb81f11931851e6e92eb6e1836dbc49f1", func := "spigot/spigotlaw10.ReplyWrites", spec := "replyWrites", unfollowed := true, recurses := true, apart := false, narrowed := true }
def ReplyWritesUptoSaid : Prop := replyWritesUptoRow.holds Try.pinned (OpenSpec.upto replyWritesSpec)

/-- 'spigotlaw07.FieldBack', WHERE WHAT IT READS IS OF BULK AT MOST 1048576: true; the input reads as it did. -/
def fieldBackUptoRow : OpenClaim := { program := "ytjgffjofgeppoaa", sum := "2c2eca0d2527e9df5a179c8e8301783bb81f11931851e6e92eb6e1836dbc49f1", func := "spigot/spigotlaw07.FieldBack", spec := "fieldBack", unfollowed := true, recurses := true, apart := false, narrowed := true }
def FieldBackUptoSaid : Prop := fieldBackUptoRow.holds Try.pinned (OpenSpec.upto fieldBackSpec)

/-- 'spigotlaw07.FieldOrder', WHERE WHAT IT READS IS OF BULK AT MOST 1048576: true; the input reads as it did. -/
def fieldOrderUptoRow : OpenClaim := { program := "ytjgffjofgeppoaa", sum := "2c2eca0d2527e9df5a179c8e8301783bb81f11931851e6e92eb6e1836dbc49f1", func := "spigot/spigotlaw07.FieldOrder", spec := "fieldOrder", unfollowed := true, recurses := true, apart := false, narrowed := true }
def FieldOrderUptoSaid : Prop := fieldOrderUptoRow.holds Try.pinned (OpenSpec.upto fieldOrderSpec)

/-- 'spigotlaw07.FieldNames', WHERE WHAT IT READS IS OF BULK AT MOST 1048576: true; the input reads as it did. -/
def fieldNamesUptoRow : OpenClaim := { program := "ytjgffjofgeppoaa", sum := "2c2eca0d2527e9df5a179c8e8301783bb81f11931851e6e92eb6e1836dbc49f1", func := "spigot/spigotlaw07.FieldNames", spec := "fieldNames", unfollowed := true, recurses := true, apart := false, narrowed := true }
def FieldNamesUptoSaid : Prop := fieldNamesUptoRow.holds Try.pinned (OpenSpec.upto fieldNamesSpec)

/-- 'spigotlaw08.TokenReads', WHERE WHAT IT READS IS OF BULK AT MOST 1048576: true; the input reads as it did. -/
def tokenReadsUptoRow : OpenClaim := { program := "ytjgffjofgeppoaa", sum := "2c2eca0d2527e9df5a179c8e8301783bb81f11931851e6e92eb6e1836dbc49f1", func := "spigot/spigotlaw08.TokenReads", spec := "tokenReads", unfollowed := true, recurses := true, apart := false, narrowed := true }
def TokenReadsUptoSaid : Prop := tokenReadsUptoRow.holds Try.pinned (OpenSpec.upto tokenReadsSpec)

/-- 'spigotlaw10.ReplyReads', WHERE WHAT IT READS IS OF BULK AT MOST 1048576: true; the input reads as it did. -/
def replyReadsUptoRow : OpenClaim := { program := "ytjgffjofgeppoaa", sum := "2c2eca0d2527e9df5a179c8e8301783bb81f11931851e6e92eb6e1836dbc49f1", func := "spigot/spigotlaw10.ReplyReads", spec := "replyReads", unfollowed := true, recurses := true, apart := false, narrowed := true }
def ReplyReadsUptoSaid : Prop := replyReadsUptoRow.holds Try.pinned (OpenSpec.upto replyReadsSpec)

/-- 'spigotlaw09.FrameWrites', WHERE WHAT IT READS IS OF BULK AT MOST 1048576: true; the input reads as it did. -/
def frameWritesUptoRow : OpenClaim := { program := "ytjgffjofgeppoaa", sum := "2c2eca0d2527e9df5a179c8e8301783bb81f11931851e6e92eb6e1836dbc49f1", func := "spigot/spigotlaw09.FrameWrites", spec := "frameWrites", unfollowed := true, recurses := true, apart := false, narrowed := true }
def FrameWritesUptoSaid : Prop := frameWritesUptoRow.holds Try.pinned (OpenSpec.upto frameWritesSpec)

/-- 'spigotlaw10.ReplyNames', WHERE WHAT IT READS IS OF BULK AT MOST 1048576: true; the input reads as it did. -/
def replyNamesUptoRow : OpenClaim := { program := "ytjgffjofgeppoaa", sum := "2c2eca0d2527e9df5a179c8e8301783bb81f11931851e6e92eb6e1836dbc49f1", func := "spigot/spigotlaw10.ReplyNames", spec := "replyNames", unfollowed := true, recurses := true, apart := false, narrowed := true }
def ReplyNamesUptoSaid : Prop := replyNamesUptoRow.holds Try.pinned (OpenSpec.upto replyNamesSpec)

/-- 'spigotlaw10.ReplyOne', WHERE WHAT IT READS IS OF BULK AT MOST 1048576: true; the input reads as it did. -/
def replyOneUptoRow : OpenClaim := { program := "ytjgffjofgeppoaa", sum := "2c2eca0d2527e9df5a179c8e8301783bb81f11931851e6e92eb6e1836dbc49f1", func := "spigot/spigotlaw10.ReplyOne", spec := "replyOne", unfollowed := true, recurses := true, apart := false, narrowed := true }
def ReplyOneUptoSaid : Prop := replyOneUptoRow.holds Try.pinned (OpenSpec.upto replyOneSpec)

/-- 'spigotlaw10.ReplyBare', WHERE WHAT IT READS IS OF BULK AT MOST 1048576: true; the input reads as it did. -/
def replyBareUptoRow : OpenClaim := { program := "ytjgffjofgeppoaa", sum := "2c2eca0d2527e9df5a179c8e8301783bb81f11931851e6e92eb6e1836dbc49f1", func := "spigot/spigotlaw10.ReplyBare", spec := "replyBare", unfollowed := true, recurses := true, apart := false, narrowed := true }
def ReplyBareUptoSaid : Prop := replyBareUptoRow.holds Try.pinned (OpenSpec.upto replyBareSpec)

/-- 'spigotlaw10.ReplyChanged', WHERE WHAT IT READS IS OF BULK AT MOST 1048576: true; the input reads as it did. -/
def replyChangedUptoRow : OpenClaim := { program := "ytjgffjofgeppoaa", sum := "2c2eca0d2527e9df5a179c8e8301783bb81f11931851e6e92eb6e1836dbc49f1", func := "spigot/spigotlaw10.ReplyChanged", spec := "replyChanged", unfollowed := true, recurses := true, apart := false, narrowed := true }
def ReplyChangedUptoSaid : Prop := replyChangedUptoRow.holds Try.pinned (OpenSpec.upto replyChangedSpec)

/-- 'spigotlaw09.FrameReads', WHERE WHAT IT READS IS OF BULK AT MOST 1048576: true; the input reads as it did. -/
def frameReadsUptoRow : OpenClaim := { program := "ytjgffjofgeppoaa", sum := "2c2eca0d2527e9df5a179c8e8301783bb81f11931851e6e92eb6e1836dbc49f1", func := "spigot/spigotlaw09.FrameReads", spec := "frameReads", unfollowed := true, recurses := true, apart := false, narrowed := true }
def FrameReadsUptoSaid : Prop := frameReadsUptoRow.holds Try.pinned (OpenSpec.upto frameReadsSpec)

/-- 'spigotlaw09.FrameOne', WHERE WHAT IT READS IS OF BULK AT MOST 1048576: true; the input reads as it did. -/
def frameOneUptoRow : OpenClaim := { program := "ytjgffjofgeppoaa", sum := "2c2eca0d2527e9df5a179c8e8301783bb81f11931851e6e92eb6e1836dbc49f1", func := "spigot/spigotlaw09.FrameOne", spec := "frameOne", unfollowed := true, recurses := true, apart := false, narrowed := true }
def FrameOneUptoSaid : Prop := frameOneUptoRow.holds Try.pinned (OpenSpec.upto frameOneSpec)

/-- 'spigotlaw09.FrameBefore', WHERE WHAT IT READS IS OF BULK AT MOST 1048576: true; the input reads as it did. -/
def frameBeforeUptoRow : OpenClaim := { program := "ytjgffjofgeppoaa", sum := "2c2eca0d2527e9df5a179c8e8301783bb81f11931851e6e92eb6e1836dbc49f1", func := "spigot/spigotlaw09.FrameBefore", spec := "frameBefore", unfollowed := true, recurses := true, apart := false, narrowed := true }
def FrameBeforeUptoSaid : Prop := frameBeforeUptoRow.holds Try.pinned (OpenSpec.upto frameBeforeSpec)

/-- 'spigotlaw09.FrameChanged', WHERE WHAT IT READS IS OF BULK AT MOST 1048576: true; the input reads as it did. -/
def frameChangedUptoRow : OpenClaim := { program := "ytjgffjofgeppoaa", sum := "2c2eca0d2527e9df5a179c8e8301783bb81f11931851e6e92eb6e1836dbc49f1", func := "spigot/spigotlaw09.FrameChanged", spec := "frameChanged", unfollowed := true, recurses := true, apart := false, narrowed := true }
def FrameChangedUptoSaid : Prop := frameChangedUptoRow.holds Try.pinned (OpenSpec.upto frameChangedSpec)

/-- 'spigotlaw09.FrameNames', WHERE WHAT IT READS IS OF BULK AT MOST 1048576: true; the input reads as it did. -/
def frameNamesUptoRow : OpenClaim := { program := "ytjgffjofgeppoaa", sum := "2c2eca0d2527e9df5a179c8e8301783bb81f11931851e6e92eb6e1836dbc49f1", func := "spigot/spigotlaw09.FrameNames", spec := "frameNames", unfollowed := true, recurses := true, apart := false, narrowed := true }
def FrameNamesUptoSaid : Prop := frameNamesUptoRow.holds Try.pinned (OpenSpec.upto frameNamesSpec)

end Rows
end Go.Proofs.Ytjgffjofgeppoaa
