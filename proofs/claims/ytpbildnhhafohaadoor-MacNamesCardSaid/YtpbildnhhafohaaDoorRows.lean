/-
  NARROWER THAN 'FOR EVERY INPUT', by the rows' own cells (each row's printed sentence says how): ShaSums: laid · ShaWrites: laid · ShaBlocks: laid · ShaParts: laid · ShaNames: laid · ShaOn: laid · MacSums: laid · MacMade: laid · MacKeys: laid · MacLooks: laid · MacNames: laid.
  DERIVED. THE GIVEN ROWS OF THIS SEAT. 11 by the template 'for every input the law returns true; each argument reads behind the call as it read before'; 0 by the template 'total and deterministic' (their statements: YtpbildnhhafohaaDoorTotals.lean).
  GIVEN WITH THE SEED: the statements are not yours to turn. If you find one false, say at which input.
  Laid BY PROGRAM, IN A SANDBOX (cutbox-rows.mjs): the forced cells as the released guide's own fill.sh prints them over the translation 135b28d473a0d6cc… (all of the seat's roots in one cut). By AI agents, Wed Nov 11 2026. No macro, syntax, notation, axiom, sorry.
-/
import Derived.Test.YtpbildnhhafohaaDoorChecked
import GoSem.Claim
import GoSem.ClaimJoined
import GoSem.ClaimMapViews
import Derived.JoinedTies
import Derived.KernelRfl
namespace Go.Proofs.YtpbildnhhafohaaDoor
/- THE CELL 'sum', in the pinned program and in every row, IS THE sha256 OF THE DUMP (.gsa) THAT YtpbildnhhafohaaDoorProg.lean LOADS. Nothing in Lean hashes anything: it is a label: what it is worth is what the hold of that sum in a sandbox is worth. -/
noncomputable def Tryd.pinned : Pinned := { name := "ytpbildnhhafohaadoor", sum := "135b28d473a0d6cc66bf4099ebca6dc5537e59ab3d2c2688e22fe00450b52565", checked := Tryd.checked }
namespace Rows
def none {H : Type} : Left H := { results := [], args := [] }

/- WHAT THE LISTED PACKAGE-LEVEL VARIABLES READ AS WHEN THE CALL BEGINS. Each datum BY PROGRAM (the guide's laid-datum.mjs) off the statement by which the dump's own 'gosem.cut.vars' lays the variable. In a bare row this is a premise. The card (YtpbildnhhafohaaDoorCards.lean) ties it to the program's text. -/
def laid_spigot_sha_constants {H : Type} : DataW H := .agg [.lit (.int .u32 1116352408), .lit (.int .u32 1899447441), .lit (.int .u32 3049323471), .lit (.int .u32 3921009573), .lit (.int .u32 961987163), .lit (.int .u32 1508970993), .lit (.int .u32 2453635748), .lit (.int .u32 2870763221), .lit (.int .u32 3624381080), .lit (.int .u32 310598401), .lit (.int .u32 607225278), .lit (.int .u32 1426881987), .lit (.int .u32 1925078388), .lit (.int .u32 2162078206), .lit (.int .u32 2614888103), .lit (.int .u32 3248222580), .lit (.int .u32 3835390401), .lit (.int .u32 4022224774), .lit (.int .u32 264347078), .lit (.int .u32 604807628), .lit (.int .u32 770255983), .lit (.int .u32 1249150122), .lit (.int .u32 1555081692), .lit (.int .u32 1996064986), .lit (.int .u32 2554220882), .lit (.int .u32 2821834349), .lit (.int .u32 2952996808), .lit (.int .u32 3210313671), .lit (.int .u32 3336571891), .lit (.int .u32 3584528711), .lit (.int .u32 113926993), .lit (.int .u32 338241895), .lit (.int .u32 666307205), .lit (.int .u32 773529912), .lit (.int .u32 1294757372), .lit (.int .u32 1396182291), .lit (.int .u32 1695183700), .lit (.int .u32 1986661051), .lit (.int .u32 2177026350), .lit (.int .u32 2456956037), .lit (.int .u32 2730485921), .lit (.int .u32 2820302411), .lit (.int .u32 3259730800), .lit (.int .u32 3345764771), .lit (.int .u32 3516065817), .lit (.int .u32 3600352804), .lit (.int .u32 4094571909), .lit (.int .u32 275423344), .lit (.int .u32 430227734), .lit (.int .u32 506948616), .lit (.int .u32 659060556), .lit (.int .u32 883997877), .lit (.int .u32 958139571), .lit (.int .u32 1322822218), .lit (.int .u32 1537002063), .lit (.int .u32 1747873779), .lit (.int .u32 1955562222), .lit (.int .u32 2024104815), .lit (.int .u32 2227730452), .lit (.int .u32 2361852424), .lit (.int .u32 2428436474), .lit (.int .u32 2756734187), .lit (.int .u32 3204031479), .lit (.int .u32 3329325298)]
def laid_spigot_sha_first {H : Type} : DataW H := .agg [.lit (.int .u32 1779033703), .lit (.int .u32 3144134277), .lit (.int .u32 1013904242), .lit (.int .u32 2773480762), .lit (.int .u32 1359893119), .lit (.int .u32 2600822924), .lit (.int .u32 528734635), .lit (.int .u32 1541459225)]

/-- 'spigotlaw05.ShaSums': WHATEVER THE INPUT: true; the input reads as it did. -/
def shaSumsSpec : ChangeSpec := { name := "shaSums", fn := fun _ => fun
  | [d1, d2, d3] => { results := [.lit (.bool true)], args := [d1, d2, d3] }
  | _ => none }
def shaSumsRow : OpenClaim := { program := "ytpbildnhhafohaadoor", sum := "135b28d473a0d6cc66bf4099ebca6dc5537e59ab3d2c2688e22fe00450b52565", func := "spigot/spigotlaw05.ShaSums", spec := "shaSums", named := ["spigot/sha.first", "spigot/sha.constants"], apart := false, laid := [("spigot/sha.constants", laid_spigot_sha_constants), ("spigot/sha.first", laid_spigot_sha_first)] }
def ShaSumsSaid : Prop := shaSumsRow.holds Tryd.pinned (OpenSpec.ofChange shaSumsSpec)

/-- ITS FALSE NEIGHBOUR: 'it returns false'. Refute it at one input. -/
def shaSumsWrong : ChangeSpec := { name := "shaSums", fn := fun _ => fun
  | [d1, d2, d3] => { results := [.lit (.bool false)], args := [d1, d2, d3] }
  | _ => none }
def ShaSumsWrongFalsely : Prop := shaSumsRow.holds Tryd.pinned (OpenSpec.ofChange shaSumsWrong)

/-- 'spigotlaw05.ShaWrites': WHATEVER THE INPUT: true; the input reads as it did. -/
def shaWritesSpec : ChangeSpec := { name := "shaWrites", fn := fun _ => fun
  | [d1, d2] => { results := [.lit (.bool true)], args := [d1, d2] }
  | _ => none }
def shaWritesRow : OpenClaim := { program := "ytpbildnhhafohaadoor", sum := "135b28d473a0d6cc66bf4099ebca6dc5537e59ab3d2c2688e22fe00450b52565", func := "spigot/spigotlaw05.ShaWrites", spec := "shaWrites", named := ["spigot/sha.constants", "spigot/sha.first"], apart := false, laid := [("spigot/sha.constants", laid_spigot_sha_constants), ("spigot/sha.first", laid_spigot_sha_first)] }
def ShaWritesSaid : Prop := shaWritesRow.holds Tryd.pinned (OpenSpec.ofChange shaWritesSpec)

/-- ITS FALSE NEIGHBOUR: 'it returns false'. Refute it at one input. -/
def shaWritesWrong : ChangeSpec := { name := "shaWrites", fn := fun _ => fun
  | [d1, d2] => { results := [.lit (.bool false)], args := [d1, d2] }
  | _ => none }
def ShaWritesWrongFalsely : Prop := shaWritesRow.holds Tryd.pinned (OpenSpec.ofChange shaWritesWrong)

/-- 'spigotlaw05.ShaBlocks': WHATEVER THE INPUT: true; the input reads as it did. -/
def shaBlocksSpec : ChangeSpec := { name := "shaBlocks", fn := fun _ => fun
  | [d] => { results := [.lit (.bool true)], args := [d] }
  | _ => none }
def shaBlocksRow : OpenClaim := { program := "ytpbildnhhafohaadoor", sum := "135b28d473a0d6cc66bf4099ebca6dc5537e59ab3d2c2688e22fe00450b52565", func := "spigot/spigotlaw05.ShaBlocks", spec := "shaBlocks", named := ["spigot/sha.first", "spigot/sha.constants"], apart := false, laid := [("spigot/sha.constants", laid_spigot_sha_constants), ("spigot/sha.first", laid_spigot_sha_first)] }
def ShaBlocksSaid : Prop := shaBlocksRow.holds Tryd.pinned (OpenSpec.ofChange shaBlocksSpec)

/-- ITS FALSE NEIGHBOUR: 'it returns false'. Refute it at one input. -/
def shaBlocksWrong : ChangeSpec := { name := "shaBlocks", fn := fun _ => fun
  | [d] => { results := [.lit (.bool false)], args := [d] }
  | _ => none }
def ShaBlocksWrongFalsely : Prop := shaBlocksRow.holds Tryd.pinned (OpenSpec.ofChange shaBlocksWrong)

/-- 'spigotlaw05.ShaParts': WHATEVER THE INPUT: true; the input reads as it did. -/
def shaPartsSpec : ChangeSpec := { name := "shaParts", fn := fun _ => fun
  | [d1, d2, d3] => { results := [.lit (.bool true)], args := [d1, d2, d3] }
  | _ => none }
def shaPartsRow : OpenClaim := { program := "ytpbildnhhafohaadoor", sum := "135b28d473a0d6cc66bf4099ebca6dc5537e59ab3d2c2688e22fe00450b52565", func := "spigot/spigotlaw05.ShaParts", spec := "shaParts", named := ["spigot/sha.first", "spigot/sha.constants"], apart := false, laid := [("spigot/sha.constants", laid_spigot_sha_constants), ("spigot/sha.first", laid_spigot_sha_first)] }
def ShaPartsSaid : Prop := shaPartsRow.holds Tryd.pinned (OpenSpec.ofChange shaPartsSpec)

/-- ITS FALSE NEIGHBOUR: 'it returns false'. Refute it at one input. -/
def shaPartsWrong : ChangeSpec := { name := "shaParts", fn := fun _ => fun
  | [d1, d2, d3] => { results := [.lit (.bool false)], args := [d1, d2, d3] }
  | _ => none }
def ShaPartsWrongFalsely : Prop := shaPartsRow.holds Tryd.pinned (OpenSpec.ofChange shaPartsWrong)

/-- 'spigotlaw05.ShaNames': WHATEVER THE INPUT: true; the input reads as it did. -/
def shaNamesSpec : ChangeSpec := { name := "shaNames", fn := fun _ => fun
  | [] => { results := [.lit (.bool true)], args := [] }
  | _ => none }
def shaNamesRow : OpenClaim := { program := "ytpbildnhhafohaadoor", sum := "135b28d473a0d6cc66bf4099ebca6dc5537e59ab3d2c2688e22fe00450b52565", func := "spigot/spigotlaw05.ShaNames", spec := "shaNames", named := ["spigot/sha.first", "spigot/sha.constants"], apart := false, laid := [("spigot/sha.constants", laid_spigot_sha_constants), ("spigot/sha.first", laid_spigot_sha_first)] }
def ShaNamesSaid : Prop := shaNamesRow.holds Tryd.pinned (OpenSpec.ofChange shaNamesSpec)

/-- ITS FALSE NEIGHBOUR: 'it returns false'. Refute it at one input. -/
def shaNamesWrong : ChangeSpec := { name := "shaNames", fn := fun _ => fun
  | [] => { results := [.lit (.bool false)], args := [] }
  | _ => none }
def ShaNamesWrongFalsely : Prop := shaNamesRow.holds Tryd.pinned (OpenSpec.ofChange shaNamesWrong)

/-- 'spigotlaw05.ShaOn': WHATEVER THE INPUT: true; the input reads as it did. -/
def shaOnSpec : ChangeSpec := { name := "shaOn", fn := fun _ => fun
  | [d1, d2, d3] => { results := [.lit (.bool true)], args := [d1, d2, d3] }
  | _ => none }
def shaOnRow : OpenClaim := { program := "ytpbildnhhafohaadoor", sum := "135b28d473a0d6cc66bf4099ebca6dc5537e59ab3d2c2688e22fe00450b52565", func := "spigot/spigotlaw05.ShaOn", spec := "shaOn", named := ["spigot/sha.first", "spigot/sha.constants"], apart := false, laid := [("spigot/sha.constants", laid_spigot_sha_constants), ("spigot/sha.first", laid_spigot_sha_first)] }
def ShaOnSaid : Prop := shaOnRow.holds Tryd.pinned (OpenSpec.ofChange shaOnSpec)

/-- ITS FALSE NEIGHBOUR: 'it returns false'. Refute it at one input. -/
def shaOnWrong : ChangeSpec := { name := "shaOn", fn := fun _ => fun
  | [d1, d2, d3] => { results := [.lit (.bool false)], args := [d1, d2, d3] }
  | _ => none }
def ShaOnWrongFalsely : Prop := shaOnRow.holds Tryd.pinned (OpenSpec.ofChange shaOnWrong)

/-- 'spigotlaw06.MacSums': WHATEVER THE INPUT: true; the input reads as it did. -/
def macSumsSpec : ChangeSpec := { name := "macSums", fn := fun _ => fun
  | [d1, d2, d3] => { results := [.lit (.bool true)], args := [d1, d2, d3] }
  | _ => none }
def macSumsRow : OpenClaim := { program := "ytpbildnhhafohaadoor", sum := "135b28d473a0d6cc66bf4099ebca6dc5537e59ab3d2c2688e22fe00450b52565", func := "spigot/spigotlaw06.MacSums", spec := "macSums", named := ["spigot/sha.first", "spigot/sha.constants"], apart := false, laid := [("spigot/sha.constants", laid_spigot_sha_constants), ("spigot/sha.first", laid_spigot_sha_first)] }
def MacSumsSaid : Prop := macSumsRow.holds Tryd.pinned (OpenSpec.ofChange macSumsSpec)

/-- ITS FALSE NEIGHBOUR: 'it returns false'. Refute it at one input. -/
def macSumsWrong : ChangeSpec := { name := "macSums", fn := fun _ => fun
  | [d1, d2, d3] => { results := [.lit (.bool false)], args := [d1, d2, d3] }
  | _ => none }
def MacSumsWrongFalsely : Prop := macSumsRow.holds Tryd.pinned (OpenSpec.ofChange macSumsWrong)

/-- 'spigotlaw06.MacMade': WHATEVER THE INPUT: true; the input reads as it did. -/
def macMadeSpec : ChangeSpec := { name := "macMade", fn := fun _ => fun
  | [d1, d2] => { results := [.lit (.bool true)], args := [d1, d2] }
  | _ => none }
def macMadeRow : OpenClaim := { program := "ytpbildnhhafohaadoor", sum := "135b28d473a0d6cc66bf4099ebca6dc5537e59ab3d2c2688e22fe00450b52565", func := "spigot/spigotlaw06.MacMade", spec := "macMade", unfollowed := true, recurses := true, named := ["spigot/sha.first", "spigot/sha.constants"], apart := false, laid := [("spigot/sha.constants", laid_spigot_sha_constants), ("spigot/sha.first", laid_spigot_sha_first)] }
def MacMadeSaid : Prop := macMadeRow.holds Tryd.pinned (OpenSpec.ofChange macMadeSpec)

/-- ITS FALSE NEIGHBOUR: 'it returns false'. Refute it at one input. -/
def macMadeWrong : ChangeSpec := { name := "macMade", fn := fun _ => fun
  | [d1, d2] => { results := [.lit (.bool false)], args := [d1, d2] }
  | _ => none }
def MacMadeWrongFalsely : Prop := macMadeRow.holds Tryd.pinned (OpenSpec.ofChange macMadeWrong)

/-- 'spigotlaw06.MacKeys': WHATEVER THE INPUT: true; the input reads as it did. -/
def macKeysSpec : ChangeSpec := { name := "macKeys", fn := fun _ => fun
  | [d1, d2, d3] => { results := [.lit (.bool true)], args := [d1, d2, d3] }
  | _ => none }
def macKeysRow : OpenClaim := { program := "ytpbildnhhafohaadoor", sum := "135b28d473a0d6cc66bf4099ebca6dc5537e59ab3d2c2688e22fe00450b52565", func := "spigot/spigotlaw06.MacKeys", spec := "macKeys", unfollowed := true, recurses := true, named := ["spigot/sha.first", "spigot/sha.constants"], apart := false, laid := [("spigot/sha.constants", laid_spigot_sha_constants), ("spigot/sha.first", laid_spigot_sha_first)] }
def MacKeysSaid : Prop := macKeysRow.holds Tryd.pinned (OpenSpec.ofChange macKeysSpec)

/-- ITS FALSE NEIGHBOUR: 'it returns false'. Refute it at one input. -/
def macKeysWrong : ChangeSpec := { name := "macKeys", fn := fun _ => fun
  | [d1, d2, d3] => { results := [.lit (.bool false)], args := [d1, d2, d3] }
  | _ => none }
def MacKeysWrongFalsely : Prop := macKeysRow.holds Tryd.pinned (OpenSpec.ofChange macKeysWrong)

/-- 'spigotlaw06.MacLooks': WHATEVER THE INPUT: true; the input reads as it did. -/
def macLooksSpec : ChangeSpec := { name := "macLooks", fn := fun _ => fun
  | [d1, d2, d3, d4] => { results := [.lit (.bool true)], args := [d1, d2, d3, d4] }
  | _ => none }
def macLooksRow : OpenClaim := { program := "ytpbildnhhafohaadoor", sum := "135b28d473a0d6cc66bf4099ebca6dc5537e59ab3d2c2688e22fe00450b52565", func := "spigot/spigotlaw06.MacLooks", spec := "macLooks", unfollowed := true, recurses := true, named := ["spigot/sha.first", "spigot/sha.constants"], apart := false, laid := [("spigot/sha.constants", laid_spigot_sha_constants), ("spigot/sha.first", laid_spigot_sha_first)] }
def MacLooksSaid : Prop := macLooksRow.holds Tryd.pinned (OpenSpec.ofChange macLooksSpec)

/-- ITS FALSE NEIGHBOUR: 'it returns false'. Refute it at one input. -/
def macLooksWrong : ChangeSpec := { name := "macLooks", fn := fun _ => fun
  | [d1, d2, d3, d4] => { results := [.lit (.bool false)], args := [d1, d2, d3, d4] }
  | _ => none }
def MacLooksWrongFalsely : Prop := macLooksRow.holds Tryd.pinned (OpenSpec.ofChange macLooksWrong)

/-- 'spigotlaw06.MacNames': WHATEVER THE INPUT: true; the input reads as it did. -/
def macNamesSpec : ChangeSpec := { name := "macNames", fn := fun _ => fun
  | [] => { results := [.lit (.bool true)], args := [] }
  | _ => none }
def macNamesRow : OpenClaim := { program := "ytpbildnhhafohaadoor", sum := "135b28d473a0d6cc66bf4099ebca6dc5537e59ab3d2c2688e22fe00450b52565", func := "spigot/spigotlaw06.MacNames", spec := "macNames", unfollowed := true, recurses := true, named := ["spigot/sha.first", "spigot/sha.constants"], apart := false, laid := [("spigot/sha.constants", laid_spigot_sha_constants), ("spigot/sha.first", laid_spigot_sha_first)] }
def MacNamesSaid : Prop := macNamesRow.holds Tryd.pinned (OpenSpec.ofChange macNamesSpec)

/-- ITS FALSE NEIGHBOUR: 'it returns false'. Refute it at one input. -/
def macNamesWrong : ChangeSpec := { name := "macNames", fn := fun _ => fun
  | [] => { results := [.lit (.bool false)], args := [] }
  | _ => none }
def MacNamesWrongFalsely : Prop := macNamesRow.holds Tryd.pinned (OpenSpec.ofChange macNamesWrong)

/- THE SECOND FORM. 'bulk': how many values and letters a reading holds, each counted each time it is reached (what is shared counts as often as it is met; a slice's spare places count too). A statement '..UptoSaid' is the law's where the arguments, and the package variables that the reading takes, are together of bulk at most 1048576: NARROWER than '..Said'. Prove '..Said' where nothing that the law and all that it calls make is longer than what came in: it says more and counts as full. Else prove '..UptoSaid'. A law counts once. -/
mutual
def uptoBulk {H : Type} : DataW H → Nat
  | .lit (.string bytes) => bytes.length + 1
  | .lit _ => 1
  | .nil => 1
  | .ptr d => uptoBulk d + 1
  | .slice elems spare => uptoBulkAll elems + uptoBulkAll spare + 1
  | .agg parts => uptoBulkAll parts + 1
  | .iface _ d => uptoBulk d + 1
  | .map entries => uptoBulkEntries entries + 1
  | .held _ => 1
def uptoBulkAll {H : Type} : List (DataW H) → Nat
  | [] => 0
  | d :: r => uptoBulk d + uptoBulkAll r
def uptoBulkEntries {H : Type} : List (Lit × DataW H) → Nat
  | [] => 0
  | x :: r => uptoBulkEntry x + uptoBulkEntries r
def uptoBulkEntry {H : Type} : Lit × DataW H → Nat
  | (.string bytes, d) => bytes.length + uptoBulk d + 1
  | (_, d) => uptoBulk d + 1
 end
def uptoSmall : (H : Type) → List (DataW H) → Bool := fun _ ds => decide (uptoBulkAll ds ≤ 1048576)
def OpenSpec.upto (s : _root_.Go.ChangeSpec) : _root_.Go.OpenSpec := { _root_.Go.OpenSpec.ofChange s with cond := some uptoSmall }

/-- 'spigotlaw05.ShaSums', WHERE WHAT IT READS IS OF BULK AT MOST 1048576: true; the input reads as it did. -/
def shaSumsUptoRow : OpenClaim := { program := "ytpbildnhhafohaadoor", sum := "135b28d473a0d6cc66bf4099ebca6dc5537e59ab3d2c2688e22fe00450b52565", func := "spigot/spigotlaw05.ShaSums", spec := "shaSums", named := ["spigot/sha.first", "spigot/sha.constants"], apart := false, laid := [("spigot/sha.constants", laid_spigot_sha_constants), ("spigot/sha.first", laid_spigot_sha_first)], narrowed := true }
def ShaSumsUptoSaid : Prop := shaSumsUptoRow.holds Tryd.pinned (OpenSpec.upto shaSumsSpec)

/-- 'spigotlaw05.ShaWrites', WHERE WHAT IT READS IS OF BULK AT MOST 1048576: true; the input reads as it did. -/
def shaWritesUptoRow : OpenClaim := { program := "ytpbildnhhafohaadoor", sum := "135b28d473a0d6cc66bf4099ebca6dc5537e59ab3d2c2688e22fe00450b52565", func := "spigot/spigotlaw05.ShaWrites", spec := "shaWrites", named := ["spigot/sha.constants", "spigot/sha.first"], apart := false, laid := [("spigot/sha.constants", laid_spigot_sha_constants), ("spigot/sha.first", laid_spigot_sha_first)], narrowed := true }
def ShaWritesUptoSaid : Prop := shaWritesUptoRow.holds Tryd.pinned (OpenSpec.upto shaWritesSpec)

/-- 'spigotlaw05.ShaBlocks', WHERE WHAT IT READS IS OF BULK AT MOST 1048576: true; the input reads as it did. -/
def shaBlocksUptoRow : OpenClaim := { program := "ytpbildnhhafohaadoor", sum := "135b28d473a0d6cc66bf4099ebca6dc5537e59ab3d2c2688e22fe00450b52565", func := "spigot/spigotlaw05.ShaBlocks", spec := "shaBlocks", named := ["spigot/sha.first", "spigot/sha.constants"], apart := false, laid := [("spigot/sha.constants", laid_spigot_sha_constants), ("spigot/sha.first", laid_spigot_sha_first)], narrowed := true }
def ShaBlocksUptoSaid : Prop := shaBlocksUptoRow.holds Tryd.pinned (OpenSpec.upto shaBlocksSpec)

/-- 'spigotlaw05.ShaParts', WHERE WHAT IT READS IS OF BULK AT MOST 1048576: true; the input reads as it did. -/
def shaPartsUptoRow : OpenClaim := { program := "ytpbildnhhafohaadoor", sum := "135b28d473a0d6cc66bf4099ebca6dc5537e59ab3d2c2688e22fe00450b52565", func := "spigot/spigotlaw05.ShaParts", spec := "shaParts", named := ["spigot/sha.first", "spigot/sha.constants"], apart := false, laid := [("spigot/sha.constants", laid_spigot_sha_constants), ("spigot/sha.first", laid_spigot_sha_first)], narrowed := true }
def ShaPartsUptoSaid : Prop := shaPartsUptoRow.holds Tryd.pinned (OpenSpec.upto shaPartsSpec)

/-- 'spigotlaw05.ShaNames', WHERE WHAT IT READS IS OF BULK AT MOST 1048576: true; the input reads as it did. -/
def shaNamesUptoRow : OpenClaim := { program := "ytpbildnhhafohaadoor", sum := "135b28d473a0d6cc66bf4099ebca6dc5537e59ab3d2c2688e22fe00450b52565", func := "spigot/spigotlaw05.ShaNames", spec := "shaNames", named := ["spigot/sha.first", "spigot/sha.constants"], apart := false, laid := [("spigot/sha.constants", laid_spigot_sha_constants), ("spigot/sha.first", laid_spigot_sha_first)], narrowed := true }
def ShaNamesUptoSaid : Prop := shaNamesUptoRow.holds Tryd.pinned (OpenSpec.upto shaNamesSpec)

/-- 'spigotlaw05.ShaOn', WHERE WHAT IT READS IS OF BULK AT MOST 1048576: true; the input reads as it did. -/
def shaOnUptoRow : OpenClaim := { program := "ytpbildnhhafohaadoor", sum := "135b28d473a0d6cc66bf4099ebca6dc5537e59ab3d2c2688e22fe00450b52565", func := "spigot/spigotlaw05.ShaOn", spec := "shaOn", named := ["spigot/sha.first", "spigot/sha.constants"], apart := false, laid := [("spigot/sha.constants", laid_spigot_sha_constants), ("spigot/sha.first", laid_spigot_sha_first)], narrowed := true }
def ShaOnUptoSaid : Prop := shaOnUptoRow.holds Tryd.pinned (OpenSpec.upto shaOnSpec)

/-- 'spigotlaw06.MacSums', WHERE WHAT IT READS IS OF BULK AT MOST 1048576: true; the input reads as it did. -/
def macSumsUptoRow : OpenClaim := { program := "ytpbildnhhafohaadoor", sum := "135b28d473a0d6cc66bf4099ebca6dc5537e59ab3d2c2688e22fe00450b52565", func := "spigot/spigotlaw06.MacSums", spec := "macSums", named := ["spigot/sha.first", "spigot/sha.constants"], apart := false, laid := [("spigot/sha.constants", laid_spigot_sha_constants), ("spigot/sha.first", laid_spigot_sha_first)], narrowed := true }
def MacSumsUptoSaid : Prop := macSumsUptoRow.holds Tryd.pinned (OpenSpec.upto macSumsSpec)

/-- 'spigotlaw06.MacMade', WHERE WHAT IT READS IS OF BULK AT MOST 1048576: true; the input reads as it did. -/
def macMadeUptoRow : OpenClaim := { program := "ytpbildnhhafohaadoor", sum := "135b28d473a0d6cc66bf4099ebca6dc5537e59ab3d2c2688e22fe00450b52565", func := "spigot/spigotlaw06.MacMade", spec := "macMade", unfollowed := true, recurses := true, named := ["spigot/sha.first", "spigot/sha.constants"], apart := false, laid := [("spigot/sha.constants", laid_spigot_sha_constants), ("spigot/sha.first", laid_spigot_sha_first)], narrowed := true }
def MacMadeUptoSaid : Prop := macMadeUptoRow.holds Tryd.pinned (OpenSpec.upto macMadeSpec)

/-- 'spigotlaw06.MacKeys', WHERE WHAT IT READS IS OF BULK AT MOST 1048576: true; the input reads as it did. -/
def macKeysUptoRow : OpenClaim := { program := "ytpbildnhhafohaadoor", sum := "135b28d473a0d6cc66bf4099ebca6dc5537e59ab3d2c2688e22fe00450b52565", func := "spigot/spigotlaw06.MacKeys", spec := "macKeys", unfollowed := true, recurses := true, named := ["spigot/sha.first", "spigot/sha.constants"], apart := false, laid := [("spigot/sha.constants", laid_spigot_sha_constants), ("spigot/sha.first", laid_spigot_sha_first)], narrowed := true }
def MacKeysUptoSaid : Prop := macKeysUptoRow.holds Tryd.pinned (OpenSpec.upto macKeysSpec)

/-- 'spigotlaw06.MacLooks', WHERE WHAT IT READS IS OF BULK AT MOST 1048576: true; the input reads as it did. -/
def macLooksUptoRow : OpenClaim := { program := "ytpbildnhhafohaadoor", sum := "135b28d473a0d6cc66bf4099ebca6dc5537e59ab3d2c2688e22fe00450b52565", func := "spigot/spigotlaw06.MacLooks", spec := "macLooks", unfollowed := true, recurses := true, named := ["spigot/sha.first", "spigot/sha.constants"], apart := false, laid := [("spigot/sha.constants", laid_spigot_sha_constants), ("spigot/sha.first", laid_spigot_sha_first)], narrowed := true }
def MacLooksUptoSaid : Prop := macLooksUptoRow.holds Tryd.pinned (OpenSpec.upto macLooksSpec)

/-- 'spigotlaw06.MacNames', WHERE WHAT IT READS IS OF BULK AT MOST 1048576: true; the input reads as it did. -/
def macNamesUptoRow : OpenClaim := { program := "ytpbildnhhafohaadoor", sum := "135b28d473a0d6cc66bf4099ebca6dc5537e59ab3d2c2688e22fe00450b52565", func := "spigot/spigotlaw06.MacNames", spec := "macNames", unfollowed := true, recurses := true, named := ["spigot/sha.first", "spigot/sha.constants"], apart := false, laid := [("spigot/sha.constants", laid_spigot_sha_constants), ("spigot/sha.first", laid_spigot_sha_first)], narrowed := true }
def MacNamesUptoSaid : Prop := macNamesUptoRow.holds Tryd.pinned (OpenSpec.upto macNamesSpec)

end Rows
end Go.Proofs.YtpbildnhhafohaaDoor
