/-
  NARROWER THAN 'FOR EVERY INPUT', by the rows' own cells (each row's printed sentence says how): ShaSum: laid · ShaPads: laid · ShaParts: laid · ShaTwo: laid · ShaMac: laid · ShaChain: laid · HkdfFewer: laid · HkdfBlocks: laid · HkdfExpand: laid · HkdfLabel: laid · HkdfSchedule: laid · GuardKeys: laid.
  DERIVED. THE GIVEN ROWS OF THIS SEAT. 12 by the template 'for every input the law returns true; each argument reads behind the call as it read before'; 0 by the template 'total and deterministic' (their statements: YtmifegjmmlipbaaDoorTotals.lean).
  GIVEN WITH THE SEED: the statements are not yours to turn. If you find one false, say at which input.
  Laid BY PROGRAM, IN A SANDBOX (cutbox-rows.mjs): the forced cells as the released guide's own fill.sh prints them over the translation 4a7139be90064d37… (all of the seat's roots in one cut). By AI agents, Wed Nov 11 2026. No macro, syntax, notation, axiom, sorry.
-/
import Derived.Test.YtmifegjmmlipbaaDoorChecked
import GoSem.Claim
import GoSem.ClaimJoined
import GoSem.ClaimMapViews
import Derived.JoinedTies
import Derived.KernelRfl
namespace Go.Proofs.YtmifegjmmlipbaaDoor
/- THE CELL 'sum', in the pinned program and in every row, IS THE sha256 OF THE DUMP (.gsa) THAT YtmifegjmmlipbaaDoorProg.lean LOADS. Nothing in Lean hashes anything: it is a label: what it is worth is what the hold of that sum in a sandbox is worth. -/
noncomputable def Tryd.pinned : Pinned := { name := "ytmifegjmmlipbaadoor", sum := "4a7139be90064d3711c82bf2e55f9bd4a15dd554eb6bcfc8c5e3820c66df9ae9", checked := Tryd.checked }
namespace Rows
def none {H : Type} : Left H := { results := [], args := [] }

/- WHAT THE LISTED PACKAGE-LEVEL VARIABLES READ AS WHEN THE CALL BEGINS. Each datum BY PROGRAM (the guide's laid-datum.mjs) off the statement by which the dump's own 'gosem.cut.vars' lays the variable. In a bare row this is a premise. The card (YtmifegjmmlipbaaDoorCards.lean) ties it to the program's text. -/
def laid_rhyne_sha_first {H : Type} : DataW H := .agg [.lit (.int .u32 1779033703), .lit (.int .u32 3144134277), .lit (.int .u32 1013904242), .lit (.int .u32 2773480762), .lit (.int .u32 1359893119), .lit (.int .u32 2600822924), .lit (.int .u32 528734635), .lit (.int .u32 1541459225)]
def laid_rhyne_sha_round {H : Type} : DataW H := .agg [.lit (.int .u32 1116352408), .lit (.int .u32 1899447441), .lit (.int .u32 3049323471), .lit (.int .u32 3921009573), .lit (.int .u32 961987163), .lit (.int .u32 1508970993), .lit (.int .u32 2453635748), .lit (.int .u32 2870763221), .lit (.int .u32 3624381080), .lit (.int .u32 310598401), .lit (.int .u32 607225278), .lit (.int .u32 1426881987), .lit (.int .u32 1925078388), .lit (.int .u32 2162078206), .lit (.int .u32 2614888103), .lit (.int .u32 3248222580), .lit (.int .u32 3835390401), .lit (.int .u32 4022224774), .lit (.int .u32 264347078), .lit (.int .u32 604807628), .lit (.int .u32 770255983), .lit (.int .u32 1249150122), .lit (.int .u32 1555081692), .lit (.int .u32 1996064986), .lit (.int .u32 2554220882), .lit (.int .u32 2821834349), .lit (.int .u32 2952996808), .lit (.int .u32 3210313671), .lit (.int .u32 3336571891), .lit (.int .u32 3584528711), .lit (.int .u32 113926993), .lit (.int .u32 338241895), .lit (.int .u32 666307205), .lit (.int .u32 773529912), .lit (.int .u32 1294757372), .lit (.int .u32 1396182291), .lit (.int .u32 1695183700), .lit (.int .u32 1986661051), .lit (.int .u32 2177026350), .lit (.int .u32 2456956037), .lit (.int .u32 2730485921), .lit (.int .u32 2820302411), .lit (.int .u32 3259730800), .lit (.int .u32 3345764771), .lit (.int .u32 3516065817), .lit (.int .u32 3600352804), .lit (.int .u32 4094571909), .lit (.int .u32 275423344), .lit (.int .u32 430227734), .lit (.int .u32 506948616), .lit (.int .u32 659060556), .lit (.int .u32 883997877), .lit (.int .u32 958139571), .lit (.int .u32 1322822218), .lit (.int .u32 1537002063), .lit (.int .u32 1747873779), .lit (.int .u32 1955562222), .lit (.int .u32 2024104815), .lit (.int .u32 2227730452), .lit (.int .u32 2361852424), .lit (.int .u32 2428436474), .lit (.int .u32 2756734187), .lit (.int .u32 3204031479), .lit (.int .u32 3329325298)]

/-- 'rhynelaw01.ShaSum': WHATEVER THE INPUT: true; the input reads as it did. -/
def shaSumSpec : ChangeSpec := { name := "shaSum", fn := fun _ => fun
  | [d] => { results := [.lit (.bool true)], args := [d] }
  | _ => none }
def shaSumRow : OpenClaim := { program := "ytmifegjmmlipbaadoor", sum := "4a7139be90064d3711c82bf2e55f9bd4a15dd554eb6bcfc8c5e3820c66df9ae9", func := "rhyne/rhynelaw01.ShaSum", spec := "shaSum", recurses := true, named := ["rhyne/sha.first", "rhyne/sha.round"], apart := false, laid := [("rhyne/sha.first", laid_rhyne_sha_first), ("rhyne/sha.round", laid_rhyne_sha_round)] }
def ShaSumSaid : Prop := shaSumRow.holds Tryd.pinned (OpenSpec.ofChange shaSumSpec)

/-- ITS FALSE NEIGHBOUR: 'it returns false'. Refute it at one input. -/
def shaSumWrong : ChangeSpec := { name := "shaSum", fn := fun _ => fun
  | [d] => { results := [.lit (.bool false)], args := [d] }
  | _ => none }
def ShaSumWrongFalsely : Prop := shaSumRow.holds Tryd.pinned (OpenSpec.ofChange shaSumWrong)

/-- 'rhynelaw01.ShaPads': WHATEVER THE INPUT: true; the input reads as it did. -/
def shaPadsSpec : ChangeSpec := { name := "shaPads", fn := fun _ => fun
  | [d1, d2] => { results := [.lit (.bool true)], args := [d1, d2] }
  | _ => none }
def shaPadsRow : OpenClaim := { program := "ytmifegjmmlipbaadoor", sum := "4a7139be90064d3711c82bf2e55f9bd4a15dd554eb6bcfc8c5e3820c66df9ae9", func := "rhyne/rhynelaw01.ShaPads", spec := "shaPads", recurses := true, named := ["rhyne/sha.first", "rhyne/sha.round"], apart := false, laid := [("rhyne/sha.first", laid_rhyne_sha_first), ("rhyne/sha.round", laid_rhyne_sha_round)] }
def ShaPadsSaid : Prop := shaPadsRow.holds Tryd.pinned (OpenSpec.ofChange shaPadsSpec)

/-- ITS FALSE NEIGHBOUR: 'it returns false'. Refute it at one input. -/
def shaPadsWrong : ChangeSpec := { name := "shaPads", fn := fun _ => fun
  | [d1, d2] => { results := [.lit (.bool false)], args := [d1, d2] }
  | _ => none }
def ShaPadsWrongFalsely : Prop := shaPadsRow.holds Tryd.pinned (OpenSpec.ofChange shaPadsWrong)

/-- 'rhynelaw01.ShaParts': WHATEVER THE INPUT: true; the input reads as it did. -/
def shaPartsSpec : ChangeSpec := { name := "shaParts", fn := fun _ => fun
  | [d] => { results := [.lit (.bool true)], args := [d] }
  | _ => none }
def shaPartsRow : OpenClaim := { program := "ytmifegjmmlipbaadoor", sum := "4a7139be90064d3711c82bf2e55f9bd4a15dd554eb6bcfc8c5e3820c66df9ae9", func := "rhyne/rhynelaw01.ShaParts", spec := "shaParts", recurses := true, named := ["rhyne/sha.round", "rhyne/sha.first"], apart := false, laid := [("rhyne/sha.first", laid_rhyne_sha_first), ("rhyne/sha.round", laid_rhyne_sha_round)] }
def ShaPartsSaid : Prop := shaPartsRow.holds Tryd.pinned (OpenSpec.ofChange shaPartsSpec)

/-- ITS FALSE NEIGHBOUR: 'it returns false'. Refute it at one input. -/
def shaPartsWrong : ChangeSpec := { name := "shaParts", fn := fun _ => fun
  | [d] => { results := [.lit (.bool false)], args := [d] }
  | _ => none }
def ShaPartsWrongFalsely : Prop := shaPartsRow.holds Tryd.pinned (OpenSpec.ofChange shaPartsWrong)

/-- 'rhynelaw01.ShaTwo': WHATEVER THE INPUT: true; the input reads as it did. -/
def shaTwoSpec : ChangeSpec := { name := "shaTwo", fn := fun _ => fun
  | [d1, d2, d3] => { results := [.lit (.bool true)], args := [d1, d2, d3] }
  | _ => none }
def shaTwoRow : OpenClaim := { program := "ytmifegjmmlipbaadoor", sum := "4a7139be90064d3711c82bf2e55f9bd4a15dd554eb6bcfc8c5e3820c66df9ae9", func := "rhyne/rhynelaw01.ShaTwo", spec := "shaTwo", recurses := true, named := ["rhyne/sha.first", "rhyne/sha.round"], apart := false, laid := [("rhyne/sha.first", laid_rhyne_sha_first), ("rhyne/sha.round", laid_rhyne_sha_round)] }
def ShaTwoSaid : Prop := shaTwoRow.holds Tryd.pinned (OpenSpec.ofChange shaTwoSpec)

/-- ITS FALSE NEIGHBOUR: 'it returns false'. Refute it at one input. -/
def shaTwoWrong : ChangeSpec := { name := "shaTwo", fn := fun _ => fun
  | [d1, d2, d3] => { results := [.lit (.bool false)], args := [d1, d2, d3] }
  | _ => none }
def ShaTwoWrongFalsely : Prop := shaTwoRow.holds Tryd.pinned (OpenSpec.ofChange shaTwoWrong)

/-- 'rhynelaw01.ShaMac': WHATEVER THE INPUT: true; the input reads as it did. -/
def shaMacSpec : ChangeSpec := { name := "shaMac", fn := fun _ => fun
  | [d1, d2] => { results := [.lit (.bool true)], args := [d1, d2] }
  | _ => none }
def shaMacRow : OpenClaim := { program := "ytmifegjmmlipbaadoor", sum := "4a7139be90064d3711c82bf2e55f9bd4a15dd554eb6bcfc8c5e3820c66df9ae9", func := "rhyne/rhynelaw01.ShaMac", spec := "shaMac", recurses := true, named := ["rhyne/sha.first", "rhyne/sha.round"], apart := false, laid := [("rhyne/sha.first", laid_rhyne_sha_first), ("rhyne/sha.round", laid_rhyne_sha_round)] }
def ShaMacSaid : Prop := shaMacRow.holds Tryd.pinned (OpenSpec.ofChange shaMacSpec)

/-- ITS FALSE NEIGHBOUR: 'it returns false'. Refute it at one input. -/
def shaMacWrong : ChangeSpec := { name := "shaMac", fn := fun _ => fun
  | [d1, d2] => { results := [.lit (.bool false)], args := [d1, d2] }
  | _ => none }
def ShaMacWrongFalsely : Prop := shaMacRow.holds Tryd.pinned (OpenSpec.ofChange shaMacWrong)

/-- 'rhynelaw01.ShaChain': WHATEVER THE INPUT: true; the input reads as it did. -/
def shaChainSpec : ChangeSpec := { name := "shaChain", fn := fun _ => fun
  | [d1, d2, d3] => { results := [.lit (.bool true)], args := [d1, d2, d3] }
  | _ => none }
def shaChainRow : OpenClaim := { program := "ytmifegjmmlipbaadoor", sum := "4a7139be90064d3711c82bf2e55f9bd4a15dd554eb6bcfc8c5e3820c66df9ae9", func := "rhyne/rhynelaw01.ShaChain", spec := "shaChain", recurses := true, named := ["rhyne/sha.first", "rhyne/sha.round"], apart := false, laid := [("rhyne/sha.first", laid_rhyne_sha_first), ("rhyne/sha.round", laid_rhyne_sha_round)] }
def ShaChainSaid : Prop := shaChainRow.holds Tryd.pinned (OpenSpec.ofChange shaChainSpec)

/-- ITS FALSE NEIGHBOUR: 'it returns false'. Refute it at one input. -/
def shaChainWrong : ChangeSpec := { name := "shaChain", fn := fun _ => fun
  | [d1, d2, d3] => { results := [.lit (.bool false)], args := [d1, d2, d3] }
  | _ => none }
def ShaChainWrongFalsely : Prop := shaChainRow.holds Tryd.pinned (OpenSpec.ofChange shaChainWrong)

/-- 'rhynelaw02.HkdfFewer': WHATEVER THE INPUT: true; the input reads as it did. -/
def hkdfFewerSpec : ChangeSpec := { name := "hkdfFewer", fn := fun _ => fun
  | [d] => { results := [.lit (.bool true)], args := [d] }
  | _ => none }
def hkdfFewerRow : OpenClaim := { program := "ytmifegjmmlipbaadoor", sum := "4a7139be90064d3711c82bf2e55f9bd4a15dd554eb6bcfc8c5e3820c66df9ae9", func := "rhyne/rhynelaw02.HkdfFewer", spec := "hkdfFewer", recurses := true, named := ["rhyne/sha.first", "rhyne/sha.round"], apart := false, laid := [("rhyne/sha.first", laid_rhyne_sha_first), ("rhyne/sha.round", laid_rhyne_sha_round)] }
def HkdfFewerSaid : Prop := hkdfFewerRow.holds Tryd.pinned (OpenSpec.ofChange hkdfFewerSpec)

/-- ITS FALSE NEIGHBOUR: 'it returns false'. Refute it at one input. -/
def hkdfFewerWrong : ChangeSpec := { name := "hkdfFewer", fn := fun _ => fun
  | [d] => { results := [.lit (.bool false)], args := [d] }
  | _ => none }
def HkdfFewerWrongFalsely : Prop := hkdfFewerRow.holds Tryd.pinned (OpenSpec.ofChange hkdfFewerWrong)

/-- 'rhynelaw02.HkdfBlocks': WHATEVER THE INPUT: true; the input reads as it did. -/
def hkdfBlocksSpec : ChangeSpec := { name := "hkdfBlocks", fn := fun _ => fun
  | [d1, d2, d3] => { results := [.lit (.bool true)], args := [d1, d2, d3] }
  | _ => none }
def hkdfBlocksRow : OpenClaim := { program := "ytmifegjmmlipbaadoor", sum := "4a7139be90064d3711c82bf2e55f9bd4a15dd554eb6bcfc8c5e3820c66df9ae9", func := "rhyne/rhynelaw02.HkdfBlocks", spec := "hkdfBlocks", recurses := true, named := ["rhyne/sha.first", "rhyne/sha.round"], apart := false, laid := [("rhyne/sha.first", laid_rhyne_sha_first), ("rhyne/sha.round", laid_rhyne_sha_round)] }
def HkdfBlocksSaid : Prop := hkdfBlocksRow.holds Tryd.pinned (OpenSpec.ofChange hkdfBlocksSpec)

/-- ITS FALSE NEIGHBOUR: 'it returns false'. Refute it at one input. -/
def hkdfBlocksWrong : ChangeSpec := { name := "hkdfBlocks", fn := fun _ => fun
  | [d1, d2, d3] => { results := [.lit (.bool false)], args := [d1, d2, d3] }
  | _ => none }
def HkdfBlocksWrongFalsely : Prop := hkdfBlocksRow.holds Tryd.pinned (OpenSpec.ofChange hkdfBlocksWrong)

/-- 'rhynelaw02.HkdfExpand': WHATEVER THE INPUT: true; the input reads as it did. -/
def hkdfExpandSpec : ChangeSpec := { name := "hkdfExpand", fn := fun _ => fun
  | [d1, d2, d3] => { results := [.lit (.bool true)], args := [d1, d2, d3] }
  | _ => none }
def hkdfExpandRow : OpenClaim := { program := "ytmifegjmmlipbaadoor", sum := "4a7139be90064d3711c82bf2e55f9bd4a15dd554eb6bcfc8c5e3820c66df9ae9", func := "rhyne/rhynelaw02.HkdfExpand", spec := "hkdfExpand", recurses := true, named := ["rhyne/sha.first", "rhyne/sha.round"], apart := false, laid := [("rhyne/sha.first", laid_rhyne_sha_first), ("rhyne/sha.round", laid_rhyne_sha_round)] }
def HkdfExpandSaid : Prop := hkdfExpandRow.holds Tryd.pinned (OpenSpec.ofChange hkdfExpandSpec)

/-- ITS FALSE NEIGHBOUR: 'it returns false'. Refute it at one input. -/
def hkdfExpandWrong : ChangeSpec := { name := "hkdfExpand", fn := fun _ => fun
  | [d1, d2, d3] => { results := [.lit (.bool false)], args := [d1, d2, d3] }
  | _ => none }
def HkdfExpandWrongFalsely : Prop := hkdfExpandRow.holds Tryd.pinned (OpenSpec.ofChange hkdfExpandWrong)

/-- 'rhynelaw02.HkdfLabel': WHATEVER THE INPUT: true; the input reads as it did. -/
def hkdfLabelSpec : ChangeSpec := { name := "hkdfLabel", fn := fun _ => fun
  | [d1, d2, d3] => { results := [.lit (.bool true)], args := [d1, d2, d3] }
  | _ => none }
def hkdfLabelRow : OpenClaim := { program := "ytmifegjmmlipbaadoor", sum := "4a7139be90064d3711c82bf2e55f9bd4a15dd554eb6bcfc8c5e3820c66df9ae9", func := "rhyne/rhynelaw02.HkdfLabel", spec := "hkdfLabel", recurses := true, named := ["rhyne/sha.first", "rhyne/sha.round"], apart := false, laid := [("rhyne/sha.first", laid_rhyne_sha_first), ("rhyne/sha.round", laid_rhyne_sha_round)] }
def HkdfLabelSaid : Prop := hkdfLabelRow.holds Tryd.pinned (OpenSpec.ofChange hkdfLabelSpec)

/-- ITS FALSE NEIGHBOUR: 'it returns false'. Refute it at one input. -/
def hkdfLabelWrong : ChangeSpec := { name := "hkdfLabel", fn := fun _ => fun
  | [d1, d2, d3] => { results := [.lit (.bool false)], args := [d1, d2, d3] }
  | _ => none }
def HkdfLabelWrongFalsely : Prop := hkdfLabelRow.holds Tryd.pinned (OpenSpec.ofChange hkdfLabelWrong)

/-- 'rhynelaw02.HkdfSchedule': WHATEVER THE INPUT: true; the input reads as it did. -/
def hkdfScheduleSpec : ChangeSpec := { name := "hkdfSchedule", fn := fun _ => fun
  | [d] => { results := [.lit (.bool true)], args := [d] }
  | _ => none }
def hkdfScheduleRow : OpenClaim := { program := "ytmifegjmmlipbaadoor", sum := "4a7139be90064d3711c82bf2e55f9bd4a15dd554eb6bcfc8c5e3820c66df9ae9", func := "rhyne/rhynelaw02.HkdfSchedule", spec := "hkdfSchedule", recurses := true, named := ["rhyne/sha.first", "rhyne/sha.round"], apart := false, laid := [("rhyne/sha.first", laid_rhyne_sha_first), ("rhyne/sha.round", laid_rhyne_sha_round)] }
def HkdfScheduleSaid : Prop := hkdfScheduleRow.holds Tryd.pinned (OpenSpec.ofChange hkdfScheduleSpec)

/-- ITS FALSE NEIGHBOUR: 'it returns false'. Refute it at one input. -/
def hkdfScheduleWrong : ChangeSpec := { name := "hkdfSchedule", fn := fun _ => fun
  | [d] => { results := [.lit (.bool false)], args := [d] }
  | _ => none }
def HkdfScheduleWrongFalsely : Prop := hkdfScheduleRow.holds Tryd.pinned (OpenSpec.ofChange hkdfScheduleWrong)

/-- 'rhynelaw10.GuardKeys': WHATEVER THE INPUT: true; the input reads as it did. -/
def guardKeysSpec : ChangeSpec := { name := "guardKeys", fn := fun _ => fun
  | [d1, d2] => { results := [.lit (.bool true)], args := [d1, d2] }
  | _ => none }
def guardKeysRow : OpenClaim := { program := "ytmifegjmmlipbaadoor", sum := "4a7139be90064d3711c82bf2e55f9bd4a15dd554eb6bcfc8c5e3820c66df9ae9", func := "rhyne/rhynelaw10.GuardKeys", spec := "guardKeys", recurses := true, named := ["rhyne/sha.first", "rhyne/sha.round"], apart := false, laid := [("rhyne/sha.first", laid_rhyne_sha_first), ("rhyne/sha.round", laid_rhyne_sha_round)] }
def GuardKeysSaid : Prop := guardKeysRow.holds Tryd.pinned (OpenSpec.ofChange guardKeysSpec)

/-- ITS FALSE NEIGHBOUR: 'it returns false'. Refute it at one input. -/
def guardKeysWrong : ChangeSpec := { name := "guardKeys", fn := fun _ => fun
  | [d1, d2] => { results := [.lit (.bool false)], args := [d1, d2] }
  | _ => none }
def GuardKeysWrongFalsely : Prop := guardKeysRow.holds Tryd.pinned (OpenSpec.ofChange guardKeysWrong)

/- THE SECOND FORM. 'bulk': how many values and letters a reading holds, each counted each time it is reached (what is shared counts as often as it is met; a slice's spare places count too). A statement '..UptoSaid' is the law's where the arguments, and the package variables that the reading takes, are together of bulk at most 1048576: NARROWER than '..Said'. Prove '..Said' where nothing that the law and all that it calls make is longer than what came in: it says more and counts as full. Else prove '..UptoSaid'. A law counts once. -/
mutual
def uptoBulk {H : Type} : DataW H → Nat
  | .lit (.string bytes) => bytes.length + 1
  | .lit _ => 1
  | .nil => 1
  | .ptr d => uptoBulk d + 1
  | .slice elems spare => uptoBulkAll elems + uptoBulkAll spare + 1
  | .agg parts => uptoBulkAll parts + 1
  | .iface _ d => uptoBulk d + 1
  | .map entries => uptoBulkEntries entries + 1
  | .held _ => 1
def uptoBulkAll {H : Type} : List (DataW H) → Nat
  | [] => 0
  | d :: r => uptoBulk d + uptoBulkAll r
def uptoBulkEntries {H : Type} : List (Lit × DataW H) → Nat
  | [] => 0
  | x :: r => uptoBulkEntry x + uptoBulkEntries r
def uptoBulkEntry {H : Type} : Lit × DataW H → Nat
  | (.string bytes, d) => bytes.length + uptoBulk d + 1
  | (_, d) => uptoBulk d + 1
 end
def uptoSmall : (H : Type) → List (DataW H) → Bool := fun _ ds => decide (uptoBulkAll ds ≤ 1048576)
def OpenSpec.upto (s : _root_.Go.ChangeSpec) : _root_.Go.OpenSpec := { _root_.Go.OpenSpec.ofChange s with cond := some uptoSmall }

/-- 'rhynelaw01.ShaSum', WHERE WHAT IT READS IS OF BULK AT MOST 1048576: true; the input reads as it did. -/
def shaSumUptoRow : OpenClaim := { program := "ytmifegjmmlipbaadoor", sum := "4a7139be90064d3711c82bf2e55f9bd4a15dd554eb6bcfc8c5e3820c66df9ae9", func := "rhyne/rhynelaw01.ShaSum", spec := "shaSum", recurses := true, named := ["rhyne/sha.first", "rhyne/sha.round"], apart := false, laid := [("rhyne/sha.first", laid_rhyne_sha_first), ("rhyne/sha.round", laid_rhyne_sha_round)], narrowed := true }
def ShaSumUptoSaid : Prop := shaSumUptoRow.holds Tryd.pinned (OpenSpec.upto shaSumSpec)

/-- 'rhynelaw01.ShaPads', WHERE WHAT IT READS IS OF BULK AT MOST 1048576: true; the input reads as it did. -/
def shaPadsUptoRow : OpenClaim := { program := "ytmifegjmmlipbaadoor", sum := "4a7139be90064d3711c82bf2e55f9bd4a15dd554eb6bcfc8c5e3820c66df9ae9", func := "rhyne/rhynelaw01.ShaPads", spec := "shaPads", recurses := true, named := ["rhyne/sha.first", "rhyne/sha.round"], apart := false, laid := [("rhyne/sha.first", laid_rhyne_sha_first), ("rhyne/sha.round", laid_rhyne_sha_round)], narrowed := true }
def ShaPadsUptoSaid : Prop := shaPadsUptoRow.holds Tryd.pinned (OpenSpec.upto shaPadsSpec)

/-- 'rhynelaw01.ShaParts', WHERE WHAT IT READS IS OF BULK AT MOST 1048576: true; the input reads as it did. -/
def shaPartsUptoRow : OpenClaim := { program := "ytmifegjmmlipbaadoor", sum := "4a7139be90064d3711c82bf2e55f9bd4a15dd554eb6bcfc8c5e3820c66df9ae9", func := "rhyne/rhynelaw01.ShaParts", spec := "shaParts", recurses := true, named := ["rhyne/sha.round", "rhyne/sha.first"], apart := false, laid := [("rhyne/sha.first", laid_rhyne_sha_first), ("rhyne/sha.round", laid_rhyne_sha_round)], narrowed := true }
def ShaPartsUptoSaid : Prop := shaPartsUptoRow.holds Tryd.pinned (OpenSpec.upto shaPartsSpec)

/-- 'rhynelaw01.ShaTwo', WHERE WHAT IT READS IS OF BULK AT MOST 1048576: true; the input reads as it did. -/
def shaTwoUptoRow : OpenClaim := { program := "ytmifegjmmlipbaadoor", sum := "4a7139be90064d3711c82bf2e55f9bd4a15dd554eb6bcfc8c5e3820c66df9ae9", func := "rhyne/rhynelaw01.ShaTwo", spec := "shaTwo", recurses := true, named := ["rhyne/sha.first", "rhyne/sha.round"], apart := false, laid := [("rhyne/sha.first", laid_rhyne_sha_first), ("rhyne/sha.round", laid_rhyne_sha_round)], narrowed := true }
def ShaTwoUptoSaid : Prop := shaTwoUptoRow.holds Tryd.pinned (OpenSpec.upto shaTwoSpec)

/-- 'rhynelaw01.ShaMac', WHERE WHAT IT READS IS OF BULK AT MOST 1048576: true; the input reads as it did. -/
def shaMacUptoRow : OpenClaim := { program := "ytmifegjmmlipbaadoor", sum := "4a7139be90064d3711c82bf2e55f9bd4a15dd554eb6bcfc8c5e3820c66df9ae9", func := "rhyne/rhynelaw01.ShaMac", spec := "shaMac", recurses := true, named := ["rhyne/sha.first", "rhyne/sha.round"], apart := false, laid := [("rhyne/sha.first", laid_rhyne_sha_first), ("rhyne/sha.round", laid_rhyne_sha_round)], narrowed := true }
def ShaMacUptoSaid : Prop := shaMacUptoRow.holds Tryd.pinned (OpenSpec.upto shaMacSpec)

/-- 'rhynelaw01.ShaChain', WHERE WHAT IT READS IS OF BULK AT MOST 1048576: true; the input reads as it did. -/
def shaChainUptoRow : OpenClaim := { program := "ytmifegjmmlipbaadoor", sum := "4a7139be90064d3711c82bf2e55f9bd4a15dd554eb6bcfc8c5e3820c66df9ae9", func := "rhyne/rhynelaw01.ShaChain", spec := "shaChain", recurses := true, named := ["rhyne/sha.first", "rhyne/sha.round"], apart := false, laid := [("rhyne/sha.first", laid_rhyne_sha_first), ("rhyne/sha.round", laid_rhyne_sha_round)], narrowed := true }
def ShaChainUptoSaid : Prop := shaChainUptoRow.holds Tryd.pinned (OpenSpec.upto shaChainSpec)

/-- 'rhynelaw02.HkdfFewer', WHERE WHAT IT READS IS OF BULK AT MOST 1048576: true; the input reads as it did. -/
def hkdfFewerUptoRow : OpenClaim := { program := "ytmifegjmmlipbaadoor", sum := "4a7139be90064d3711c82bf2e55f9bd4a15dd554eb6bcfc8c5e3820c66df9ae9", func := "rhyne/rhynelaw02.HkdfFewer", spec := "hkdfFewer", recurses := true, named := ["rhyne/sha.first", "rhyne/sha.round"], apart := false, laid := [("rhyne/sha.first", laid_rhyne_sha_first), ("rhyne/sha.round", laid_rhyne_sha_round)], narrowed := true }
def HkdfFewerUptoSaid : Prop := hkdfFewerUptoRow.holds Tryd.pinned (OpenSpec.upto hkdfFewerSpec)

/-- 'rhynelaw02.HkdfBlocks', WHERE WHAT IT READS IS OF BULK AT MOST 1048576: true; the input reads as it did. -/
def hkdfBlocksUptoRow : OpenClaim := { program := "ytmifegjmmlipbaadoor", sum := "4a7139be90064d3711c82bf2e55f9bd4a15dd554eb6bcfc8c5e3820c66df9ae9", func := "rhyne/rhynelaw02.HkdfBlocks", spec := "hkdfBlocks", recurses := true, named := ["rhyne/sha.first", "rhyne/sha.round"], apart := false, laid := [("rhyne/sha.first", laid_rhyne_sha_first), ("rhyne/sha.round", laid_rhyne_sha_round)], narrowed := true }
def HkdfBlocksUptoSaid : Prop := hkdfBlocksUptoRow.holds Tryd.pinned (OpenSpec.upto hkdfBlocksSpec)

/-- 'rhynelaw02.HkdfExpand', WHERE WHAT IT READS IS OF BULK AT MOST 1048576: true; the input reads as it did. -/
def hkdfExpandUptoRow : OpenClaim := { program := "ytmifegjmmlipbaadoor", sum := "4a7139be90064d3711c82bf2e55f9bd4a15dd554eb6bcfc8c5e3820c66df9ae9", func := "rhyne/rhynelaw02.HkdfExpand", spec := "hkdfExpand", recurses := true, named := ["rhyne/sha.first", "rhyne/sha.round"], apart := false, laid := [("rhyne/sha.first", laid_rhyne_sha_first), ("rhyne/sha.round", laid_rhyne_sha_round)], narrowed := true }
def HkdfExpandUptoSaid : Prop := hkdfExpandUptoRow.holds Tryd.pinned (OpenSpec.upto hkdfExpandSpec)

/-- 'rhynelaw02.HkdfLabel', WHERE WHAT IT READS IS OF BULK AT MOST 1048576: true; the input reads as it did. -/
def hkdfLabelUptoRow : OpenClaim := { program := "ytmifegjmmlipbaadoor", sum := "4a7139be90064d3711c82bf2e55f9bd4a15dd554eb6bcfc8c5e3820c66df9ae9", func := "rhyne/rhynelaw02.HkdfLabel", spec := "hkdfLabel", recurses := true, named := ["rhyne/sha.first", "rhyne/sha.round"], apart := false, laid := [("rhyne/sha.first", laid_rhyne_sha_first), ("rhyne/sha.round", laid_rhyne_sha_round)], narrowed := true }
def HkdfLabelUptoSaid : Prop := hkdfLabelUptoRow.holds Tryd.pinned (OpenSpec.upto hkdfLabelSpec)

/-- 'rhynelaw02.HkdfSchedule', WHERE WHAT IT READS IS OF BULK AT MOST 1048576: true; the input reads as it did. -/
def hkdfScheduleUptoRow : OpenClaim := { program := "ytmifegjmmlipbaadoor", sum := "4a7139be90064d3711c82bf2e55f9bd4a15dd554eb6bcfc8c5e3820c66df9ae9", func := "rhyne/rhynelaw02.HkdfSchedule", spec := "hkdfSchedule", recurses := true, named := ["rhyne/sha.first", "rhyne/sha.round"], apart := false, laid := [("rhyne/sha.first", laid_rhyne_sha_first), ("rhyne/sha.round", laid_rhyne_sha_round)], narrowed := true }
def HkdfScheduleUptoSaid : Prop := hkdfScheduleUptoRow.holds Tryd.pinned (OpenSpec.upto hkdfScheduleSpec)

/-- 'rhynelaw10.GuardKeys', WHERE WHAT IT READS IS OF BULK AT MOST 1048576: true; the input reads as it did. -/
def guardKeysUptoRow : OpenClaim := { program := "ytmifegjmmlipbaadoor", sum := "4a7139be90064d3711c82bf2e55f9bd4a15dd554eb6bcfc8c5e3820c66df9ae9", func := "rhyne/rhynelaw10.GuardKeys", spec := "guardKeys", recurses := true, named := ["rhyne/sha.first", "rhyne/sha.round"], apart := false, laid := [("rhyne/sha.first", laid_rhyne_sha_first), ("rhyne/sha.round", laid_rhyne_sha_round)], narrowed := true }
def GuardKeysUptoSaid : Prop := guardKeysUptoRow.holds Tryd.pinned (OpenSpec.upto guardKeysSpec)

end Rows
end Go.Proofs.YtmifegjmmlipbaaDoor
