/-
  No cell of these rows narrows 'for every input' (looked for: loops, veiled, ifaces, maps, wideKeys, modest, calm, conditions, laid).
  DERIVED. THE GIVEN ROWS OF THIS SEAT. 5 by the template 'for every input the law returns true; each argument reads behind the call as it read before'; 0 by the template 'total and deterministic' (their statements: YtpaodflocbfghaaTotals.lean).
  GIVEN WITH THE SEED: the statements are not yours to turn. If you find one false, say at which input.
  Laid BY PROGRAM, IN A SANDBOX (cutbox-rows.mjs): the forced cells as the released guide's own fill.sh prints them over the translation 29e708a56519f335… (all of the seat's roots in one cut). By AI agents, Wed Nov 11 2026. No macro, syntax, notation, axiom, sorry.
-/
import Derived.Test.YtpaodflocbfghaaChecked
import GoSem.Claim
import GoSem.ClaimJoined
import GoSem.ClaimMapViews
import Derived.JoinedTies
import Derived.KernelRfl
namespace Go.Proofs.Ytpaodflocbfghaa
/- THE CELL 'sum', in the pinned program and in every row, IS THE sha256 OF THE DUMP (.gsa) THAT YtpaodflocbfghaaProg.lean LOADS. Nothing in Lean hashes anything: it is a label: what it is worth is what the hold of that sum in a sandbox is worth. -/
noncomputable def Try.pinned : Pinned := { name := "ytpaodflocbfghaa", sum := "29e708a56519f335757936201b04e690006e0cab3122ae24e710ac227c67511c", checked := Try.checked }
namespace Rows
def none {H : Type} : Left H := { results := [], args := [] }

/-- 'rhynelaw14.FlowDoors': WHATEVER THE INPUT: true; the input reads as it did. -/
def flowDoorsSpec : ChangeSpec := { name := "flowDoors", fn := fun _ => fun
  | [d1, d2, d3] => { results := [.lit (.bool true)], args := [d1, d2, d3] }
  | _ => none }
def flowDoorsRow : OpenClaim := { program := "ytpaodflocbfghaa", sum := "29e708a56519f335757936201b04e690006e0cab3122ae24e710ac227c67511c", func := "rhyne/rhynelaw14.FlowDoors", spec := "flowDoors", apart := false }
def FlowDoorsSaid : Prop := flowDoorsRow.holds Try.pinned (OpenSpec.ofChange flowDoorsSpec)

/-- ITS FALSE NEIGHBOUR: 'it returns false'. Refute it at one input. -/
def flowDoorsWrong : ChangeSpec := { name := "flowDoors", fn := fun _ => fun
  | [d1, d2, d3] => { results := [.lit (.bool false)], args := [d1, d2, d3] }
  | _ => none }
def FlowDoorsWrongFalsely : Prop := flowDoorsRow.holds Try.pinned (OpenSpec.ofChange flowDoorsWrong)

/-- 'rhynelaw14.FlowOpens': WHATEVER THE INPUT: true; the input reads as it did. -/
def flowOpensSpec : ChangeSpec := { name := "flowOpens", fn := fun _ => fun
  | [d1, d2] => { results := [.lit (.bool true)], args := [d1, d2] }
  | _ => none }
def flowOpensRow : OpenClaim := { program := "ytpaodflocbfghaa", sum := "29e708a56519f335757936201b04e690006e0cab3122ae24e710ac227c67511c", func := "rhyne/rhynelaw14.FlowOpens", spec := "flowOpens", apart := false }
def FlowOpensSaid : Prop := flowOpensRow.holds Try.pinned (OpenSpec.ofChange flowOpensSpec)

/-- ITS FALSE NEIGHBOUR: 'it returns false'. Refute it at one input. -/
def flowOpensWrong : ChangeSpec := { name := "flowOpens", fn := fun _ => fun
  | [d1, d2] => { results := [.lit (.bool false)], args := [d1, d2] }
  | _ => none }
def FlowOpensWrongFalsely : Prop := flowOpensRow.holds Try.pinned (OpenSpec.ofChange flowOpensWrong)

/-- 'rhynelaw14.FlowBounds': WHATEVER THE INPUT: true; the input reads as it did. -/
def flowBoundsSpec : ChangeSpec := { name := "flowBounds", fn := fun _ => fun
  | [d1, d2, d3] => { results := [.lit (.bool true)], args := [d1, d2, d3] }
  | _ => none }
def flowBoundsRow : OpenClaim := { program := "ytpaodflocbfghaa", sum := "29e708a56519f335757936201b04e690006e0cab3122ae24e710ac227c67511c", func := "rhyne/rhynelaw14.FlowBounds", spec := "flowBounds", apart := false }
def FlowBoundsSaid : Prop := flowBoundsRow.holds Try.pinned (OpenSpec.ofChange flowBoundsSpec)

/-- ITS FALSE NEIGHBOUR: 'it returns false'. Refute it at one input. -/
def flowBoundsWrong : ChangeSpec := { name := "flowBounds", fn := fun _ => fun
  | [d1, d2, d3] => { results := [.lit (.bool false)], args := [d1, d2, d3] }
  | _ => none }
def FlowBoundsWrongFalsely : Prop := flowBoundsRow.holds Try.pinned (OpenSpec.ofChange flowBoundsWrong)

/-- 'rhynelaw14.FlowPurses': WHATEVER THE INPUT: true; the input reads as it did. -/
def flowPursesSpec : ChangeSpec := { name := "flowPurses", fn := fun _ => fun
  | [d1, d2] => { results := [.lit (.bool true)], args := [d1, d2] }
  | _ => none }
def flowPursesRow : OpenClaim := { program := "ytpaodflocbfghaa", sum := "29e708a56519f335757936201b04e690006e0cab3122ae24e710ac227c67511c", func := "rhyne/rhynelaw14.FlowPurses", spec := "flowPurses", apart := false }
def FlowPursesSaid : Prop := flowPursesRow.holds Try.pinned (OpenSpec.ofChange flowPursesSpec)

/-- ITS FALSE NEIGHBOUR: 'it returns false'. Refute it at one input. -/
def flowPursesWrong : ChangeSpec := { name := "flowPurses", fn := fun _ => fun
  | [d1, d2] => { results := [.lit (.bool false)], args := [d1, d2] }
  | _ => none }
def FlowPursesWrongFalsely : Prop := flowPursesRow.holds Try.pinned (OpenSpec.ofChange flowPursesWrong)

/-- 'rhynelaw14.FlowTwo': WHATEVER THE INPUT: true; the input reads as it did. -/
def flowTwoSpec : ChangeSpec := { name := "flowTwo", fn := fun _ => fun
  | [d1, d2] => { results := [.lit (.bool true)], args := [d1, d2] }
  | _ => none }
def flowTwoRow : OpenClaim := { program := "ytpaodflocbfghaa", sum := "29e708a56519f335757936201b04e690006e0cab3122ae24e710ac227c67511c", func := "rhyne/rhynelaw14.FlowTwo", spec := "flowTwo", apart := false }
def FlowTwoSaid : Prop := flowTwoRow.holds Try.pinned (OpenSpec.ofChange flowTwoSpec)

/-- ITS FALSE NEIGHBOUR: 'it returns false'. Refute it at one input. -/
def flowTwoWrong : ChangeSpec := { name := "flowTwo", fn := fun _ => fun
  | [d1, d2] => { results := [.lit (.bool false)], args := [d1, d2] }
  | _ => none }
def FlowTwoWrongFalsely : Prop := flowTwoRow.holds Try.pinned (OpenSpec.ofChange flowTwoWrong)

/- THE SECOND FORM. 'bulk': how many values and letters a reading holds, each counted each time it is reached (what is shared counts as often as it is met; a slice's spare places count too). A statement '..UptoSaid' is the law's where the arguments, and the package variables that the reading takes, are together of bulk at most 1048576: NARROWER than '..Said'. Prove '..Said' where nothing that the law and all that it calls make is longer than what came in: it says more and counts as full. Else prove '..UptoSaid'. A law counts once. -/
mutual
def uptoBulk {H : Type} : DataW H → Nat
  | .lit (.string bytes) => bytes.length + 1
  | .lit _ => 1
  | .nil => 1
  | .ptr d => uptoBulk d + 1
  | .slice elems spare => uptoBulkAll elems + uptoBulkAll spare + 1
  | .agg parts => uptoBulkAll parts + 1
  | .iface _ d => uptoBulk d + 1
  | .map entries => uptoBulkEntries entries + 1
  | .held _ => 1
def uptoBulkAll {H : Type} : List (DataW H) → Nat
  | [] => 0
  | d :: r => uptoBulk d + uptoBulkAll r
def uptoBulkEntries {H : Type} : List (Lit × DataW H) → Nat
  | [] => 0
  | x :: r => uptoBulkEntry x + uptoBulkEntries r
def uptoBulkEntry {H : Type} : Lit × DataW H → Nat
  | (.string bytes, d) => bytes.length + uptoBulk d + 1
  | (_, d) => uptoBulk d + 1
 end
def uptoSmall : (H : Type) → List (DataW H) → Bool := fun _ ds => decide (uptoBulkAll ds ≤ 1048576)
def OpenSpec.upto (s : _root_.Go.ChangeSpec) : _root_.Go.OpenSpec := { _root_.Go.OpenSpec.ofChange s with cond := some uptoSmall }

/-- 'rhynelaw14.FlowDoors', WHERE WHAT IT READS IS OF BULK AT MOST 1048576: true; the input reads as it did. -/
def flowDoorsUptoRow : OpenClaim := { program := "ytpaodflocbfghaa", sum := "29e708a56519f335757936201b04e690006e0cab3122ae24e710ac227c67511c", func := "rhyne/rhynelaw14.FlowDoors", spec := "flowDoors", apart := false, narrowed := true }
def FlowDoorsUptoSaid : Prop := flowDoorsUptoRow.holds Try.pinned (OpenSpec.upto flowDoorsSpec)

/-- 'rhynelaw14.FlowOpens', WHERE WHAT IT READS IS OF BULK AT MOST 1048576: true; the input reads as it did. -/
def flowOpensUptoRow : OpenClaim := { program := "ytpaodflocbfghaa", sum := "29e708a56519f335757936201b04e690006e0cab3122ae24e710ac227c67511c", func := "rhyne/rhynelaw14.FlowOpens", spec := "flowOpens", apart := false, narrowed := true }
def FlowOpensUptoSaid : Prop := flowOpensUptoRow.holds Try.pinned (OpenSpec.upto flowOpensSpec)

/-- 'rhynelaw14.FlowBounds', WHERE WHAT IT READS IS OF BULK AT MOST 1048576: true; the input reads as it did. -/
def flowBoundsUptoRow : OpenClaim := { program := "ytpaodflocbfghaa", sum := "29e708a56519f335757936201b04e690006e0cab3122ae24e710ac227c67511c", func := "rhyne/rhynelaw14.FlowBounds", spec := "flowBounds", apart := false, narrowed := true }
def FlowBoundsUptoSaid : Prop := flowBoundsUptoRow.holds Try.pinned (OpenSpec.upto flowBoundsSpec)

/-- 'rhynelaw14.FlowPurses', WHERE WHAT IT READS IS OF BULK AT MOST 1048576: true; the input reads as it did. -/
def flowPursesUptoRow : OpenClaim := { program := "ytpaodflocbfghaa", sum := "29e708a56519f335757936201b04e690006e0cab3122ae24e710ac227c67511c", func := "rhyne/rhynelaw14.FlowPurses", spec := "flowPurses", apart := false, narrowed := true }
def FlowPursesUptoSaid : Prop := flowPursesUptoRow.holds Try.pinned (OpenSpec.upto flowPursesSpec)

/-- 'rhynelaw14.FlowTwo', WHERE WHAT IT READS IS OF BULK AT MOST 1048576: true; the input reads as it did. -/
def flowTwoUptoRow : OpenClaim := { program := "ytpaodflocbfghaa", sum := "29e708a56519f335757936201b04e690006e0cab3122ae24e710ac227c67511c", func := "rhyne/rhynelaw14.FlowTwo", spec := "flowTwo", apart := false, narrowed := true }
def FlowTwoUptoSaid : Prop := flowTwoUptoRow.holds Try.pinned (OpenSpec.upto flowTwoSpec)

end Rows
end Go.Proofs.Ytpaodflocbfghaa
