/-
  No cell of these rows narrows 'for every input' (looked for: loops, veiled, ifaces, maps, wideKeys, modest, calm, conditions, laid).
  DERIVED. THE GIVEN ROWS OF THIS SEAT. 4 by the template 'for every input the law returns true; each argument reads behind the call as it read before'; 0 by the template 'total and deterministic' (their statements: YtjnekjjaofabeaaTotals.lean).
  GIVEN WITH THE SEED: the statements are not yours to turn. If you find one false, say at which input.
  Laid BY PROGRAM, IN A SANDBOX (cutbox-rows.mjs): the forced cells as the released guide's own fill.sh prints them over the translation f0d0b9da4faad1e9… (all of the seat's roots in one cut). By AI agents, Wed Nov 11 2026. No macro, syntax, notation, axiom, sorry.
-/
import Derived.Test.YtjnekjjaofabeaaChecked
import GoSem.Claim
import GoSem.ClaimJoined
import GoSem.ClaimMapViews
import Derived.JoinedTies
import Derived.KernelRfl
namespace Go.Proofs.Ytjnekjjaofabeaa
/- THE CELL 'sum', in the pinned program and in every row, IS THE sha256 OF THE DUMP (.gsa) THAT YtjnekjjaofabeaaProg.lean LOADS. Nothing in Lean hashes anything: it is a label: what it is worth is what the hold of that sum in a sandbox is worth. -/
noncomputable def Try.pinned : Pinned := { name := "ytjnekjjaofabeaa", sum := "f0d0b9da4faad1e9ffa6632796465556d465eb4cd14b64f8e7cc4e9df68e31ae", checked := Try.checked }
namespace Rows
def none {H : Type} : Left H := { results := [], args := [] }

/-- 'rhynelaw13.StreamOrders': WHATEVER THE INPUT: true; the input reads as it did. -/
def streamOrdersSpec : ChangeSpec := { name := "streamOrders", fn := fun _ => fun
  | [d1, d2] => { results := [.lit (.bool true)], args := [d1, d2] }
  | _ => none }
def streamOrdersRow : OpenClaim := { program := "ytjnekjjaofabeaa", sum := "f0d0b9da4faad1e9ffa6632796465556d465eb4cd14b64f8e7cc4e9df68e31ae", func := "rhyne/rhynelaw13.StreamOrders", spec := "streamOrders", inPlace := ["slices.overlaps[rhyne/ranges.span[int]]"], unfollowed := true, recurses := true, apart := false }
def StreamOrdersSaid : Prop := streamOrdersRow.holds Try.pinned (OpenSpec.ofChange streamOrdersSpec)

/-- ITS FALSE NEIGHBOUR: 'it returns false'. Refute it at one input. -/
def streamOrdersWrong : ChangeSpec := { name := "streamOrders", fn := fun _ => fun
  | [d1, d2] => { results := [.lit (.bool false)], args := [d1, d2] }
  | _ => none }
def StreamOrdersWrongFalsely : Prop := streamOrdersRow.holds Try.pinned (OpenSpec.ofChange streamOrdersWrong)

/-- 'rhynelaw13.StreamLimits': WHATEVER THE INPUT: true; the input reads as it did. -/
def streamLimitsSpec : ChangeSpec := { name := "streamLimits", fn := fun _ => fun
  | [d1, d2, d3] => { results := [.lit (.bool true)], args := [d1, d2, d3] }
  | _ => none }
def streamLimitsRow : OpenClaim := { program := "ytjnekjjaofabeaa", sum := "f0d0b9da4faad1e9ffa6632796465556d465eb4cd14b64f8e7cc4e9df68e31ae", func := "rhyne/rhynelaw13.StreamLimits", spec := "streamLimits", inPlace := ["slices.overlaps[rhyne/ranges.span[int]]"], unfollowed := true, recurses := true, apart := false }
def StreamLimitsSaid : Prop := streamLimitsRow.holds Try.pinned (OpenSpec.ofChange streamLimitsSpec)

/-- ITS FALSE NEIGHBOUR: 'it returns false'. Refute it at one input. -/
def streamLimitsWrong : ChangeSpec := { name := "streamLimits", fn := fun _ => fun
  | [d1, d2, d3] => { results := [.lit (.bool false)], args := [d1, d2, d3] }
  | _ => none }
def StreamLimitsWrongFalsely : Prop := streamLimitsRow.holds Try.pinned (OpenSpec.ofChange streamLimitsWrong)

/-- 'rhynelaw13.StreamSends': WHATEVER THE INPUT: true; the input reads as it did. -/
def streamSendsSpec : ChangeSpec := { name := "streamSends", fn := fun _ => fun
  | [d1, d2] => { results := [.lit (.bool true)], args := [d1, d2] }
  | _ => none }
def streamSendsRow : OpenClaim := { program := "ytjnekjjaofabeaa", sum := "f0d0b9da4faad1e9ffa6632796465556d465eb4cd14b64f8e7cc4e9df68e31ae", func := "rhyne/rhynelaw13.StreamSends", spec := "streamSends", inPlace := ["slices.overlaps[rhyne/ranges.span[int]]"], unfollowed := true, recurses := true, apart := false }
def StreamSendsSaid : Prop := streamSendsRow.holds Try.pinned (OpenSpec.ofChange streamSendsSpec)

/-- ITS FALSE NEIGHBOUR: 'it returns false'. Refute it at one input. -/
def streamSendsWrong : ChangeSpec := { name := "streamSends", fn := fun _ => fun
  | [d1, d2] => { results := [.lit (.bool false)], args := [d1, d2] }
  | _ => none }
def StreamSendsWrongFalsely : Prop := streamSendsRow.holds Try.pinned (OpenSpec.ofChange streamSendsWrong)

/-- 'rhynelaw13.StreamPipes': WHATEVER THE INPUT: true; the input reads as it did. -/
def streamPipesSpec : ChangeSpec := { name := "streamPipes", fn := fun _ => fun
  | [d1, d2, d3] => { results := [.lit (.bool true)], args := [d1, d2, d3] }
  | _ => none }
def streamPipesRow : OpenClaim := { program := "ytjnekjjaofabeaa", sum := "f0d0b9da4faad1e9ffa6632796465556d465eb4cd14b64f8e7cc4e9df68e31ae", func := "rhyne/rhynelaw13.StreamPipes", spec := "streamPipes", inPlace := ["slices.overlaps[rhyne/ranges.span[int]]"], unfollowed := true, recurses := true, apart := false }
def StreamPipesSaid : Prop := streamPipesRow.holds Try.pinned (OpenSpec.ofChange streamPipesSpec)

/-- ITS FALSE NEIGHBOUR: 'it returns false'. Refute it at one input. -/
def streamPipesWrong : ChangeSpec := { name := "streamPipes", fn := fun _ => fun
  | [d1, d2, d3] => { results := [.lit (.bool false)], args := [d1, d2, d3] }
  | _ => none }
def StreamPipesWrongFalsely : Prop := streamPipesRow.holds Try.pinned (OpenSpec.ofChange streamPipesWrong)

/- THE SECOND FORM. 'bulk': how many values and letters a reading holds, each counted each time it is reached (what is shared counts as often as it is met; a slice's spare places count too). A statement '..UptoSaid' is the law's where the arguments, and the package variables that the reading takes, are together of bulk at most 1048576: NARROWER than '..Said'. Prove '..Said' where nothing that the law and all that it calls make is longer than what came in: it says more and counts as full. Else prove '..UptoSaid'. A law counts once. -/
mutual
def uptoBulk {H : Type} : DataW H → Nat
  | .lit (.string bytes) => bytes.length + 1
  | .lit _ => 1
  | .nil => 1
  | .ptr d => uptoBulk d + 1
  | .slice elems spare => uptoBulkAll elems + uptoBulkAll spare + 1
  | .agg parts => uptoBulkAll parts + 1
  | .iface _ d => uptoBulk d + 1
  | .map entries => uptoBulkEntries entries + 1
  | .held _ => 1
def uptoBulkAll {H : Type} : List (DataW H) → Nat
  | [] => 0
  | d :: r => uptoBulk d + uptoBulkAll r
def uptoBulkEntries {H : Type} : List (Lit × DataW H) → Nat
  | [] => 0
  | x :: r => uptoBulkEntry x + uptoBulkEntries r
def uptoBulkEntry {H : Type} : Lit × DataW H → Nat
  | (.string bytes, d) => bytes.length + uptoBulk d + 1
  | (_, d) => uptoBulk d + 1
 end
def uptoSmall : (H : Type) → List (DataW H) → Bool := fun _ ds => decide (uptoBulkAll ds ≤ 1048576)
def OpenSpec.upto (s : _root_.Go.ChangeSpec) : _root_.Go.OpenSpec := { _root_.Go.OpenSpec.ofChange s with cond := some uptoSmall }

/-- 'rhynelaw13.StreamOrders', WHERE WHAT IT READS IS OF BULK AT MOST 1048576: true; the input reads as it did. -/
def streamOrdersUptoRow : OpenClaim := { program := "ytjnekjjaofabeaa", sum := "f0d0b9da4faad1e9ffa6632796465556d465eb4cd14b64f8e7cc4e9df68e31ae", func := "rhyne/rhynelaw13.StreamOrders", spec := "streamOrders", inPlace := ["slices.overlaps[rhyne/ranges.span[int]]"], unfollowed := true, recurses := true, apart := false, narrowed := true }
def StreamOrdersUptoSaid : Prop := streamOrdersUptoRow.holds Try.pinned (OpenSpec.upto streamOrdersSpec)

/-- 'rhynelaw13.StreamLimits', WHERE WHAT IT READS IS OF BULK AT MOST 1048576: true; the input reads as it did. -/
def streamLimitsUptoRow : OpenClaim := { program := "ytjnekjjaofabeaa", sum := "f0d0b9da4faad1e9ffa6632796465556d465eb4cd14b64f8e7cc4e9df68e31ae", func := "rhyne/rhynelaw13.StreamLimits", spec := "streamLimits", inPlace := ["slices.overlaps[rhyne/ranges.span[int]]"], unfollowed := true, recurses := true, apart := false, narrowed := true }
def StreamLimitsUptoSaid : Prop := streamLimitsUptoRow.holds Try.pinned (OpenSpec.upto streamLimitsSpec)

/-- 'rhynelaw13.StreamSends', WHERE WHAT IT READS IS OF BULK AT MOST 1048576: true; the input reads as it did. -/
def streamSendsUptoRow : OpenClaim := { program := "ytjnekjjaofabeaa", sum := "f0d0b9da4faad1e9ffa6632796465556d465eb4cd14b64f8e7cc4e9df68e31ae", func := "rhyne/rhynelaw13.StreamSends", spec := "streamSends", inPlace := ["slices.overlaps[rhyne/ranges.span[int]]"], unfollowed := true, recurses := true, apart := false, narrowed := true }
def StreamSendsUptoSaid : Prop := streamSendsUptoRow.holds Try.pinned (OpenSpec.upto streamSendsSpec)

/-- 'rhynelaw13.StreamPipes', WHERE WHAT IT READS IS OF BULK AT MOST 1048576: true; the input reads as it did. -/
def streamPipesUptoRow : OpenClaim := { program := "ytjnekjjaofabeaa", sum := "f0d0b9da4faad1e9ffa6632796465556d465eb4cd14b64f8e7cc4e9df68e31ae", func := "rhyne/rhynelaw13.StreamPipes", spec := "streamPipes", inPlace := ["slices.overlaps[rhyne/ranges.span[int]]"], unfollowed := true, recurses := true, apart := false, narrowed := true }
def StreamPipesUptoSaid : Prop := streamPipesUptoRow.holds Try.pinned (OpenSpec.upto streamPipesSpec)

end Rows
end Go.Proofs.Ytjnekjjaofabeaa
