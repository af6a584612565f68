/-
  DERIVED. GIVEN WITH THE SEED: THE CARDS: each row of YtmifegjmmlipbaaDoorRows.lean that lists a variable, with what it lists TIED to the program's text (the seventh form; the later family's looks); each row that meets fmt, with fmt's text TOLD by the authors' own Lean function (tested against real Go, not proved from fmt's source: count such statements apart). THE CARD IS WHAT COUNTS. Prove the row's statement (the work); the ties are given (YtmifegjmmlipbaaDoorTie.lean); close each card by the builder's one call (the guide's Derived/Test/ToyasCard.lean, 'card_holds'). Laid BY PROGRAM, IN A SANDBOX (cutbox-door.mjs). By AI agents, Wed Nov 11 2026. No macro, syntax, notation, axiom, sorry.
-/
import Derived.Test.YtmifegjmmlipbaaDoorRows
import GoSem.ClaimSeven
namespace Go.Proofs.YtmifegjmmlipbaaDoor
namespace Rows

/-- THE TIED CARD OF 'rhynelaw01.ShaSum'. -/
def shaSumCard : Claim7 := { stood := { row := shaSumRow, standIns := [], harness := (true, "37fdd4149c4c2646a4dea7ed8d03bf4217da07770098996d8b24c9ac498d95ec"), looks := false }, kinds := [], alts := [], laidByText := true, laidKinds := [.data, .data], laidTests := true, laidLooks := .later }
def ShaSumCardSaid : Prop := Claim7.holds Tryd.pinned (.plain (OpenSpec.ofChange shaSumSpec)) shaSumCard

/-- THE TIED CARD OF 'rhynelaw01.ShaPads'. -/
def shaPadsCard : Claim7 := { stood := { row := shaPadsRow, standIns := [], harness := (true, "37fdd4149c4c2646a4dea7ed8d03bf4217da07770098996d8b24c9ac498d95ec"), looks := false }, kinds := [], alts := [], laidByText := true, laidKinds := [.data, .data], laidTests := true, laidLooks := .later }
def ShaPadsCardSaid : Prop := Claim7.holds Tryd.pinned (.plain (OpenSpec.ofChange shaPadsSpec)) shaPadsCard

/-- THE TIED CARD OF 'rhynelaw01.ShaParts'. -/
def shaPartsCard : Claim7 := { stood := { row := shaPartsRow, standIns := [], harness := (true, "37fdd4149c4c2646a4dea7ed8d03bf4217da07770098996d8b24c9ac498d95ec"), looks := false }, kinds := [], alts := [], laidByText := true, laidKinds := [.data, .data], laidTests := true, laidLooks := .later }
def ShaPartsCardSaid : Prop := Claim7.holds Tryd.pinned (.plain (OpenSpec.ofChange shaPartsSpec)) shaPartsCard

/-- THE TIED CARD OF 'rhynelaw01.ShaTwo'. -/
def shaTwoCard : Claim7 := { stood := { row := shaTwoRow, standIns := [], harness := (true, "37fdd4149c4c2646a4dea7ed8d03bf4217da07770098996d8b24c9ac498d95ec"), looks := false }, kinds := [], alts := [], laidByText := true, laidKinds := [.data, .data], laidTests := true, laidLooks := .later }
def ShaTwoCardSaid : Prop := Claim7.holds Tryd.pinned (.plain (OpenSpec.ofChange shaTwoSpec)) shaTwoCard

/-- THE TIED CARD OF 'rhynelaw01.ShaMac'. -/
def shaMacCard : Claim7 := { stood := { row := shaMacRow, standIns := [], harness := (true, "37fdd4149c4c2646a4dea7ed8d03bf4217da07770098996d8b24c9ac498d95ec"), looks := false }, kinds := [], alts := [], laidByText := true, laidKinds := [.data, .data], laidTests := true, laidLooks := .later }
def ShaMacCardSaid : Prop := Claim7.holds Tryd.pinned (.plain (OpenSpec.ofChange shaMacSpec)) shaMacCard

/-- THE TIED CARD OF 'rhynelaw01.ShaChain'. -/
def shaChainCard : Claim7 := { stood := { row := shaChainRow, standIns := [], harness := (true, "37fdd4149c4c2646a4dea7ed8d03bf4217da07770098996d8b24c9ac498d95ec"), looks := false }, kinds := [], alts := [], laidByText := true, laidKinds := [.data, .data], laidTests := true, laidLooks := .later }
def ShaChainCardSaid : Prop := Claim7.holds Tryd.pinned (.plain (OpenSpec.ofChange shaChainSpec)) shaChainCard

/-- THE TIED CARD OF 'rhynelaw02.HkdfFewer'. -/
def hkdfFewerCard : Claim7 := { stood := { row := hkdfFewerRow, standIns := [], harness := (true, "37fdd4149c4c2646a4dea7ed8d03bf4217da07770098996d8b24c9ac498d95ec"), looks := false }, kinds := [], alts := [], laidByText := true, laidKinds := [.data, .data], laidTests := true, laidLooks := .later }
def HkdfFewerCardSaid : Prop := Claim7.holds Tryd.pinned (.plain (OpenSpec.ofChange hkdfFewerSpec)) hkdfFewerCard

/-- THE TIED CARD OF 'rhynelaw02.HkdfBlocks'. -/
def hkdfBlocksCard : Claim7 := { stood := { row := hkdfBlocksRow, standIns := [], harness := (true, "37fdd4149c4c2646a4dea7ed8d03bf4217da07770098996d8b24c9ac498d95ec"), looks := false }, kinds := [], alts := [], laidByText := true, laidKinds := [.data, .data], laidTests := true, laidLooks := .later }
def HkdfBlocksCardSaid : Prop := Claim7.holds Tryd.pinned (.plain (OpenSpec.ofChange hkdfBlocksSpec)) hkdfBlocksCard

/-- THE TIED CARD OF 'rhynelaw02.HkdfExpand'. -/
def hkdfExpandCard : Claim7 := { stood := { row := hkdfExpandRow, standIns := [], harness := (true, "37fdd4149c4c2646a4dea7ed8d03bf4217da07770098996d8b24c9ac498d95ec"), looks := false }, kinds := [], alts := [], laidByText := true, laidKinds := [.data, .data], laidTests := true, laidLooks := .later }
def HkdfExpandCardSaid : Prop := Claim7.holds Tryd.pinned (.plain (OpenSpec.ofChange hkdfExpandSpec)) hkdfExpandCard

/-- THE TIED CARD OF 'rhynelaw02.HkdfLabel'. -/
def hkdfLabelCard : Claim7 := { stood := { row := hkdfLabelRow, standIns := [], harness := (true, "37fdd4149c4c2646a4dea7ed8d03bf4217da07770098996d8b24c9ac498d95ec"), looks := false }, kinds := [], alts := [], laidByText := true, laidKinds := [.data, .data], laidTests := true, laidLooks := .later }
def HkdfLabelCardSaid : Prop := Claim7.holds Tryd.pinned (.plain (OpenSpec.ofChange hkdfLabelSpec)) hkdfLabelCard

/-- THE TIED CARD OF 'rhynelaw02.HkdfSchedule'. -/
def hkdfScheduleCard : Claim7 := { stood := { row := hkdfScheduleRow, standIns := [], harness := (true, "37fdd4149c4c2646a4dea7ed8d03bf4217da07770098996d8b24c9ac498d95ec"), looks := false }, kinds := [], alts := [], laidByText := true, laidKinds := [.data, .data], laidTests := true, laidLooks := .later }
def HkdfScheduleCardSaid : Prop := Claim7.holds Tryd.pinned (.plain (OpenSpec.ofChange hkdfScheduleSpec)) hkdfScheduleCard

/-- THE TIED CARD OF 'rhynelaw10.GuardKeys'. -/
def guardKeysCard : Claim7 := { stood := { row := guardKeysRow, standIns := [], harness := (true, "37fdd4149c4c2646a4dea7ed8d03bf4217da07770098996d8b24c9ac498d95ec"), looks := false }, kinds := [], alts := [], laidByText := true, laidKinds := [.data, .data], laidTests := true, laidLooks := .later }
def GuardKeysCardSaid : Prop := Claim7.holds Tryd.pinned (.plain (OpenSpec.ofChange guardKeysSpec)) guardKeysCard

/-- THE SECOND FORM's CARD OF 'rhynelaw01.ShaSum'. -/
def shaSumUptoCard : Claim7 := { stood := { row := shaSumUptoRow, standIns := [], harness := (true, "37fdd4149c4c2646a4dea7ed8d03bf4217da07770098996d8b24c9ac498d95ec"), looks := false }, kinds := [], alts := [], laidByText := true, laidKinds := [.data, .data], laidTests := true, laidLooks := .later }
def ShaSumUptoCardSaid : Prop := Claim7.holds Tryd.pinned (.plain (OpenSpec.upto shaSumSpec)) shaSumUptoCard

/-- THE SECOND FORM's CARD OF 'rhynelaw01.ShaPads'. -/
def shaPadsUptoCard : Claim7 := { stood := { row := shaPadsUptoRow, standIns := [], harness := (true, "37fdd4149c4c2646a4dea7ed8d03bf4217da07770098996d8b24c9ac498d95ec"), looks := false }, kinds := [], alts := [], laidByText := true, laidKinds := [.data, .data], laidTests := true, laidLooks := .later }
def ShaPadsUptoCardSaid : Prop := Claim7.holds Tryd.pinned (.plain (OpenSpec.upto shaPadsSpec)) shaPadsUptoCard

/-- THE SECOND FORM's CARD OF 'rhynelaw01.ShaParts'. -/
def shaPartsUptoCard : Claim7 := { stood := { row := shaPartsUptoRow, standIns := [], harness := (true, "37fdd4149c4c2646a4dea7ed8d03bf4217da07770098996d8b24c9ac498d95ec"), looks := false }, kinds := [], alts := [], laidByText := true, laidKinds := [.data, .data], laidTests := true, laidLooks := .later }
def ShaPartsUptoCardSaid : Prop := Claim7.holds Tryd.pinned (.plain (OpenSpec.upto shaPartsSpec)) shaPartsUptoCard

/-- THE SECOND FORM's CARD OF 'rhynelaw01.ShaTwo'. -/
def shaTwoUptoCard : Claim7 := { stood := { row := shaTwoUptoRow, standIns := [], harness := (true, "37fdd4149c4c2646a4dea7ed8d03bf4217da07770098996d8b24c9ac498d95ec"), looks := false }, kinds := [], alts := [], laidByText := true, laidKinds := [.data, .data], laidTests := true, laidLooks := .later }
def ShaTwoUptoCardSaid : Prop := Claim7.holds Tryd.pinned (.plain (OpenSpec.upto shaTwoSpec)) shaTwoUptoCard

/-- THE SECOND FORM's CARD OF 'rhynelaw01.ShaMac'. -/
def shaMacUptoCard : Claim7 := { stood := { row := shaMacUptoRow, standIns := [], harness := (true, "37fdd4149c4c2646a4dea7ed8d03bf4217da07770098996d8b24c9ac498d95ec"), looks := false }, kinds := [], alts := [], laidByText := true, laidKinds := [.data, .data], laidTests := true, laidLooks := .later }
def ShaMacUptoCardSaid : Prop := Claim7.holds Tryd.pinned (.plain (OpenSpec.upto shaMacSpec)) shaMacUptoCard

/-- THE SECOND FORM's CARD OF 'rhynelaw01.ShaChain'. -/
def shaChainUptoCard : Claim7 := { stood := { row := shaChainUptoRow, standIns := [], harness := (true, "37fdd4149c4c2646a4dea7ed8d03bf4217da07770098996d8b24c9ac498d95ec"), looks := false }, kinds := [], alts := [], laidByText := true, laidKinds := [.data, .data], laidTests := true, laidLooks := .later }
def ShaChainUptoCardSaid : Prop := Claim7.holds Tryd.pinned (.plain (OpenSpec.upto shaChainSpec)) shaChainUptoCard

/-- THE SECOND FORM's CARD OF 'rhynelaw02.HkdfFewer'. -/
def hkdfFewerUptoCard : Claim7 := { stood := { row := hkdfFewerUptoRow, standIns := [], harness := (true, "37fdd4149c4c2646a4dea7ed8d03bf4217da07770098996d8b24c9ac498d95ec"), looks := false }, kinds := [], alts := [], laidByText := true, laidKinds := [.data, .data], laidTests := true, laidLooks := .later }
def HkdfFewerUptoCardSaid : Prop := Claim7.holds Tryd.pinned (.plain (OpenSpec.upto hkdfFewerSpec)) hkdfFewerUptoCard

/-- THE SECOND FORM's CARD OF 'rhynelaw02.HkdfBlocks'. -/
def hkdfBlocksUptoCard : Claim7 := { stood := { row := hkdfBlocksUptoRow, standIns := [], harness := (true, "37fdd4149c4c2646a4dea7ed8d03bf4217da07770098996d8b24c9ac498d95ec"), looks := false }, kinds := [], alts := [], laidByText := true, laidKinds := [.data, .data], laidTests := true, laidLooks := .later }
def HkdfBlocksUptoCardSaid : Prop := Claim7.holds Tryd.pinned (.plain (OpenSpec.upto hkdfBlocksSpec)) hkdfBlocksUptoCard

/-- THE SECOND FORM's CARD OF 'rhynelaw02.HkdfExpand'. -/
def hkdfExpandUptoCard : Claim7 := { stood := { row := hkdfExpandUptoRow, standIns := [], harness := (true, "37fdd4149c4c2646a4dea7ed8d03bf4217da07770098996d8b24c9ac498d95ec"), looks := false }, kinds := [], alts := [], laidByText := true, laidKinds := [.data, .data], laidTests := true, laidLooks := .later }
def HkdfExpandUptoCardSaid : Prop := Claim7.holds Tryd.pinned (.plain (OpenSpec.upto hkdfExpandSpec)) hkdfExpandUptoCard

/-- THE SECOND FORM's CARD OF 'rhynelaw02.HkdfLabel'. -/
def hkdfLabelUptoCard : Claim7 := { stood := { row := hkdfLabelUptoRow, standIns := [], harness := (true, "37fdd4149c4c2646a4dea7ed8d03bf4217da07770098996d8b24c9ac498d95ec"), looks := false }, kinds := [], alts := [], laidByText := true, laidKinds := [.data, .data], laidTests := true, laidLooks := .later }
def HkdfLabelUptoCardSaid : Prop := Claim7.holds Tryd.pinned (.plain (OpenSpec.upto hkdfLabelSpec)) hkdfLabelUptoCard

/-- THE SECOND FORM's CARD OF 'rhynelaw02.HkdfSchedule'. -/
def hkdfScheduleUptoCard : Claim7 := { stood := { row := hkdfScheduleUptoRow, standIns := [], harness := (true, "37fdd4149c4c2646a4dea7ed8d03bf4217da07770098996d8b24c9ac498d95ec"), looks := false }, kinds := [], alts := [], laidByText := true, laidKinds := [.data, .data], laidTests := true, laidLooks := .later }
def HkdfScheduleUptoCardSaid : Prop := Claim7.holds Tryd.pinned (.plain (OpenSpec.upto hkdfScheduleSpec)) hkdfScheduleUptoCard

/-- THE SECOND FORM's CARD OF 'rhynelaw10.GuardKeys'. -/
def guardKeysUptoCard : Claim7 := { stood := { row := guardKeysUptoRow, standIns := [], harness := (true, "37fdd4149c4c2646a4dea7ed8d03bf4217da07770098996d8b24c9ac498d95ec"), looks := false }, kinds := [], alts := [], laidByText := true, laidKinds := [.data, .data], laidTests := true, laidLooks := .later }
def GuardKeysUptoCardSaid : Prop := Claim7.holds Tryd.pinned (.plain (OpenSpec.upto guardKeysSpec)) guardKeysUptoCard
end Rows
end Go.Proofs.YtmifegjmmlipbaaDoor
