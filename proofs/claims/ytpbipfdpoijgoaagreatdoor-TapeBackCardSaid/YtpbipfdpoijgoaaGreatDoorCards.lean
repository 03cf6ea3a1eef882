/-
  DERIVED. GIVEN WITH THE SEED: THE CARDS: each row of YtpbipfdpoijgoaaGreatDoorRows.lean that lists a variable, with what it lists TIED to the program's text (the seventh form; the later family's looks); each row that meets fmt, with fmt's text TOLD by the authors' own Lean function (tested against real Go, not proved from fmt's source: count such statements apart). THE CARD IS WHAT COUNTS. Prove the row's statement (the work); the ties are given (YtpbipfdpoijgoaaGreatDoorTie.lean); close each card by the builder's one call (the guide's Derived/Test/ToyasCard.lean, 'card_holds'). Laid BY PROGRAM, IN A SANDBOX (cutbox-door.mjs). By AI agents, Wed Nov 11 2026. No macro, syntax, notation, axiom, sorry.
-/
import Derived.Test.YtpbipfdpoijgoaaGreatDoorRows
import GoSem.ClaimSeven
namespace Go.Proofs.YtpbipfdpoijgoaaGreatDoor
namespace Rows

/-- THE TIED CARD OF 'genlocklaw08.TapeReels'. -/
def tapeReelsCard : Claim7 := { stood := { row := tapeReelsRow, standIns := [], harness := (true, "0ee9afb5981c89ebef30179dc77233049063c8c2a16c7a2f5faf8cbd088dca18"), looks := true }, kinds := [], alts := [], laidByText := true, laidKinds := [.data, .data, .data, .widerDeep, .data, .widerDeep], laidTests := true, laidLooks := .later }
def TapeReelsCardSaid : Prop := Claim7.holds Tryz.pinned (.plain (OpenSpec.ofChange tapeReelsSpec)) tapeReelsCard

/-- THE TIED CARD OF 'genlocklaw08.TapeReads'. -/
def tapeReadsCard : Claim7 := { stood := { row := tapeReadsRow, standIns := [], harness := (true, "0ee9afb5981c89ebef30179dc77233049063c8c2a16c7a2f5faf8cbd088dca18"), looks := true }, kinds := [], alts := [], laidByText := true, laidKinds := [.data, .data, .data, .widerDeep, .data, .widerDeep], laidTests := true, laidLooks := .later }
def TapeReadsCardSaid : Prop := Claim7.holds Tryz.pinned (.plain (OpenSpec.ofChange tapeReadsSpec)) tapeReadsCard

/-- THE TIED CARD OF 'genlocklaw08.TapeLists'. -/
def tapeListsCard : Claim7 := { stood := { row := tapeListsRow, standIns := [], harness := (true, "0ee9afb5981c89ebef30179dc77233049063c8c2a16c7a2f5faf8cbd088dca18"), looks := true }, kinds := [], alts := [], laidByText := true, laidKinds := [.data, .data, .data, .widerDeep, .data, .widerDeep], laidTests := true, laidLooks := .later }
def TapeListsCardSaid : Prop := Claim7.holds Tryz.pinned (.plain (OpenSpec.ofChange tapeListsSpec)) tapeListsCard

/-- THE TIED CARD OF 'genlocklaw08.TapeTrims'. -/
def tapeTrimsCard : Claim7 := { stood := { row := tapeTrimsRow, standIns := [], harness := (true, "0ee9afb5981c89ebef30179dc77233049063c8c2a16c7a2f5faf8cbd088dca18"), looks := true }, kinds := [], alts := [], laidByText := true, laidKinds := [.data, .data, .data, .widerDeep, .data, .widerDeep], laidTests := true, laidLooks := .later }
def TapeTrimsCardSaid : Prop := Claim7.holds Tryz.pinned (.plain (OpenSpec.ofChange tapeTrimsSpec)) tapeTrimsCard

/-- THE TIED CARD OF 'genlocklaw08.TapeRates'. -/
def tapeRatesCard : Claim7 := { stood := { row := tapeRatesRow, standIns := [], harness := (true, "0ee9afb5981c89ebef30179dc77233049063c8c2a16c7a2f5faf8cbd088dca18"), looks := true }, kinds := [], alts := [], laidByText := true, laidKinds := [.data, .data, .data, .widerDeep, .data, .widerDeep], laidTests := true, laidLooks := .later }
def TapeRatesCardSaid : Prop := Claim7.holds Tryz.pinned (.plain (OpenSpec.ofChange tapeRatesSpec)) tapeRatesCard

/-- THE TIED CARD OF 'genlocklaw08.TapeTorn'. -/
def tapeTornCard : Claim7 := { stood := { row := tapeTornRow, standIns := [], harness := (true, "0ee9afb5981c89ebef30179dc77233049063c8c2a16c7a2f5faf8cbd088dca18"), looks := true }, kinds := [], alts := [], laidByText := true, laidKinds := [.data, .data, .data, .widerDeep, .data, .widerDeep], laidTests := true, laidLooks := .later }
def TapeTornCardSaid : Prop := Claim7.holds Tryz.pinned (.plain (OpenSpec.ofChange tapeTornSpec)) tapeTornCard

/-- THE TIED CARD OF 'genlocklaw08.TapeTraces'. -/
def tapeTracesCard : Claim7 := { stood := { row := tapeTracesRow, standIns := [], harness := (true, "0ee9afb5981c89ebef30179dc77233049063c8c2a16c7a2f5faf8cbd088dca18"), looks := true }, kinds := [], alts := [], laidByText := true, laidKinds := [.data, .data, .data, .widerDeep, .data, .widerDeep], laidTests := true, laidLooks := .later }
def TapeTracesCardSaid : Prop := Claim7.holds Tryz.pinned (.plain (OpenSpec.ofChange tapeTracesSpec)) tapeTracesCard

/-- THE TIED CARD OF 'genlocklaw08.TapeFrames'. -/
def tapeFramesCard : Claim7 := { stood := { row := tapeFramesRow, standIns := [], harness := (true, "0ee9afb5981c89ebef30179dc77233049063c8c2a16c7a2f5faf8cbd088dca18"), looks := true }, kinds := [], alts := [], laidByText := true, laidKinds := [.data, .data, .data, .widerDeep, .data, .widerDeep], laidTests := true, laidLooks := .later }
def TapeFramesCardSaid : Prop := Claim7.holds Tryz.pinned (.plain (OpenSpec.ofChange tapeFramesSpec)) tapeFramesCard

/-- THE TIED CARD OF 'genlocklaw08.TapeTurns'. -/
def tapeTurnsCard : Claim7 := { stood := { row := tapeTurnsRow, standIns := [], harness := (true, "0ee9afb5981c89ebef30179dc77233049063c8c2a16c7a2f5faf8cbd088dca18"), looks := true }, kinds := [], alts := [], laidByText := true, laidKinds := [.data, .data, .data, .widerDeep, .data, .widerDeep], laidTests := true, laidLooks := .later }
def TapeTurnsCardSaid : Prop := Claim7.holds Tryz.pinned (.plain (OpenSpec.ofChange tapeTurnsSpec)) tapeTurnsCard

/-- THE TIED CARD OF 'genlocklaw08.TapeParts'. -/
def tapePartsCard : Claim7 := { stood := { row := tapePartsRow, standIns := [], harness := (true, "0ee9afb5981c89ebef30179dc77233049063c8c2a16c7a2f5faf8cbd088dca18"), looks := true }, kinds := [], alts := [], laidByText := true, laidKinds := [.data, .data, .data, .widerDeep, .data, .widerDeep], laidTests := true, laidLooks := .later }
def TapePartsCardSaid : Prop := Claim7.holds Tryz.pinned (.plain (OpenSpec.ofChange tapePartsSpec)) tapePartsCard

/-- THE TIED CARD OF 'genlocklaw08.TapeJoins'. -/
def tapeJoinsCard : Claim7 := { stood := { row := tapeJoinsRow, standIns := [], harness := (true, "0ee9afb5981c89ebef30179dc77233049063c8c2a16c7a2f5faf8cbd088dca18"), looks := true }, kinds := [], alts := [], laidByText := true, laidKinds := [.data, .data, .data, .widerDeep, .data, .widerDeep], laidTests := true, laidLooks := .later }
def TapeJoinsCardSaid : Prop := Claim7.holds Tryz.pinned (.plain (OpenSpec.ofChange tapeJoinsSpec)) tapeJoinsCard

/-- THE TIED CARD OF 'genlocklaw08.TapeTexts'. -/
def tapeTextsCard : Claim7 := { stood := { row := tapeTextsRow, standIns := [], harness := (true, "0ee9afb5981c89ebef30179dc77233049063c8c2a16c7a2f5faf8cbd088dca18"), looks := true }, kinds := [], alts := [], laidByText := true, laidKinds := [.data, .data, .data, .data, .sentinel, .sentinel, .widerDeep, .data, .widerDeep, .pinned], laidTests := true, laidLooks := .later }
def TapeTextsCardSaid : Prop := Claim7.holds Tryz.pinned (.plain (OpenSpec.ofChange tapeTextsSpec)) tapeTextsCard

/-- THE TIED CARD OF 'genlocklaw08.TapeBack'. -/
def tapeBackCard : Claim7 := { stood := { row := tapeBackRow, standIns := [], harness := (true, "0ee9afb5981c89ebef30179dc77233049063c8c2a16c7a2f5faf8cbd088dca18"), looks := true }, kinds := [], alts := [], laidByText := true, laidKinds := [.data, .data, .data, .data, .sentinel, .sentinel, .widerDeep, .data, .widerDeep, .pinned], laidTests := true, laidLooks := .later }
def TapeBackCardSaid : Prop := Claim7.holds Tryz.pinned (.plain (OpenSpec.ofChange tapeBackSpec)) tapeBackCard

/-- THE SECOND FORM's CARD OF 'genlocklaw08.TapeReels'. -/
def tapeReelsUptoCard : Claim7 := { stood := { row := tapeReelsUptoRow, standIns := [], harness := (true, "0ee9afb5981c89ebef30179dc77233049063c8c2a16c7a2f5faf8cbd088dca18"), looks := true }, kinds := [], alts := [], laidByText := true, laidKinds := [.data, .data, .data, .widerDeep, .data, .widerDeep], laidTests := true, laidLooks := .later }
def TapeReelsUptoCardSaid : Prop := Claim7.holds Tryz.pinned (.plain (OpenSpec.upto tapeReelsSpec)) tapeReelsUptoCard

/-- THE SECOND FORM's CARD OF 'genlocklaw08.TapeReads'. -/
def tapeReadsUptoCard : Claim7 := { stood := { row := tapeReadsUptoRow, standIns := [], harness := (true, "0ee9afb5981c89ebef30179dc77233049063c8c2a16c7a2f5faf8cbd088dca18"), looks := true }, kinds := [], alts := [], laidByText := true, laidKinds := [.data, .data, .data, .widerDeep, .data, .widerDeep], laidTests := true, laidLooks := .later }
def TapeReadsUptoCardSaid : Prop := Claim7.holds Tryz.pinned (.plain (OpenSpec.upto tapeReadsSpec)) tapeReadsUptoCard

/-- THE SECOND FORM's CARD OF 'genlocklaw08.TapeLists'. -/
def tapeListsUptoCard : Claim7 := { stood := { row := tapeListsUptoRow, standIns := [], harness := (true, "0ee9afb5981c89ebef30179dc77233049063c8c2a16c7a2f5faf8cbd088dca18"), looks := true }, kinds := [], alts := [], laidByText := true, laidKinds := [.data, .data, .data, .widerDeep, .data, .widerDeep], laidTests := true, laidLooks := .later }
def TapeListsUptoCardSaid : Prop := Claim7.holds Tryz.pinned (.plain (OpenSpec.upto tapeListsSpec)) tapeListsUptoCard

/-- THE SECOND FORM's CARD OF 'genlocklaw08.TapeTrims'. -/
def tapeTrimsUptoCard : Claim7 := { stood := { row := tapeTrimsUptoRow, standIns := [], harness := (true, "0ee9afb5981c89ebef30179dc77233049063c8c2a16c7a2f5faf8cbd088dca18"), looks := true }, kinds := [], alts := [], laidByText := true, laidKinds := [.data, .data, .data, .widerDeep, .data, .widerDeep], laidTests := true, laidLooks := .later }
def TapeTrimsUptoCardSaid : Prop := Claim7.holds Tryz.pinned (.plain (OpenSpec.upto tapeTrimsSpec)) tapeTrimsUptoCard

/-- THE SECOND FORM's CARD OF 'genlocklaw08.TapeRates'. -/
def tapeRatesUptoCard : Claim7 := { stood := { row := tapeRatesUptoRow, standIns := [], harness := (true, "0ee9afb5981c89ebef30179dc77233049063c8c2a16c7a2f5faf8cbd088dca18"), looks := true }, kinds := [], alts := [], laidByText := true, laidKinds := [.data, .data, .data, .widerDeep, .data, .widerDeep], laidTests := true, laidLooks := .later }
def TapeRatesUptoCardSaid : Prop := Claim7.holds Tryz.pinned (.plain (OpenSpec.upto tapeRatesSpec)) tapeRatesUptoCard

/-- THE SECOND FORM's CARD OF 'genlocklaw08.TapeTorn'. -/
def tapeTornUptoCard : Claim7 := { stood := { row := tapeTornUptoRow, standIns := [], harness := (true, "0ee9afb5981c89ebef30179dc77233049063c8c2a16c7a2f5faf8cbd088dca18"), looks := true }, kinds := [], alts := [], laidByText := true, laidKinds := [.data, .data, .data, .widerDeep, .data, .widerDeep], laidTests := true, laidLooks := .later }
def TapeTornUptoCardSaid : Prop := Claim7.holds Tryz.pinned (.plain (OpenSpec.upto tapeTornSpec)) tapeTornUptoCard

/-- THE SECOND FORM's CARD OF 'genlocklaw08.TapeTraces'. -/
def tapeTracesUptoCard : Claim7 := { stood := { row := tapeTracesUptoRow, standIns := [], harness := (true, "0ee9afb5981c89ebef30179dc77233049063c8c2a16c7a2f5faf8cbd088dca18"), looks := true }, kinds := [], alts := [], laidByText := true, laidKinds := [.data, .data, .data, .widerDeep, .data, .widerDeep], laidTests := true, laidLooks := .later }
def TapeTracesUptoCardSaid : Prop := Claim7.holds Tryz.pinned (.plain (OpenSpec.upto tapeTracesSpec)) tapeTracesUptoCard

/-- THE SECOND FORM's CARD OF 'genlocklaw08.TapeFrames'. -/
def tapeFramesUptoCard : Claim7 := { stood := { row := tapeFramesUptoRow, standIns := [], harness := (true, "0ee9afb5981c89ebef30179dc77233049063c8c2a16c7a2f5faf8cbd088dca18"), looks := true }, kinds := [], alts := [], laidByText := true, laidKinds := [.data, .data, .data, .widerDeep, .data, .widerDeep], laidTests := true, laidLooks := .later }
def TapeFramesUptoCardSaid : Prop := Claim7.holds Tryz.pinned (.plain (OpenSpec.upto tapeFramesSpec)) tapeFramesUptoCard

/-- THE SECOND FORM's CARD OF 'genlocklaw08.TapeTurns'. -/
def tapeTurnsUptoCard : Claim7 := { stood := { row := tapeTurnsUptoRow, standIns := [], harness := (true, "0ee9afb5981c89ebef30179dc77233049063c8c2a16c7a2f5faf8cbd088dca18"), looks := true }, kinds := [], alts := [], laidByText := true, laidKinds := [.data, .data, .data, .widerDeep, .data, .widerDeep], laidTests := true, laidLooks := .later }
def TapeTurnsUptoCardSaid : Prop := Claim7.holds Tryz.pinned (.plain (OpenSpec.upto tapeTurnsSpec)) tapeTurnsUptoCard

/-- THE SECOND FORM's CARD OF 'genlocklaw08.TapeParts'. -/
def tapePartsUptoCard : Claim7 := { stood := { row := tapePartsUptoRow, standIns := [], harness := (true, "0ee9afb5981c89ebef30179dc77233049063c8c2a16c7a2f5faf8cbd088dca18"), looks := true }, kinds := [], alts := [], laidByText := true, laidKinds := [.data, .data, .data, .widerDeep, .data, .widerDeep], laidTests := true, laidLooks := .later }
def TapePartsUptoCardSaid : Prop := Claim7.holds Tryz.pinned (.plain (OpenSpec.upto tapePartsSpec)) tapePartsUptoCard

/-- THE SECOND FORM's CARD OF 'genlocklaw08.TapeJoins'. -/
def tapeJoinsUptoCard : Claim7 := { stood := { row := tapeJoinsUptoRow, standIns := [], harness := (true, "0ee9afb5981c89ebef30179dc77233049063c8c2a16c7a2f5faf8cbd088dca18"), looks := true }, kinds := [], alts := [], laidByText := true, laidKinds := [.data, .data, .data, .widerDeep, .data, .widerDeep], laidTests := true, laidLooks := .later }
def TapeJoinsUptoCardSaid : Prop := Claim7.holds Tryz.pinned (.plain (OpenSpec.upto tapeJoinsSpec)) tapeJoinsUptoCard

/-- THE SECOND FORM's CARD OF 'genlocklaw08.TapeTexts'. -/
def tapeTextsUptoCard : Claim7 := { stood := { row := tapeTextsUptoRow, standIns := [], harness := (true, "0ee9afb5981c89ebef30179dc77233049063c8c2a16c7a2f5faf8cbd088dca18"), looks := true }, kinds := [], alts := [], laidByText := true, laidKinds := [.data, .data, .data, .data, .sentinel, .sentinel, .widerDeep, .data, .widerDeep, .pinned], laidTests := true, laidLooks := .later }
def TapeTextsUptoCardSaid : Prop := Claim7.holds Tryz.pinned (.plain (OpenSpec.upto tapeTextsSpec)) tapeTextsUptoCard

/-- THE SECOND FORM's CARD OF 'genlocklaw08.TapeBack'. -/
def tapeBackUptoCard : Claim7 := { stood := { row := tapeBackUptoRow, standIns := [], harness := (true, "0ee9afb5981c89ebef30179dc77233049063c8c2a16c7a2f5faf8cbd088dca18"), looks := true }, kinds := [], alts := [], laidByText := true, laidKinds := [.data, .data, .data, .data, .sentinel, .sentinel, .widerDeep, .data, .widerDeep, .pinned], laidTests := true, laidLooks := .later }
def TapeBackUptoCardSaid : Prop := Claim7.holds Tryz.pinned (.plain (OpenSpec.upto tapeBackSpec)) tapeBackUptoCard
end Rows
end Go.Proofs.YtpbipfdpoijgoaaGreatDoor
