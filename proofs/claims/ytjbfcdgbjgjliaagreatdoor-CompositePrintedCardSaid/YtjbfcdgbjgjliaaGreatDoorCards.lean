/-
  DERIVED. GIVEN WITH THE SEED: THE CARDS: each row of YtjbfcdgbjgjliaaGreatDoorRows.lean that lists a variable, with what it lists TIED to the program's text (the seventh form; the later family's looks); each row that meets fmt, with fmt's text TOLD by the authors' own Lean function (tested against real Go, not proved from fmt's source: count such statements apart). THE CARD IS WHAT COUNTS. Prove the row's statement (the work); the ties are given (YtjbfcdgbjgjliaaGreatDoorTie.lean); close each card by the builder's one call (the guide's Derived/Test/ToyasCard.lean, 'card_holds'). Laid BY PROGRAM, IN A SANDBOX (cutbox-door.mjs). By AI agents, Wed Nov 11 2026. No macro, syntax, notation, axiom, sorry.
-/
import Derived.Test.YtjbfcdgbjgjliaaGreatDoorRows
import GoSem.ClaimSeven
namespace Go.Proofs.YtjbfcdgbjgjliaaGreatDoor
namespace Rows

/-- THE TIED CARD OF 'genlocklaw03.CompositeEncodes'. -/
def compositeEncodesCard : Claim7 := { stood := { row := compositeEncodesRow, standIns := [], harness := (true, "3e979f7626ed13d08699ead7b200aa91fb70bbeb356de8bb752c23a4f8cad264"), looks := true }, kinds := [], alts := [], laidByText := true, laidKinds := [.data, .data, .data, .data], laidTests := true, laidLooks := .later }
def CompositeEncodesCardSaid : Prop := Claim7.holds Tryz.pinned (.plain (OpenSpec.ofChange compositeEncodesSpec)) compositeEncodesCard

/-- THE TIED CARD OF 'genlocklaw03.CompositeFields'. -/
def compositeFieldsCard : Claim7 := { stood := { row := compositeFieldsRow, standIns := [], harness := (true, "3e979f7626ed13d08699ead7b200aa91fb70bbeb356de8bb752c23a4f8cad264"), looks := true }, kinds := [], alts := [], laidByText := true, laidKinds := [.data, .data, .data, .data], laidTests := true, laidLooks := .later }
def CompositeFieldsCardSaid : Prop := Claim7.holds Tryz.pinned (.plain (OpenSpec.ofChange compositeFieldsSpec)) compositeFieldsCard

/-- THE TIED CARD OF 'genlocklaw03.CompositeBands'. -/
def compositeBandsCard : Claim7 := { stood := { row := compositeBandsRow, standIns := [], harness := (true, "3e979f7626ed13d08699ead7b200aa91fb70bbeb356de8bb752c23a4f8cad264"), looks := true }, kinds := [], alts := [], laidByText := true, laidKinds := [.data, .data, .data, .data], laidTests := true, laidLooks := .later }
def CompositeBandsCardSaid : Prop := Claim7.holds Tryz.pinned (.plain (OpenSpec.ofChange compositeBandsSpec)) compositeBandsCard

/-- THE TIED CARD OF 'genlocklaw03.CompositeCombs'. -/
def compositeCombsCard : Claim7 := { stood := { row := compositeCombsRow, standIns := [], harness := (true, "3e979f7626ed13d08699ead7b200aa91fb70bbeb356de8bb752c23a4f8cad264"), looks := true }, kinds := [], alts := [], laidByText := true, laidKinds := [.data, .data, .data, .data], laidTests := true, laidLooks := .later }
def CompositeCombsCardSaid : Prop := Claim7.holds Tryz.pinned (.plain (OpenSpec.ofChange compositeCombsSpec)) compositeCombsCard

/-- THE TIED CARD OF 'genlocklaw03.CompositeMeasures'. -/
def compositeMeasuresCard : Claim7 := { stood := { row := compositeMeasuresRow, standIns := [], harness := (true, "3e979f7626ed13d08699ead7b200aa91fb70bbeb356de8bb752c23a4f8cad264"), looks := true }, kinds := [], alts := [], laidByText := true, laidKinds := [.data, .data, .data, .data], laidTests := true, laidLooks := .later }
def CompositeMeasuresCardSaid : Prop := Claim7.holds Tryz.pinned (.plain (OpenSpec.ofChange compositeMeasuresSpec)) compositeMeasuresCard

/-- THE TIED CARD OF 'genlocklaw03.CompositeLocks'. -/
def compositeLocksCard : Claim7 := { stood := { row := compositeLocksRow, standIns := [], harness := (true, "3e979f7626ed13d08699ead7b200aa91fb70bbeb356de8bb752c23a4f8cad264"), looks := true }, kinds := [], alts := [], laidByText := true, laidKinds := [.data, .data, .data, .data], laidTests := true, laidLooks := .later }
def CompositeLocksCardSaid : Prop := Claim7.holds Tryz.pinned (.plain (OpenSpec.ofChange compositeLocksSpec)) compositeLocksCard

/-- THE TIED CARD OF 'genlocklaw03.CompositeClamps'. -/
def compositeClampsCard : Claim7 := { stood := { row := compositeClampsRow, standIns := [], harness := (true, "3e979f7626ed13d08699ead7b200aa91fb70bbeb356de8bb752c23a4f8cad264"), looks := true }, kinds := [], alts := [], laidByText := true, laidKinds := [.data, .data, .data, .data], laidTests := true, laidLooks := .later }
def CompositeClampsCardSaid : Prop := Claim7.holds Tryz.pinned (.plain (OpenSpec.ofChange compositeClampsSpec)) compositeClampsCard

/-- THE TIED CARD OF 'genlocklaw03.CompositeFilters'. -/
def compositeFiltersCard : Claim7 := { stood := { row := compositeFiltersRow, standIns := [], harness := (true, "3e979f7626ed13d08699ead7b200aa91fb70bbeb356de8bb752c23a4f8cad264"), looks := true }, kinds := [], alts := [], laidByText := true, laidKinds := [.data, .data, .data, .data], laidTests := true, laidLooks := .later }
def CompositeFiltersCardSaid : Prop := Claim7.holds Tryz.pinned (.plain (OpenSpec.ofChange compositeFiltersSpec)) compositeFiltersCard

/-- THE TIED CARD OF 'genlocklaw03.CompositeLines'. -/
def compositeLinesCard : Claim7 := { stood := { row := compositeLinesRow, standIns := [], harness := (true, "3e979f7626ed13d08699ead7b200aa91fb70bbeb356de8bb752c23a4f8cad264"), looks := true }, kinds := [], alts := [], laidByText := true, laidKinds := [.data, .data, .data, .data], laidTests := true, laidLooks := .later }
def CompositeLinesCardSaid : Prop := Claim7.holds Tryz.pinned (.plain (OpenSpec.ofChange compositeLinesSpec)) compositeLinesCard

/-- THE TIED CARD OF 'genlocklaw03.CompositeBack'. -/
def compositeBackCard : Claim7 := { stood := { row := compositeBackRow, standIns := [], harness := (true, "3e979f7626ed13d08699ead7b200aa91fb70bbeb356de8bb752c23a4f8cad264"), looks := true }, kinds := [], alts := [], laidByText := true, laidKinds := [.data, .data, .data, .data], laidTests := true, laidLooks := .later }
def CompositeBackCardSaid : Prop := Claim7.holds Tryz.pinned (.plain (OpenSpec.ofChange compositeBackSpec)) compositeBackCard

/-- THE TIED CARD OF 'genlocklaw03.CompositeRamps'. -/
def compositeRampsCard : Claim7 := { stood := { row := compositeRampsRow, standIns := [], harness := (true, "3e979f7626ed13d08699ead7b200aa91fb70bbeb356de8bb752c23a4f8cad264"), looks := true }, kinds := [], alts := [], laidByText := true, laidKinds := [.data, .data, .data, .data], laidTests := true, laidLooks := .later }
def CompositeRampsCardSaid : Prop := Claim7.holds Tryz.pinned (.plain (OpenSpec.ofChange compositeRampsSpec)) compositeRampsCard

/-- THE TIED CARD OF 'genlocklaw03.CompositeAdjoint'. -/
def compositeAdjointCard : Claim7 := { stood := { row := compositeAdjointRow, standIns := [], harness := (true, "3e979f7626ed13d08699ead7b200aa91fb70bbeb356de8bb752c23a4f8cad264"), looks := true }, kinds := [], alts := [], laidByText := true, laidKinds := [.data, .data, .data, .data], laidTests := true, laidLooks := .later }
def CompositeAdjointCardSaid : Prop := Claim7.holds Tryz.pinned (.plain (OpenSpec.ofChange compositeAdjointSpec)) compositeAdjointCard

/-- THE TIED CARD OF 'genlocklaw03.CompositeTurns'. -/
def compositeTurnsCard : Claim7 := { stood := { row := compositeTurnsRow, standIns := [], harness := (true, "3e979f7626ed13d08699ead7b200aa91fb70bbeb356de8bb752c23a4f8cad264"), looks := true }, kinds := [], alts := [], laidByText := true, laidKinds := [.data, .data, .data, .data], laidTests := true, laidLooks := .later }
def CompositeTurnsCardSaid : Prop := Claim7.holds Tryz.pinned (.plain (OpenSpec.ofChange compositeTurnsSpec)) compositeTurnsCard

/-- THE TIED CARD OF 'genlocklaw03.CompositeTexts'. -/
def compositeTextsCard : Claim7 := { stood := { row := compositeTextsRow, standIns := [], harness := (true, "3e979f7626ed13d08699ead7b200aa91fb70bbeb356de8bb752c23a4f8cad264"), looks := true }, kinds := [], alts := [], laidByText := true, laidKinds := [.data, .data, .data, .data, .sentinel, .sentinel, .data, .pinned], laidTests := true, laidLooks := .later }
def CompositeTextsCardSaid : Prop := Claim7.holds Tryz.pinned (.plain (OpenSpec.ofChange compositeTextsSpec)) compositeTextsCard

/-- THE TIED CARD OF 'genlocklaw03.CompositePrinted'. -/
def compositePrintedCard : Claim7 := { stood := { row := compositePrintedRow, standIns := [], harness := (true, "3e979f7626ed13d08699ead7b200aa91fb70bbeb356de8bb752c23a4f8cad264"), looks := true }, kinds := [], alts := [], laidByText := true, laidKinds := [.data, .data, .data, .data, .sentinel, .sentinel, .data, .pinned], laidTests := true, laidLooks := .later }
def CompositePrintedCardSaid : Prop := Claim7.holds Tryz.pinned (.plain (OpenSpec.ofChange compositePrintedSpec)) compositePrintedCard

/-- THE SECOND FORM's CARD OF 'genlocklaw03.CompositeEncodes'. -/
def compositeEncodesUptoCard : Claim7 := { stood := { row := compositeEncodesUptoRow, standIns := [], harness := (true, "3e979f7626ed13d08699ead7b200aa91fb70bbeb356de8bb752c23a4f8cad264"), looks := true }, kinds := [], alts := [], laidByText := true, laidKinds := [.data, .data, .data, .data], laidTests := true, laidLooks := .later }
def CompositeEncodesUptoCardSaid : Prop := Claim7.holds Tryz.pinned (.plain (OpenSpec.upto compositeEncodesSpec)) compositeEncodesUptoCard

/-- THE SECOND FORM's CARD OF 'genlocklaw03.CompositeFields'. -/
def compositeFieldsUptoCard : Claim7 := { stood := { row := compositeFieldsUptoRow, standIns := [], harness := (true, "3e979f7626ed13d08699ead7b200aa91fb70bbeb356de8bb752c23a4f8cad264"), looks := true }, kinds := [], alts := [], laidByText := true, laidKinds := [.data, .data, .data, .data], laidTests := true, laidLooks := .later }
def CompositeFieldsUptoCardSaid : Prop := Claim7.holds Tryz.pinned (.plain (OpenSpec.upto compositeFieldsSpec)) compositeFieldsUptoCard

/-- THE SECOND FORM's CARD OF 'genlocklaw03.CompositeBands'. -/
def compositeBandsUptoCard : Claim7 := { stood := { row := compositeBandsUptoRow, standIns := [], harness := (true, "3e979f7626ed13d08699ead7b200aa91fb70bbeb356de8bb752c23a4f8cad264"), looks := true }, kinds := [], alts := [], laidByText := true, laidKinds := [.data, .data, .data, .data], laidTests := true, laidLooks := .later }
def CompositeBandsUptoCardSaid : Prop := Claim7.holds Tryz.pinned (.plain (OpenSpec.upto compositeBandsSpec)) compositeBandsUptoCard

/-- THE SECOND FORM's CARD OF 'genlocklaw03.CompositeCombs'. -/
def compositeCombsUptoCard : Claim7 := { stood := { row := compositeCombsUptoRow, standIns := [], harness := (true, "3e979f7626ed13d08699ead7b200aa91fb70bbeb356de8bb752c23a4f8cad264"), looks := true }, kinds := [], alts := [], laidByText := true, laidKinds := [.data, .data, .data, .data], laidTests := true, laidLooks := .later }
def CompositeCombsUptoCardSaid : Prop := Claim7.holds Tryz.pinned (.plain (OpenSpec.upto compositeCombsSpec)) compositeCombsUptoCard

/-- THE SECOND FORM's CARD OF 'genlocklaw03.CompositeMeasures'. -/
def compositeMeasuresUptoCard : Claim7 := { stood := { row := compositeMeasuresUptoRow, standIns := [], harness := (true, "3e979f7626ed13d08699ead7b200aa91fb70bbeb356de8bb752c23a4f8cad264"), looks := true }, kinds := [], alts := [], laidByText := true, laidKinds := [.data, .data, .data, .data], laidTests := true, laidLooks := .later }
def CompositeMeasuresUptoCardSaid : Prop := Claim7.holds Tryz.pinned (.plain (OpenSpec.upto compositeMeasuresSpec)) compositeMeasuresUptoCard

/-- THE SECOND FORM's CARD OF 'genlocklaw03.CompositeLocks'. -/
def compositeLocksUptoCard : Claim7 := { stood := { row := compositeLocksUptoRow, standIns := [], harness := (true, "3e979f7626ed13d08699ead7b200aa91fb70bbeb356de8bb752c23a4f8cad264"), looks := true }, kinds := [], alts := [], laidByText := true, laidKinds := [.data, .data, .data, .data], laidTests := true, laidLooks := .later }
def CompositeLocksUptoCardSaid : Prop := Claim7.holds Tryz.pinned (.plain (OpenSpec.upto compositeLocksSpec)) compositeLocksUptoCard

/-- THE SECOND FORM's CARD OF 'genlocklaw03.CompositeClamps'. -/
def compositeClampsUptoCard : Claim7 := { stood := { row := compositeClampsUptoRow, standIns := [], harness := (true, "3e979f7626ed13d08699ead7b200aa91fb70bbeb356de8bb752c23a4f8cad264"), looks := true }, kinds := [], alts := [], laidByText := true, laidKinds := [.data, .data, .data, .data], laidTests := true, laidLooks := .later }
def CompositeClampsUptoCardSaid : Prop := Claim7.holds Tryz.pinned (.plain (OpenSpec.upto compositeClampsSpec)) compositeClampsUptoCard

/-- THE SECOND FORM's CARD OF 'genlocklaw03.CompositeFilters'. -/
def compositeFiltersUptoCard : Claim7 := { stood := { row := compositeFiltersUptoRow, standIns := [], harness := (true, "3e979f7626ed13d08699ead7b200aa91fb70bbeb356de8bb752c23a4f8cad264"), looks := true }, kinds := [], alts := [], laidByText := true, laidKinds := [.data, .data, .data, .data], laidTests := true, laidLooks := .later }
def CompositeFiltersUptoCardSaid : Prop := Claim7.holds Tryz.pinned (.plain (OpenSpec.upto compositeFiltersSpec)) compositeFiltersUptoCard

/-- THE SECOND FORM's CARD OF 'genlocklaw03.CompositeLines'. -/
def compositeLinesUptoCard : Claim7 := { stood := { row := compositeLinesUptoRow, standIns := [], harness := (true, "3e979f7626ed13d08699ead7b200aa91fb70bbeb356de8bb752c23a4f8cad264"), looks := true }, kinds := [], alts := [], laidByText := true, laidKinds := [.data, .data, .data, .data], laidTests := true, laidLooks := .later }
def CompositeLinesUptoCardSaid : Prop := Claim7.holds Tryz.pinned (.plain (OpenSpec.upto compositeLinesSpec)) compositeLinesUptoCard

/-- THE SECOND FORM's CARD OF 'genlocklaw03.CompositeBack'. -/
def compositeBackUptoCard : Claim7 := { stood := { row := compositeBackUptoRow, standIns := [], harness := (true, "3e979f7626ed13d08699ead7b200aa91fb70bbeb356de8bb752c23a4f8cad264"), looks := true }, kinds := [], alts := [], laidByText := true, laidKinds := [.data, .data, .data, .data], laidTests := true, laidLooks := .later }
def CompositeBackUptoCardSaid : Prop := Claim7.holds Tryz.pinned (.plain (OpenSpec.upto compositeBackSpec)) compositeBackUptoCard

/-- THE SECOND FORM's CARD OF 'genlocklaw03.CompositeRamps'. -/
def compositeRampsUptoCard : Claim7 := { stood := { row := compositeRampsUptoRow, standIns := [], harness := (true, "3e979f7626ed13d08699ead7b200aa91fb70bbeb356de8bb752c23a4f8cad264"), looks := true }, kinds := [], alts := [], laidByText := true, laidKinds := [.data, .data, .data, .data], laidTests := true, laidLooks := .later }
def CompositeRampsUptoCardSaid : Prop := Claim7.holds Tryz.pinned (.plain (OpenSpec.upto compositeRampsSpec)) compositeRampsUptoCard

/-- THE SECOND FORM's CARD OF 'genlocklaw03.CompositeAdjoint'. -/
def compositeAdjointUptoCard : Claim7 := { stood := { row := compositeAdjointUptoRow, standIns := [], harness := (true, "3e979f7626ed13d08699ead7b200aa91fb70bbeb356de8bb752c23a4f8cad264"), looks := true }, kinds := [], alts := [], laidByText := true, laidKinds := [.data, .data, .data, .data], laidTests := true, laidLooks := .later }
def CompositeAdjointUptoCardSaid : Prop := Claim7.holds Tryz.pinned (.plain (OpenSpec.upto compositeAdjointSpec)) compositeAdjointUptoCard

/-- THE SECOND FORM's CARD OF 'genlocklaw03.CompositeTurns'. -/
def compositeTurnsUptoCard : Claim7 := { stood := { row := compositeTurnsUptoRow, standIns := [], harness := (true, "3e979f7626ed13d08699ead7b200aa91fb70bbeb356de8bb752c23a4f8cad264"), looks := true }, kinds := [], alts := [], laidByText := true, laidKinds := [.data, .data, .data, .data], laidTests := true, laidLooks := .later }
def CompositeTurnsUptoCardSaid : Prop := Claim7.holds Tryz.pinned (.plain (OpenSpec.upto compositeTurnsSpec)) compositeTurnsUptoCard

/-- THE SECOND FORM's CARD OF 'genlocklaw03.CompositeTexts'. -/
def compositeTextsUptoCard : Claim7 := { stood := { row := compositeTextsUptoRow, standIns := [], harness := (true, "3e979f7626ed13d08699ead7b200aa91fb70bbeb356de8bb752c23a4f8cad264"), looks := true }, kinds := [], alts := [], laidByText := true, laidKinds := [.data, .data, .data, .data, .sentinel, .sentinel, .data, .pinned], laidTests := true, laidLooks := .later }
def CompositeTextsUptoCardSaid : Prop := Claim7.holds Tryz.pinned (.plain (OpenSpec.upto compositeTextsSpec)) compositeTextsUptoCard

/-- THE SECOND FORM's CARD OF 'genlocklaw03.CompositePrinted'. -/
def compositePrintedUptoCard : Claim7 := { stood := { row := compositePrintedUptoRow, standIns := [], harness := (true, "3e979f7626ed13d08699ead7b200aa91fb70bbeb356de8bb752c23a4f8cad264"), looks := true }, kinds := [], alts := [], laidByText := true, laidKinds := [.data, .data, .data, .data, .sentinel, .sentinel, .data, .pinned], laidTests := true, laidLooks := .later }
def CompositePrintedUptoCardSaid : Prop := Claim7.holds Tryz.pinned (.plain (OpenSpec.upto compositePrintedSpec)) compositePrintedUptoCard
end Rows
end Go.Proofs.YtjbfcdgbjgjliaaGreatDoor
