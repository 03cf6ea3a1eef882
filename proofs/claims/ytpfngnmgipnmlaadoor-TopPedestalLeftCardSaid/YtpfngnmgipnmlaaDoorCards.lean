/-
  DERIVED. GIVEN WITH THE SEED: THE CARDS: each row of YtpfngnmgipnmlaaDoorRows.lean that lists a variable, with what it lists TIED to the program's text (the seventh form; the later family's looks); each row that meets fmt, with fmt's text TOLD by the authors' own Lean function (tested against real Go, not proved from fmt's source: count such statements apart). THE CARD IS WHAT COUNTS. Prove the row's statement (the work); the ties are given (YtpfngnmgipnmlaaDoorTie.lean); close each card by the builder's one call (the guide's Derived/Test/ToyasCard.lean, 'card_holds'). Laid BY PROGRAM, IN A SANDBOX (cutbox-door.mjs). By AI agents, Wed Nov 11 2026. No macro, syntax, notation, axiom, sorry.
-/
import Derived.Test.YtpfngnmgipnmlaaDoorRows
import GoSem.ClaimSeven
namespace Go.Proofs.YtpfngnmgipnmlaaDoor
namespace Rows

/-- THE TIED CARD OF 'genlocktop.TopPedestalCounted'. -/
def topPedestalCountedCard : Claim7 := { stood := { row := topPedestalCountedRow, standIns := [], harness := (true, "cdb6c4f0ad0b9df03ad29d734219124227a5f424b73eb2325d59a2b112ef55f3"), looks := false }, kinds := [], alts := [], laidByText := true, laidKinds := [.widerDeep], laidTests := true, laidLooks := .later }
def TopPedestalCountedCardSaid : Prop := Claim7.holds Tryd.pinned (.plain (OpenSpec.ofChange topPedestalCountedSpec)) topPedestalCountedCard

/-- THE TIED CARD OF 'genlocktop.TopDollyTaped'. -/
def topDollyTapedCard : Claim7 := { stood := { row := topDollyTapedRow, standIns := [], harness := (true, "cdb6c4f0ad0b9df03ad29d734219124227a5f424b73eb2325d59a2b112ef55f3"), looks := false }, kinds := [], alts := [], laidByText := true, laidKinds := [.widerDeep], laidTests := true, laidLooks := .later }
def TopDollyTapedCardSaid : Prop := Claim7.holds Tryd.pinned (.plain (OpenSpec.ofChange topDollyTapedSpec)) topDollyTapedCard

/-- THE TIED CARD OF 'genlocktop.TopPedestalConformed'. -/
def topPedestalConformedCard : Claim7 := { stood := { row := topPedestalConformedRow, standIns := [], harness := (true, "cdb6c4f0ad0b9df03ad29d734219124227a5f424b73eb2325d59a2b112ef55f3"), looks := false }, kinds := [], alts := [], laidByText := true, laidKinds := [.widerDeep, .data], laidTests := true, laidLooks := .later }
def TopPedestalConformedCardSaid : Prop := Claim7.holds Tryd.pinned (.plain (OpenSpec.ofChange topPedestalConformedSpec)) topPedestalConformedCard

/-- THE TIED CARD OF 'genlocktop.TopDollySplit'. -/
def topDollySplitCard : Claim7 := { stood := { row := topDollySplitRow, standIns := [], harness := (true, "cdb6c4f0ad0b9df03ad29d734219124227a5f424b73eb2325d59a2b112ef55f3"), looks := false }, kinds := [], alts := [], laidByText := true, laidKinds := [.data, .widerDeep], laidTests := true, laidLooks := .later }
def TopDollySplitCardSaid : Prop := Claim7.holds Tryd.pinned (.plain (OpenSpec.ofChange topDollySplitSpec)) topDollySplitCard

/-- THE TIED CARD OF 'genlocktop.TopPedestalLeft'. -/
def topPedestalLeftCard : Claim7 := { stood := { row := topPedestalLeftRow, standIns := [], harness := (true, "cdb6c4f0ad0b9df03ad29d734219124227a5f424b73eb2325d59a2b112ef55f3"), looks := false }, kinds := [], alts := [], laidByText := true, laidKinds := [.widerDeep, .data, .widerDeep], laidTests := true, laidLooks := .later }
def TopPedestalLeftCardSaid : Prop := Claim7.holds Tryd.pinned (.plain (OpenSpec.ofChange topPedestalLeftSpec)) topPedestalLeftCard

/-- THE SECOND FORM's CARD OF 'genlocktop.TopPedestalCounted'. -/
def topPedestalCountedUptoCard : Claim7 := { stood := { row := topPedestalCountedUptoRow, standIns := [], harness := (true, "cdb6c4f0ad0b9df03ad29d734219124227a5f424b73eb2325d59a2b112ef55f3"), looks := false }, kinds := [], alts := [], laidByText := true, laidKinds := [.widerDeep], laidTests := true, laidLooks := .later }
def TopPedestalCountedUptoCardSaid : Prop := Claim7.holds Tryd.pinned (.plain (OpenSpec.upto topPedestalCountedSpec)) topPedestalCountedUptoCard

/-- THE SECOND FORM's CARD OF 'genlocktop.TopDollyTaped'. -/
def topDollyTapedUptoCard : Claim7 := { stood := { row := topDollyTapedUptoRow, standIns := [], harness := (true, "cdb6c4f0ad0b9df03ad29d734219124227a5f424b73eb2325d59a2b112ef55f3"), looks := false }, kinds := [], alts := [], laidByText := true, laidKinds := [.widerDeep], laidTests := true, laidLooks := .later }
def TopDollyTapedUptoCardSaid : Prop := Claim7.holds Tryd.pinned (.plain (OpenSpec.upto topDollyTapedSpec)) topDollyTapedUptoCard

/-- THE SECOND FORM's CARD OF 'genlocktop.TopPedestalConformed'. -/
def topPedestalConformedUptoCard : Claim7 := { stood := { row := topPedestalConformedUptoRow, standIns := [], harness := (true, "cdb6c4f0ad0b9df03ad29d734219124227a5f424b73eb2325d59a2b112ef55f3"), looks := false }, kinds := [], alts := [], laidByText := true, laidKinds := [.widerDeep, .data], laidTests := true, laidLooks := .later }
def TopPedestalConformedUptoCardSaid : Prop := Claim7.holds Tryd.pinned (.plain (OpenSpec.upto topPedestalConformedSpec)) topPedestalConformedUptoCard

/-- THE SECOND FORM's CARD OF 'genlocktop.TopDollySplit'. -/
def topDollySplitUptoCard : Claim7 := { stood := { row := topDollySplitUptoRow, standIns := [], harness := (true, "cdb6c4f0ad0b9df03ad29d734219124227a5f424b73eb2325d59a2b112ef55f3"), looks := false }, kinds := [], alts := [], laidByText := true, laidKinds := [.data, .widerDeep], laidTests := true, laidLooks := .later }
def TopDollySplitUptoCardSaid : Prop := Claim7.holds Tryd.pinned (.plain (OpenSpec.upto topDollySplitSpec)) topDollySplitUptoCard

/-- THE SECOND FORM's CARD OF 'genlocktop.TopPedestalLeft'. -/
def topPedestalLeftUptoCard : Claim7 := { stood := { row := topPedestalLeftUptoRow, standIns := [], harness := (true, "cdb6c4f0ad0b9df03ad29d734219124227a5f424b73eb2325d59a2b112ef55f3"), looks := false }, kinds := [], alts := [], laidByText := true, laidKinds := [.widerDeep, .data, .widerDeep], laidTests := true, laidLooks := .later }
def TopPedestalLeftUptoCardSaid : Prop := Claim7.holds Tryd.pinned (.plain (OpenSpec.upto topPedestalLeftSpec)) topPedestalLeftUptoCard
end Rows
end Go.Proofs.YtpfngnmgipnmlaaDoor
