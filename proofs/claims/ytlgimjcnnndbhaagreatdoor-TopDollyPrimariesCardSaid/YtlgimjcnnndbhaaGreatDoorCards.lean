/-
  DERIVED. GIVEN WITH THE SEED: THE CARDS: each row of YtlgimjcnnndbhaaGreatDoorRows.lean that lists a variable, with what it lists TIED to the program's text (the seventh form; the later family's looks); each row that meets fmt, with fmt's text TOLD by the authors' own Lean function (tested against real Go, not proved from fmt's source: count such statements apart). THE CARD IS WHAT COUNTS. Prove the row's statement (the work); the ties are given (YtlgimjcnnndbhaaGreatDoorTie.lean); close each card by the builder's one call (the guide's Derived/Test/ToyasCard.lean, 'card_holds'). Laid BY PROGRAM, IN A SANDBOX (cutbox-door.mjs). By AI agents, Wed Nov 11 2026. No macro, syntax, notation, axiom, sorry.
-/
import Derived.Test.YtlgimjcnnndbhaaGreatDoorRows
import GoSem.ClaimSeven
namespace Go.Proofs.YtlgimjcnnndbhaaGreatDoor
namespace Rows

/-- THE TIED CARD OF 'genlocktop.TopDollyPrimaries'. -/
def topDollyPrimariesCard : Claim7 := { stood := { row := topDollyPrimariesRow, standIns := [], harness := (true, "c0095a7fe7facf2fd27367a0a7bb8e0cbc274ae280530458beaaf14f590e5512"), looks := false }, kinds := [], alts := [], laidByText := true, laidKinds := [.data], laidTests := true, laidLooks := .later }
def TopDollyPrimariesCardSaid : Prop := Claim7.holds Tryz.pinned (.plain (OpenSpec.ofChange topDollyPrimariesSpec)) topDollyPrimariesCard

/-- THE SECOND FORM's CARD OF 'genlocktop.TopDollyPrimaries'. -/
def topDollyPrimariesUptoCard : Claim7 := { stood := { row := topDollyPrimariesUptoRow, standIns := [], harness := (true, "c0095a7fe7facf2fd27367a0a7bb8e0cbc274ae280530458beaaf14f590e5512"), looks := false }, kinds := [], alts := [], laidByText := true, laidKinds := [.data], laidTests := true, laidLooks := .later }
def TopDollyPrimariesUptoCardSaid : Prop := Claim7.holds Tryz.pinned (.plain (OpenSpec.upto topDollyPrimariesSpec)) topDollyPrimariesUptoCard
end Rows
end Go.Proofs.YtlgimjcnnndbhaaGreatDoor
