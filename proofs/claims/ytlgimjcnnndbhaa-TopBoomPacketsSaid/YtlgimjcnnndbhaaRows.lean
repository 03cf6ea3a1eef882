/-
  No cell of these rows narrows 'for every input' (looked for: loops, veiled, ifaces, maps, wideKeys, modest, calm, conditions, laid).
  DERIVED. THE GIVEN ROWS OF THIS SEAT. 2 by the template 'for every input the law returns true; each argument reads behind the call as it read before'; 0 by the template 'total and deterministic' (their statements: YtlgimjcnnndbhaaTotals.lean).
  GIVEN WITH THE SEED: the statements are not yours to turn. If you find one false, say at which input.
  Laid BY PROGRAM, IN A SANDBOX (cutbox-rows.mjs): the forced cells as the released guide's own fill.sh prints them over the translation 9ea3bc1de6394948… (all of the seat's roots in one cut). By AI agents, Wed Nov 11 2026. No macro, syntax, notation, axiom, sorry.
-/
import Derived.Test.YtlgimjcnnndbhaaChecked
import GoSem.Claim
import GoSem.ClaimJoined
import GoSem.ClaimMapViews
import Derived.JoinedTies
import Derived.KernelRfl
namespace Go.Proofs.Ytlgimjcnnndbhaa
/- THE CELL 'sum', in the pinned program and in every row, IS THE sha256 OF THE DUMP (.gsa) THAT YtlgimjcnnndbhaaProg.lean LOADS. Nothing in Lean hashes anything: it is a label: what it is worth is what the hold of that sum in a sandbox is worth. -/
noncomputable def Try.pinned : Pinned := { name := "ytlgimjcnnndbhaa", sum := "9ea3bc1de639494846827bcbcd768792f2bafffd72b36e784af6931dbd29d88e", checked := Try.checked }
namespace Rows
def none {H : Type} : Left H := { results := [], args := [] }

/-- 'genlocktop.TopBoomTiled': WHATEVER THE INPUT: true; the input reads as it did. -/
def topBoomTiledSpec : ChangeSpec := { name := "topBoomTiled", fn := fun _ => fun
  | [d1, d2, d3] => { results := [.lit (.bool true)], args := [d1, d2, d3] }
  | _ => none }
def topBoomTiledRow : OpenClaim := { program := "ytlgimjcnnndbhaa", sum := "9ea3bc1de639494846827bcbcd768792f2bafffd72b36e784af6931dbd29d88e", func := "genlock/genlocktop.TopBoomTiled", spec := "topBoomTiled", inPlace := ["math.Float64bits", "math.Float64frombits", "math.archFloor", "math.archTrunc", "math.Float32bits"], unfollowed := true, recurses := true, apart := false }
def TopBoomTiledSaid : Prop := topBoomTiledRow.holds Try.pinned (OpenSpec.ofChange topBoomTiledSpec)

/-- ITS FALSE NEIGHBOUR: 'it returns false'. Refute it at one input. -/
def topBoomTiledWrong : ChangeSpec := { name := "topBoomTiled", fn := fun _ => fun
  | [d1, d2, d3] => { results := [.lit (.bool false)], args := [d1, d2, d3] }
  | _ => none }
def TopBoomTiledWrongFalsely : Prop := topBoomTiledRow.holds Try.pinned (OpenSpec.ofChange topBoomTiledWrong)

/-- 'genlocktop.TopBoomPackets': WHATEVER THE INPUT: true; the input reads as it did. -/
def topBoomPacketsSpec : ChangeSpec := { name := "topBoomPackets", fn := fun _ => fun
  | [d1, d2, d3] => { results := [.lit (.bool true)], args := [d1, d2, d3] }
  | _ => none }
def topBoomPacketsRow : OpenClaim := { program := "ytlgimjcnnndbhaa", sum := "9ea3bc1de639494846827bcbcd768792f2bafffd72b36e784af6931dbd29d88e", func := "genlock/genlocktop.TopBoomPackets", spec := "topBoomPackets", inPlace := ["math.Float64bits", "math.Float64frombits", "math.archFloor", "math.archTrunc", "math.Float32bits", "math.Float32frombits"], unfollowed := true, recurses := true, apart := false }
def TopBoomPacketsSaid : Prop := topBoomPacketsRow.holds Try.pinned (OpenSpec.ofChange topBoomPacketsSpec)

/-- ITS FALSE NEIGHBOUR: 'it returns false'. Refute it at one input. -/
def topBoomPacketsWrong : ChangeSpec := { name := "topBoomPackets", fn := fun _ => fun
  | [d1, d2, d3] => { results := [.lit (.bool false)], args := [d1, d2, d3] }
  | _ => none }
def TopBoomPacketsWrongFalsely : Prop := topBoomPacketsRow.holds Try.pinned (OpenSpec.ofChange topBoomPacketsWrong)

/- THE SECOND FORM. 'bulk': how many values and letters a reading holds, each counted each time it is reached (what is shared counts as often as it is met; a slice's spare places count too). A statement '..UptoSaid' is the law's where the arguments, and the package variables that the reading takes, are together of bulk at most 1048576: NARROWER than '..Said'. Prove '..Said' where nothing that the law and all that it calls make is longer than what came in: it says more and counts as full. Else prove '..UptoSaid'. A law counts once. -/
mutual
def uptoBulk {H : Type} : DataW H → Nat
  | .lit (.string bytes) => bytes.length + 1
  | .lit _ => 1
  | .nil => 1
  | .ptr d => uptoBulk d + 1
  | .slice elems spare => uptoBulkAll elems + uptoBulkAll spare + 1
  | .agg parts => uptoBulkAll parts + 1
  | .iface _ d => uptoBulk d + 1
  | .map entries => uptoBulkEntries entries + 1
  | .held _ => 1
def uptoBulkAll {H : Type} : List (DataW H) → Nat
  | [] => 0
  | d :: r => uptoBulk d + uptoBulkAll r
def uptoBulkEntries {H : Type} : List (Lit × DataW H) → Nat
  | [] => 0
  | x :: r => uptoBulkEntry x + uptoBulkEntries r
def uptoBulkEntry {H : Type} : Lit × DataW H → Nat
  | (.string bytes, d) => bytes.length + uptoBulk d + 1
  | (_, d) => uptoBulk d + 1
 end
def uptoSmall : (H : Type) → List (DataW H) → Bool := fun _ ds => decide (uptoBulkAll ds ≤ 1048576)
def OpenSpec.upto (s : _root_.Go.ChangeSpec) : _root_.Go.OpenSpec := { _root_.Go.OpenSpec.ofChange s with cond := some uptoSmall }

/-- 'genlocktop.TopBoomTiled', WHERE WHAT IT READS IS OF BULK AT MOST 1048576: true; the input reads as it did. -/
def topBoomTiledUptoRow : OpenClaim := { program := "ytlgimjcnnndbhaa", sum := "9ea3bc1de639494846827bcbcd768792f2bafffd72b36e784af6931dbd29d88e", func := "genlock/genlocktop.TopBoomTiled", spec := "topBoomTiled", inPlace := ["math.Float64bits", "math.Float64frombits", "math.archFloor", "math.archTrunc", "math.Float32bits"], unfollowed := true, recurses := true, apart := false, narrowed := true }
def TopBoomTiledUptoSaid : Prop := topBoomTiledUptoRow.holds Try.pinned (OpenSpec.upto topBoomTiledSpec)

/-- 'genlocktop.TopBoomPackets', WHERE WHAT IT READS IS OF BULK AT MOST 1048576: true; the input reads as it did. -/
def topBoomPacketsUptoRow : OpenClaim := { program := "ytlgimjcnnndbhaa", sum := "9ea3bc1de639494846827bcbcd768792f2bafffd72b36e784af6931dbd29d88e", func := "genlock/genlocktop.TopBoomPackets", spec := "topBoomPackets", inPlace := ["math.Float64bits", "math.Float64frombits", "math.archFloor", "math.archTrunc", "math.Float32bits", "math.Float32frombits"], unfollowed := true, recurses := true, apart := false, narrowed := true }
def TopBoomPacketsUptoSaid : Prop := topBoomPacketsUptoRow.holds Try.pinned (OpenSpec.upto topBoomPacketsSpec)

end Rows
end Go.Proofs.Ytlgimjcnnndbhaa
