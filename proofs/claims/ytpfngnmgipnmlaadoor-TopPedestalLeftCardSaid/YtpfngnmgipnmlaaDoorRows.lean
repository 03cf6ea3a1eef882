/-
  NARROWER THAN 'FOR EVERY INPUT', by the rows' own cells (each row's printed sentence says how): TopPedestalCounted: laid · TopDollyTaped: laid · TopPedestalConformed: laid · TopDollySplit: laid · TopPedestalLeft: laid.
  DERIVED. THE GIVEN ROWS OF THIS SEAT. 5 by the template 'for every input the law returns true; each argument reads behind the call as it read before'; 0 by the template 'total and deterministic' (their statements: YtpfngnmgipnmlaaDoorTotals.lean).
  GIVEN WITH THE SEED: the statements are not yours to turn. If you find one false, say at which input.
  Laid BY PROGRAM, IN A SANDBOX (cutbox-rows.mjs): the forced cells as the released guide's own fill.sh prints them over the translation e0f3117481dba82d… (all of the seat's roots in one cut). By AI agents, Wed Nov 11 2026. No macro, syntax, notation, axiom, sorry.
-/
import Derived.Test.YtpfngnmgipnmlaaDoorChecked
import GoSem.Claim
import GoSem.ClaimJoined
import GoSem.ClaimMapViews
import Derived.JoinedTies
import Derived.KernelRfl
namespace Go.Proofs.YtpfngnmgipnmlaaDoor
/- THE CELL 'sum', in the pinned program and in every row, IS THE sha256 OF THE DUMP (.gsa) THAT YtpfngnmgipnmlaaDoorProg.lean LOADS. Nothing in Lean hashes anything: it is a label: what it is worth is what the hold of that sum in a sandbox is worth. -/
noncomputable def Tryd.pinned : Pinned := { name := "ytpfngnmgipnmlaadoor", sum := "e0f3117481dba82d191534d579e509e9589a988de4d899e15b8717d94fb07a2b", checked := Tryd.checked }
namespace Rows
def none {H : Type} : Left H := { results := [], args := [] }

/- WHAT THE LISTED PACKAGE-LEVEL VARIABLES READ AS WHEN THE CALL BEGINS. Each datum BY PROGRAM (the guide's laid-datum.mjs) off the statement by which the dump's own 'gosem.cut.vars' lays the variable. In a bare row this is a premise. The card (YtpfngnmgipnmlaaDoorCards.lean) ties it to the program's text. -/
def laid_genlock_code_rates {H : Type} : DataW H := .agg [.lit (.int .i64 24), .lit (.int .i64 25), .lit (.int .i64 30)]
def laid_genlock_tape_magic {H : Type} : DataW H := .agg [.lit (.int .u8 82), .lit (.int .u8 69), .lit (.int .u8 69), .lit (.int .u8 76)]
def laid_genlock_tape_whole {H : Type} : DataW H := .agg [.lit (.int .i64 1), .lit (.int .i64 1)]

/-- 'genlocktop.TopPedestalCounted': WHATEVER THE INPUT: true; the input reads as it did. -/
def topPedestalCountedSpec : ChangeSpec := { name := "topPedestalCounted", fn := fun _ => fun
  | [d1, d2, d3] => { results := [.lit (.bool true)], args := [d1, d2, d3] }
  | _ => none }
def topPedestalCountedRow : OpenClaim := { program := "ytpfngnmgipnmlaadoor", sum := "e0f3117481dba82d191534d579e509e9589a988de4d899e15b8717d94fb07a2b", func := "genlock/genlocktop.TopPedestalCounted", spec := "topPedestalCounted", unfollowed := true, recurses := true, named := ["genlock/code.rates"], plainKeys := false, apart := false, laid := [("genlock/code.rates", laid_genlock_code_rates)] }
def TopPedestalCountedSaid : Prop := topPedestalCountedRow.holds Tryd.pinned (OpenSpec.ofChange topPedestalCountedSpec)

/-- ITS FALSE NEIGHBOUR: 'it returns false'. Refute it at one input. -/
def topPedestalCountedWrong : ChangeSpec := { name := "topPedestalCounted", fn := fun _ => fun
  | [d1, d2, d3] => { results := [.lit (.bool false)], args := [d1, d2, d3] }
  | _ => none }
def TopPedestalCountedWrongFalsely : Prop := topPedestalCountedRow.holds Tryd.pinned (OpenSpec.ofChange topPedestalCountedWrong)

/-- 'genlocktop.TopDollyTaped': WHATEVER THE INPUT: true; the input reads as it did. -/
def topDollyTapedSpec : ChangeSpec := { name := "topDollyTaped", fn := fun _ => fun
  | [d1, d2, d3] => { results := [.lit (.bool true)], args := [d1, d2, d3] }
  | _ => none }
def topDollyTapedRow : OpenClaim := { program := "ytpfngnmgipnmlaadoor", sum := "e0f3117481dba82d191534d579e509e9589a988de4d899e15b8717d94fb07a2b", func := "genlock/genlocktop.TopDollyTaped", spec := "topDollyTaped", unfollowed := true, recurses := true, named := ["genlock/tape.magic"], plainKeys := false, apart := false, laid := [("genlock/tape.magic", laid_genlock_tape_magic)] }
def TopDollyTapedSaid : Prop := topDollyTapedRow.holds Tryd.pinned (OpenSpec.ofChange topDollyTapedSpec)

/-- ITS FALSE NEIGHBOUR: 'it returns false'. Refute it at one input. -/
def topDollyTapedWrong : ChangeSpec := { name := "topDollyTaped", fn := fun _ => fun
  | [d1, d2, d3] => { results := [.lit (.bool false)], args := [d1, d2, d3] }
  | _ => none }
def TopDollyTapedWrongFalsely : Prop := topDollyTapedRow.holds Tryd.pinned (OpenSpec.ofChange topDollyTapedWrong)

/-- 'genlocktop.TopPedestalConformed': WHATEVER THE INPUT: true; the input reads as it did. -/
def topPedestalConformedSpec : ChangeSpec := { name := "topPedestalConformed", fn := fun _ => fun
  | [d1, d2, d3] => { results := [.lit (.bool true)], args := [d1, d2, d3] }
  | _ => none }
def topPedestalConformedRow : OpenClaim := { program := "ytpfngnmgipnmlaadoor", sum := "e0f3117481dba82d191534d579e509e9589a988de4d899e15b8717d94fb07a2b", func := "genlock/genlocktop.TopPedestalConformed", spec := "topPedestalConformed", unfollowed := true, recurses := true, named := ["genlock/tape.whole", "genlock/code.rates"], plainKeys := false, apart := false, laid := [("genlock/code.rates", laid_genlock_code_rates), ("genlock/tape.whole", laid_genlock_tape_whole)] }
def TopPedestalConformedSaid : Prop := topPedestalConformedRow.holds Tryd.pinned (OpenSpec.ofChange topPedestalConformedSpec)

/-- ITS FALSE NEIGHBOUR: 'it returns false'. Refute it at one input. -/
def topPedestalConformedWrong : ChangeSpec := { name := "topPedestalConformed", fn := fun _ => fun
  | [d1, d2, d3] => { results := [.lit (.bool false)], args := [d1, d2, d3] }
  | _ => none }
def TopPedestalConformedWrongFalsely : Prop := topPedestalConformedRow.holds Tryd.pinned (OpenSpec.ofChange topPedestalConformedWrong)

/-- 'genlocktop.TopDollySplit': WHATEVER THE INPUT: true; the input reads as it did. -/
def topDollySplitSpec : ChangeSpec := { name := "topDollySplit", fn := fun _ => fun
  | [d1, d2, d3] => { results := [.lit (.bool true)], args := [d1, d2, d3] }
  | _ => none }
def topDollySplitRow : OpenClaim := { program := "ytpfngnmgipnmlaadoor", sum := "e0f3117481dba82d191534d579e509e9589a988de4d899e15b8717d94fb07a2b", func := "genlock/genlocktop.TopDollySplit", spec := "topDollySplit", unfollowed := true, recurses := true, named := ["genlock/tape.magic", "genlock/tape.whole"], plainKeys := false, apart := false, laid := [("genlock/tape.whole", laid_genlock_tape_whole), ("genlock/tape.magic", laid_genlock_tape_magic)] }
def TopDollySplitSaid : Prop := topDollySplitRow.holds Tryd.pinned (OpenSpec.ofChange topDollySplitSpec)

/-- ITS FALSE NEIGHBOUR: 'it returns false'. Refute it at one input. -/
def topDollySplitWrong : ChangeSpec := { name := "topDollySplit", fn := fun _ => fun
  | [d1, d2, d3] => { results := [.lit (.bool false)], args := [d1, d2, d3] }
  | _ => none }
def TopDollySplitWrongFalsely : Prop := topDollySplitRow.holds Tryd.pinned (OpenSpec.ofChange topDollySplitWrong)

/-- 'genlocktop.TopPedestalLeft': WHATEVER THE INPUT: true; the input reads as it did. -/
def topPedestalLeftSpec : ChangeSpec := { name := "topPedestalLeft", fn := fun _ => fun
  | [d1, d2, d3] => { results := [.lit (.bool true)], args := [d1, d2, d3] }
  | _ => none }
def topPedestalLeftRow : OpenClaim := { program := "ytpfngnmgipnmlaadoor", sum := "e0f3117481dba82d191534d579e509e9589a988de4d899e15b8717d94fb07a2b", func := "genlock/genlocktop.TopPedestalLeft", spec := "topPedestalLeft", unfollowed := true, recurses := true, named := ["genlock/tape.whole", "genlock/code.rates", "genlock/tape.magic"], plainKeys := false, apart := false, laid := [("genlock/code.rates", laid_genlock_code_rates), ("genlock/tape.whole", laid_genlock_tape_whole), ("genlock/tape.magic", laid_genlock_tape_magic)] }
def TopPedestalLeftSaid : Prop := topPedestalLeftRow.holds Tryd.pinned (OpenSpec.ofChange topPedestalLeftSpec)

/-- ITS FALSE NEIGHBOUR: 'it returns false'. Refute it at one input. -/
def topPedestalLeftWrong : ChangeSpec := { name := "topPedestalLeft", fn := fun _ => fun
  | [d1, d2, d3] => { results := [.lit (.bool false)], args := [d1, d2, d3] }
  | _ => none }
def TopPedestalLeftWrongFalsely : Prop := topPedestalLeftRow.holds Tryd.pinned (OpenSpec.ofChange topPedestalLeftWrong)

/- THE SECOND FORM. 'bulk': how many values and letters a reading holds, each counted each time it is reached (what is shared counts as often as it is met; a slice's spare places count too). A statement '..UptoSaid' is the law's where the arguments, and the package variables that the reading takes, are together of bulk at most 1048576: NARROWER than '..Said'. Prove '..Said' where nothing that the law and all that it calls make is longer than what came in: it says more and counts as full. Else prove '..UptoSaid'. A law counts once. -/
mutual
def uptoBulk {H : Type} : DataW H → Nat
  | .lit (.string bytes) => bytes.length + 1
  | .lit _ => 1
  | .nil => 1
  | .ptr d => uptoBulk d + 1
  | .slice elems spare => uptoBulkAll elems + uptoBulkAll spare + 1
  | .agg parts => uptoBulkAll parts + 1
  | .iface _ d => uptoBulk d + 1
  | .map entries => uptoBulkEntries entries + 1
  | .held _ => 1
def uptoBulkAll {H : Type} : List (DataW H) → Nat
  | [] => 0
  | d :: r => uptoBulk d + uptoBulkAll r
def uptoBulkEntries {H : Type} : List (Lit × DataW H) → Nat
  | [] => 0
  | x :: r => uptoBulkEntry x + uptoBulkEntries r
def uptoBulkEntry {H : Type} : Lit × DataW H → Nat
  | (.string bytes, d) => bytes.length + uptoBulk d + 1
  | (_, d) => uptoBulk d + 1
 end
def uptoSmall : (H : Type) → List (DataW H) → Bool := fun _ ds => decide (uptoBulkAll ds ≤ 1048576)
def OpenSpec.upto (s : _root_.Go.ChangeSpec) : _root_.Go.OpenSpec := { _root_.Go.OpenSpec.ofChange s with cond := some uptoSmall }

/-- 'genlocktop.TopPedestalCounted', WHERE WHAT IT READS IS OF BULK AT MOST 1048576: true; the input reads as it did. -/
def topPedestalCountedUptoRow : OpenClaim := { program := "ytpfngnmgipnmlaadoor", sum := "e0f3117481dba82d191534d579e509e9589a988de4d899e15b8717d94fb07a2b", func := "genlock/genlocktop.TopPedestalCounted", spec := "topPedestalCounted", unfollowed := true, recurses := true, named := ["genlock/code.rates"], plainKeys := false, apart := false, laid := [("genlock/code.rates", laid_genlock_code_rates)], narrowed := true }
def TopPedestalCountedUptoSaid : Prop := topPedestalCountedUptoRow.holds Tryd.pinned (OpenSpec.upto topPedestalCountedSpec)

/-- 'genlocktop.TopDollyTaped', WHERE WHAT IT READS IS OF BULK AT MOST 1048576: true; the input reads as it did. -/
def topDollyTapedUptoRow : OpenClaim := { program := "ytpfngnmgipnmlaadoor", sum := "e0f3117481dba82d191534d579e509e9589a988de4d899e15b8717d94fb07a2b", func := "genlock/genlocktop.TopDollyTaped", spec := "topDollyTaped", unfollowed := true, recurses := true, named := ["genlock/tape.magic"], plainKeys := false, apart := false, laid := [("genlock/tape.magic", laid_genlock_tape_magic)], narrowed := true }
def TopDollyTapedUptoSaid : Prop := topDollyTapedUptoRow.holds Tryd.pinned (OpenSpec.upto topDollyTapedSpec)

/-- 'genlocktop.TopPedestalConformed', WHERE WHAT IT READS IS OF BULK AT MOST 1048576: true; the input reads as it did. -/
def topPedestalConformedUptoRow : OpenClaim := { program := "ytpfngnmgipnmlaadoor", sum := "e0f3117481dba82d191534d579e509e9589a988de4d899e15b8717d94fb07a2b", func := "genlock/genlocktop.TopPedestalConformed", spec := "topPedestalConformed", unfollowed := true, recurses := true, named := ["genlock/tape.whole", "genlock/code.rates"], plainKeys := false, apart := false, laid := [("genlock/code.rates", laid_genlock_code_rates), ("genlock/tape.whole", laid_genlock_tape_whole)], narrowed := true }
def TopPedestalConformedUptoSaid : Prop := topPedestalConformedUptoRow.holds Tryd.pinned (OpenSpec.upto topPedestalConformedSpec)

/-- 'genlocktop.TopDollySplit', WHERE WHAT IT READS IS OF BULK AT MOST 1048576: true; the input reads as it did. -/
def topDollySplitUptoRow : OpenClaim := { program := "ytpfngnmgipnmlaadoor", sum := "e0f3117481dba82d191534d579e509e9589a988de4d899e15b8717d94fb07a2b", func := "genlock/genlocktop.TopDollySplit", spec := "topDollySplit", unfollowed := true, recurses := true, named := ["genlock/tape.magic", "genlock/tape.whole"], plainKeys := false, apart := false, laid := [("genlock/tape.whole", laid_genlock_tape_whole), ("genlock/tape.magic", laid_genlock_tape_magic)], narrowed := true }
def TopDollySplitUptoSaid : Prop := topDollySplitUptoRow.holds Tryd.pinned (OpenSpec.upto topDollySplitSpec)

/-- 'genlocktop.TopPedestalLeft', WHERE WHAT IT READS IS OF BULK AT MOST 1048576: true; the input reads as it did. -/
def topPedestalLeftUptoRow : OpenClaim := { program := "ytpfngnmgipnmlaadoor", sum := "e0f3117481dba82d191534d579e509e9589a988de4d899e15b8717d94fb07a2b", func := "genlock/genlocktop.TopPedestalLeft", spec := "topPedestalLeft", unfollowed := true, recurses := true, named := ["genlock/tape.whole", "genlock/code.rates", "genlock/tape.magic"], plainKeys := false, apart := false, laid := [("genlock/code.rates", laid_genlock_code_rates), ("genlock/tape.whole", laid_genlock_tape_whole), ("genlock/tape.magic", laid_genlock_tape_magic)], narrowed := true }
def TopPedestalLeftUptoSaid : Prop := topPedestalLeftUptoRow.holds Tryd.pinned (OpenSpec.upto topPedestalLeftSpec)

end Rows
end Go.Proofs.YtpfngnmgipnmlaaDoor
