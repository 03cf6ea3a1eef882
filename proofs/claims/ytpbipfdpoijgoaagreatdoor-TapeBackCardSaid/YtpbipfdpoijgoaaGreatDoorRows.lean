/-
  NARROWER THAN 'FOR EVERY INPUT', by the rows' own cells (each row's printed sentence says how): TapeReels: laid · TapeReads: laid · TapeLists: laid · TapeTrims: laid · TapeRates: laid · TapeTorn: laid · TapeTraces: laid · TapeFrames: laid · TapeTurns: laid · TapeParts: laid · TapeJoins: laid · TapeTexts: laid · TapeBack: laid.
  DERIVED. THE GIVEN ROWS OF THIS SEAT. 13 by the template 'for every input the law returns true; each argument reads behind the call as it read before'; 0 by the template 'total and deterministic' (their statements: YtpbipfdpoijgoaaGreatDoorTotals.lean).
  GIVEN WITH THE SEED: the statements are not yours to turn. If you find one false, say at which input.
  Laid BY PROGRAM, IN A SANDBOX (cutbox-rows.mjs): the forced cells as the released guide's own fill.sh prints them over the translation 9912e4bb9b6b3038… (all of the seat's roots in one cut). By AI agents, Wed Nov 11 2026. No macro, syntax, notation, axiom, sorry.
-/
import Derived.Test.YtpbipfdpoijgoaaGreatDoorChecked
import GoSem.PinnedTables
import GoSem.Claim
import GoSem.ClaimJoined
import GoSem.ClaimMapViews
import Derived.JoinedTies
import Derived.KernelRfl
namespace Go.Proofs.YtpbipfdpoijgoaaGreatDoor
/- THE CELL 'sum', in the pinned program and in every row, IS THE sha256 OF THE DUMP (.gsa) THAT YtpbipfdpoijgoaaGreatDoorProg.lean LOADS. Nothing in Lean hashes anything: it is a label: what it is worth is what the hold of that sum in a sandbox is worth. -/
noncomputable def Tryz.pinned : Pinned := { name := "ytpbipfdpoijgoaagreatdoor", sum := "9912e4bb9b6b30383bf9a7a82882caeb51f5727fa9db79fc7794a7ab61a1023a", checked := Tryz.checked }
namespace Rows
def none {H : Type} : Left H := { results := [], args := [] }

/- WHAT THE LISTED PACKAGE-LEVEL VARIABLES READ AS WHEN THE CALL BEGINS. Each datum BY PROGRAM (the guide's laid-datum.mjs) off the statement by which the dump's own 'gosem.cut.vars' lays the variable. In a bare row this is a premise. The card (YtpbipfdpoijgoaaGreatDoorCards.lean) ties it to the program's text. -/
def laid_math_bits_deBruijn32tab {H : Type} : DataW H := .agg [.lit (.int .u8 0), .lit (.int .u8 1), .lit (.int .u8 28), .lit (.int .u8 2), .lit (.int .u8 29), .lit (.int .u8 14), .lit (.int .u8 24), .lit (.int .u8 3), .lit (.int .u8 30), .lit (.int .u8 22), .lit (.int .u8 20), .lit (.int .u8 15), .lit (.int .u8 25), .lit (.int .u8 17), .lit (.int .u8 4), .lit (.int .u8 8), .lit (.int .u8 31), .lit (.int .u8 27), .lit (.int .u8 13), .lit (.int .u8 23), .lit (.int .u8 21), .lit (.int .u8 19), .lit (.int .u8 16), .lit (.int .u8 7), .lit (.int .u8 26), .lit (.int .u8 12), .lit (.int .u8 18), .lit (.int .u8 6), .lit (.int .u8 11), .lit (.int .u8 5), .lit (.int .u8 10), .lit (.int .u8 9)]
def laid_math_bits_deBruijn64tab {H : Type} : DataW H := .agg [.lit (.int .u8 0), .lit (.int .u8 1), .lit (.int .u8 56), .lit (.int .u8 2), .lit (.int .u8 57), .lit (.int .u8 49), .lit (.int .u8 28), .lit (.int .u8 3), .lit (.int .u8 61), .lit (.int .u8 58), .lit (.int .u8 42), .lit (.int .u8 50), .lit (.int .u8 38), .lit (.int .u8 29), .lit (.int .u8 17), .lit (.int .u8 4), .lit (.int .u8 62), .lit (.int .u8 47), .lit (.int .u8 59), .lit (.int .u8 36), .lit (.int .u8 45), .lit (.int .u8 43), .lit (.int .u8 51), .lit (.int .u8 22), .lit (.int .u8 53), .lit (.int .u8 39), .lit (.int .u8 33), .lit (.int .u8 30), .lit (.int .u8 24), .lit (.int .u8 18), .lit (.int .u8 12), .lit (.int .u8 5), .lit (.int .u8 63), .lit (.int .u8 55), .lit (.int .u8 48), .lit (.int .u8 27), .lit (.int .u8 60), .lit (.int .u8 41), .lit (.int .u8 37), .lit (.int .u8 16), .lit (.int .u8 46), .lit (.int .u8 35), .lit (.int .u8 44), .lit (.int .u8 21), .lit (.int .u8 52), .lit (.int .u8 32), .lit (.int .u8 23), .lit (.int .u8 11), .lit (.int .u8 54), .lit (.int .u8 26), .lit (.int .u8 40), .lit (.int .u8 15), .lit (.int .u8 34), .lit (.int .u8 20), .lit (.int .u8 31), .lit (.int .u8 10), .lit (.int .u8 25), .lit (.int .u8 14), .lit (.int .u8 19), .lit (.int .u8 9), .lit (.int .u8 13), .lit (.int .u8 8), .lit (.int .u8 7), .lit (.int .u8 6)]
def laid_internal_strconv_uint64pow10 {H : Type} : DataW H := .agg [.lit (.int .u64 1), .lit (.int .u64 10), .lit (.int .u64 100), .lit (.int .u64 1000), .lit (.int .u64 10000), .lit (.int .u64 100000), .lit (.int .u64 1000000), .lit (.int .u64 10000000), .lit (.int .u64 100000000), .lit (.int .u64 1000000000), .lit (.int .u64 10000000000), .lit (.int .u64 100000000000), .lit (.int .u64 1000000000000), .lit (.int .u64 10000000000000), .lit (.int .u64 100000000000000), .lit (.int .u64 1000000000000000), .lit (.int .u64 10000000000000000), .lit (.int .u64 100000000000000000), .lit (.int .u64 1000000000000000000), .lit (.int .u64 10000000000000000000)]
def laid_genlock_code_rates {H : Type} : DataW H := .agg [.lit (.int .i64 24), .lit (.int .i64 25), .lit (.int .i64 30)]
def laid_genlock_tape_whole {H : Type} : DataW H := .agg [.lit (.int .i64 1), .lit (.int .i64 1)]
def laid_genlock_tape_magic {H : Type} : DataW H := .agg [.lit (.int .u8 82), .lit (.int .u8 69), .lit (.int .u8 69), .lit (.int .u8 76)]
def laid_unicode_utf8_acceptRanges {H : Type} : DataW H := .agg [.agg [.lit (.int .u8 128), .lit (.int .u8 191)], .agg [.lit (.int .u8 160), .lit (.int .u8 191)], .agg [.lit (.int .u8 128), .lit (.int .u8 159)], .agg [.lit (.int .u8 144), .lit (.int .u8 191)], .agg [.lit (.int .u8 128), .lit (.int .u8 143)], .agg [.lit (.int .u8 0), .lit (.int .u8 0)], .agg [.lit (.int .u8 0), .lit (.int .u8 0)], .agg [.lit (.int .u8 0), .lit (.int .u8 0)], .agg [.lit (.int .u8 0), .lit (.int .u8 0)], .agg [.lit (.int .u8 0), .lit (.int .u8 0)], .agg [.lit (.int .u8 0), .lit (.int .u8 0)], .agg [.lit (.int .u8 0), .lit (.int .u8 0)], .agg [.lit (.int .u8 0), .lit (.int .u8 0)], .agg [.lit (.int .u8 0), .lit (.int .u8 0)], .agg [.lit (.int .u8 0), .lit (.int .u8 0)], .agg [.lit (.int .u8 0), .lit (.int .u8 0)]]
def laid_strconv_ErrRange {H : Type} : DataW H := .iface "*errors.errorString" (.ptr (.agg [.lit (.string [118, 97, 108, 117, 101, 32, 111, 117, 116, 32, 111, 102, 32, 114, 97, 110, 103, 101])]))
def laid_strconv_ErrSyntax {H : Type} : DataW H := .iface "*errors.errorString" (.ptr (.agg [.lit (.string [105, 110, 118, 97, 108, 105, 100, 32, 115, 121, 110, 116, 97, 120])]))
/-- One of Go's own tables, pinned by name: the form's constant. -/
def laid_unicode_utf8_first : DataW Unit := Go.Pinned.utf8First

/-- 'genlocklaw08.TapeReels': WHATEVER THE INPUT: true; the input reads as it did. -/
def tapeReelsSpec : ChangeSpec := { name := "tapeReels", fn := fun _ => fun
  | [d1, d2] => { results := [.lit (.bool true)], args := [d1, d2] }
  | _ => none }
def tapeReelsRow : OpenClaim := { program := "ytpbipfdpoijgoaagreatdoor", sum := "9912e4bb9b6b30383bf9a7a82882caeb51f5727fa9db79fc7794a7ab61a1023a", func := "genlock/genlocklaw08.TapeReels", spec := "tapeReels", inPlace := ["internal/abi.NoEscape", "internal/bytealg.MakeNoZero"], unfollowed := true, recurses := true, named := ["genlock/tape.magic", "genlock/tape.whole", "genlock/code.rates", "internal/strconv.uint64pow10", "math/bits.deBruijn32tab", "math/bits.deBruijn64tab"], plainKeys := false, apart := false, laid := [("math/bits.deBruijn32tab", laid_math_bits_deBruijn32tab), ("math/bits.deBruijn64tab", laid_math_bits_deBruijn64tab), ("internal/strconv.uint64pow10", laid_internal_strconv_uint64pow10), ("genlock/code.rates", laid_genlock_code_rates), ("genlock/tape.whole", laid_genlock_tape_whole), ("genlock/tape.magic", laid_genlock_tape_magic)] }
def TapeReelsSaid : Prop := tapeReelsRow.holds Tryz.pinned (OpenSpec.ofChange tapeReelsSpec)

/-- ITS FALSE NEIGHBOUR: 'it returns false'. Refute it at one input. -/
def tapeReelsWrong : ChangeSpec := { name := "tapeReels", fn := fun _ => fun
  | [d1, d2] => { results := [.lit (.bool false)], args := [d1, d2] }
  | _ => none }
def TapeReelsWrongFalsely : Prop := tapeReelsRow.holds Tryz.pinned (OpenSpec.ofChange tapeReelsWrong)

/-- 'genlocklaw08.TapeReads': WHATEVER THE INPUT: true; the input reads as it did. -/
def tapeReadsSpec : ChangeSpec := { name := "tapeReads", fn := fun _ => fun
  | [d] => { results := [.lit (.bool true)], args := [d] }
  | _ => none }
def tapeReadsRow : OpenClaim := { program := "ytpbipfdpoijgoaagreatdoor", sum := "9912e4bb9b6b30383bf9a7a82882caeb51f5727fa9db79fc7794a7ab61a1023a", func := "genlock/genlocklaw08.TapeReads", spec := "tapeReads", inPlace := ["internal/abi.NoEscape", "internal/bytealg.MakeNoZero"], unfollowed := true, recurses := true, named := ["genlock/tape.magic", "genlock/tape.whole", "genlock/code.rates", "internal/strconv.uint64pow10", "math/bits.deBruijn32tab", "math/bits.deBruijn64tab"], plainKeys := false, apart := false, laid := [("math/bits.deBruijn32tab", laid_math_bits_deBruijn32tab), ("math/bits.deBruijn64tab", laid_math_bits_deBruijn64tab), ("internal/strconv.uint64pow10", laid_internal_strconv_uint64pow10), ("genlock/code.rates", laid_genlock_code_rates), ("genlock/tape.whole", laid_genlock_tape_whole), ("genlock/tape.magic", laid_genlock_tape_magic)] }
def TapeReadsSaid : Prop := tapeReadsRow.holds Tryz.pinned (OpenSpec.ofChange tapeReadsSpec)

/-- ITS FALSE NEIGHBOUR: 'it returns false'. Refute it at one input. -/
def tapeReadsWrong : ChangeSpec := { name := "tapeReads", fn := fun _ => fun
  | [d] => { results := [.lit (.bool false)], args := [d] }
  | _ => none }
def TapeReadsWrongFalsely : Prop := tapeReadsRow.holds Tryz.pinned (OpenSpec.ofChange tapeReadsWrong)

/-- 'genlocklaw08.TapeLists': WHATEVER THE INPUT: true; the input reads as it did. -/
def tapeListsSpec : ChangeSpec := { name := "tapeLists", fn := fun _ => fun
  | [d1, d2] => { results := [.lit (.bool true)], args := [d1, d2] }
  | _ => none }
def tapeListsRow : OpenClaim := { program := "ytpbipfdpoijgoaagreatdoor", sum := "9912e4bb9b6b30383bf9a7a82882caeb51f5727fa9db79fc7794a7ab61a1023a", func := "genlock/genlocklaw08.TapeLists", spec := "tapeLists", inPlace := ["internal/abi.NoEscape", "internal/bytealg.MakeNoZero"], unfollowed := true, recurses := true, named := ["genlock/tape.magic", "genlock/tape.whole", "genlock/code.rates", "internal/strconv.uint64pow10", "math/bits.deBruijn32tab", "math/bits.deBruijn64tab"], plainKeys := false, apart := false, laid := [("math/bits.deBruijn32tab", laid_math_bits_deBruijn32tab), ("math/bits.deBruijn64tab", laid_math_bits_deBruijn64tab), ("internal/strconv.uint64pow10", laid_internal_strconv_uint64pow10), ("genlock/code.rates", laid_genlock_code_rates), ("genlock/tape.whole", laid_genlock_tape_whole), ("genlock/tape.magic", laid_genlock_tape_magic)] }
def TapeListsSaid : Prop := tapeListsRow.holds Tryz.pinned (OpenSpec.ofChange tapeListsSpec)

/-- ITS FALSE NEIGHBOUR: 'it returns false'. Refute it at one input. -/
def tapeListsWrong : ChangeSpec := { name := "tapeLists", fn := fun _ => fun
  | [d1, d2] => { results := [.lit (.bool false)], args := [d1, d2] }
  | _ => none }
def TapeListsWrongFalsely : Prop := tapeListsRow.holds Tryz.pinned (OpenSpec.ofChange tapeListsWrong)

/-- 'genlocklaw08.TapeTrims': WHATEVER THE INPUT: true; the input reads as it did. -/
def tapeTrimsSpec : ChangeSpec := { name := "tapeTrims", fn := fun _ => fun
  | [d1, d2, d3] => { results := [.lit (.bool true)], args := [d1, d2, d3] }
  | _ => none }
def tapeTrimsRow : OpenClaim := { program := "ytpbipfdpoijgoaagreatdoor", sum := "9912e4bb9b6b30383bf9a7a82882caeb51f5727fa9db79fc7794a7ab61a1023a", func := "genlock/genlocklaw08.TapeTrims", spec := "tapeTrims", inPlace := ["internal/abi.NoEscape", "internal/bytealg.MakeNoZero"], unfollowed := true, recurses := true, named := ["genlock/tape.magic", "genlock/tape.whole", "genlock/code.rates", "internal/strconv.uint64pow10", "math/bits.deBruijn32tab", "math/bits.deBruijn64tab"], plainKeys := false, apart := false, laid := [("math/bits.deBruijn32tab", laid_math_bits_deBruijn32tab), ("math/bits.deBruijn64tab", laid_math_bits_deBruijn64tab), ("internal/strconv.uint64pow10", laid_internal_strconv_uint64pow10), ("genlock/code.rates", laid_genlock_code_rates), ("genlock/tape.whole", laid_genlock_tape_whole), ("genlock/tape.magic", laid_genlock_tape_magic)] }
def TapeTrimsSaid : Prop := tapeTrimsRow.holds Tryz.pinned (OpenSpec.ofChange tapeTrimsSpec)

/-- ITS FALSE NEIGHBOUR: 'it returns false'. Refute it at one input. -/
def tapeTrimsWrong : ChangeSpec := { name := "tapeTrims", fn := fun _ => fun
  | [d1, d2, d3] => { results := [.lit (.bool false)], args := [d1, d2, d3] }
  | _ => none }
def TapeTrimsWrongFalsely : Prop := tapeTrimsRow.holds Tryz.pinned (OpenSpec.ofChange tapeTrimsWrong)

/-- 'genlocklaw08.TapeRates': WHATEVER THE INPUT: true; the input reads as it did. -/
def tapeRatesSpec : ChangeSpec := { name := "tapeRates", fn := fun _ => fun
  | [d1, d2, d3] => { results := [.lit (.bool true)], args := [d1, d2, d3] }
  | _ => none }
def tapeRatesRow : OpenClaim := { program := "ytpbipfdpoijgoaagreatdoor", sum := "9912e4bb9b6b30383bf9a7a82882caeb51f5727fa9db79fc7794a7ab61a1023a", func := "genlock/genlocklaw08.TapeRates", spec := "tapeRates", inPlace := ["internal/abi.NoEscape", "internal/bytealg.MakeNoZero"], unfollowed := true, recurses := true, named := ["genlock/tape.magic", "genlock/tape.whole", "genlock/code.rates", "internal/strconv.uint64pow10", "math/bits.deBruijn32tab", "math/bits.deBruijn64tab"], plainKeys := false, apart := false, laid := [("math/bits.deBruijn32tab", laid_math_bits_deBruijn32tab), ("math/bits.deBruijn64tab", laid_math_bits_deBruijn64tab), ("internal/strconv.uint64pow10", laid_internal_strconv_uint64pow10), ("genlock/code.rates", laid_genlock_code_rates), ("genlock/tape.whole", laid_genlock_tape_whole), ("genlock/tape.magic", laid_genlock_tape_magic)] }
def TapeRatesSaid : Prop := tapeRatesRow.holds Tryz.pinned (OpenSpec.ofChange tapeRatesSpec)

/-- ITS FALSE NEIGHBOUR: 'it returns false'. Refute it at one input. -/
def tapeRatesWrong : ChangeSpec := { name := "tapeRates", fn := fun _ => fun
  | [d1, d2, d3] => { results := [.lit (.bool false)], args := [d1, d2, d3] }
  | _ => none }
def TapeRatesWrongFalsely : Prop := tapeRatesRow.holds Tryz.pinned (OpenSpec.ofChange tapeRatesWrong)

/-- 'genlocklaw08.TapeTorn': WHATEVER THE INPUT: true; the input reads as it did. -/
def tapeTornSpec : ChangeSpec := { name := "tapeTorn", fn := fun _ => fun
  | [d1, d2] => { results := [.lit (.bool true)], args := [d1, d2] }
  | _ => none }
def tapeTornRow : OpenClaim := { program := "ytpbipfdpoijgoaagreatdoor", sum := "9912e4bb9b6b30383bf9a7a82882caeb51f5727fa9db79fc7794a7ab61a1023a", func := "genlock/genlocklaw08.TapeTorn", spec := "tapeTorn", inPlace := ["internal/abi.NoEscape", "internal/bytealg.MakeNoZero"], unfollowed := true, recurses := true, named := ["genlock/tape.magic", "genlock/tape.whole", "genlock/code.rates", "internal/strconv.uint64pow10", "math/bits.deBruijn32tab", "math/bits.deBruijn64tab"], plainKeys := false, apart := false, laid := [("math/bits.deBruijn32tab", laid_math_bits_deBruijn32tab), ("math/bits.deBruijn64tab", laid_math_bits_deBruijn64tab), ("internal/strconv.uint64pow10", laid_internal_strconv_uint64pow10), ("genlock/code.rates", laid_genlock_code_rates), ("genlock/tape.whole", laid_genlock_tape_whole), ("genlock/tape.magic", laid_genlock_tape_magic)] }
def TapeTornSaid : Prop := tapeTornRow.holds Tryz.pinned (OpenSpec.ofChange tapeTornSpec)

/-- ITS FALSE NEIGHBOUR: 'it returns false'. Refute it at one input. -/
def tapeTornWrong : ChangeSpec := { name := "tapeTorn", fn := fun _ => fun
  | [d1, d2] => { results := [.lit (.bool false)], args := [d1, d2] }
  | _ => none }
def TapeTornWrongFalsely : Prop := tapeTornRow.holds Tryz.pinned (OpenSpec.ofChange tapeTornWrong)

/-- 'genlocklaw08.TapeTraces': WHATEVER THE INPUT: true; the input reads as it did. -/
def tapeTracesSpec : ChangeSpec := { name := "tapeTraces", fn := fun _ => fun
  | [d1, d2, d3] => { results := [.lit (.bool true)], args := [d1, d2, d3] }
  | _ => none }
def tapeTracesRow : OpenClaim := { program := "ytpbipfdpoijgoaagreatdoor", sum := "9912e4bb9b6b30383bf9a7a82882caeb51f5727fa9db79fc7794a7ab61a1023a", func := "genlock/genlocklaw08.TapeTraces", spec := "tapeTraces", inPlace := ["internal/abi.NoEscape", "internal/bytealg.MakeNoZero"], unfollowed := true, recurses := true, named := ["genlock/tape.magic", "genlock/tape.whole", "genlock/code.rates", "internal/strconv.uint64pow10", "math/bits.deBruijn32tab", "math/bits.deBruijn64tab"], plainKeys := false, apart := false, laid := [("math/bits.deBruijn32tab", laid_math_bits_deBruijn32tab), ("math/bits.deBruijn64tab", laid_math_bits_deBruijn64tab), ("internal/strconv.uint64pow10", laid_internal_strconv_uint64pow10), ("genlock/code.rates", laid_genlock_code_rates), ("genlock/tape.whole", laid_genlock_tape_whole), ("genlock/tape.magic", laid_genlock_tape_magic)] }
def TapeTracesSaid : Prop := tapeTracesRow.holds Tryz.pinned (OpenSpec.ofChange tapeTracesSpec)

/-- ITS FALSE NEIGHBOUR: 'it returns false'. Refute it at one input. -/
def tapeTracesWrong : ChangeSpec := { name := "tapeTraces", fn := fun _ => fun
  | [d1, d2, d3] => { results := [.lit (.bool false)], args := [d1, d2, d3] }
  | _ => none }
def TapeTracesWrongFalsely : Prop := tapeTracesRow.holds Tryz.pinned (OpenSpec.ofChange tapeTracesWrong)

/-- 'genlocklaw08.TapeFrames': WHATEVER THE INPUT: true; the input reads as it did. -/
def tapeFramesSpec : ChangeSpec := { name := "tapeFrames", fn := fun _ => fun
  | [d1, d2] => { results := [.lit (.bool true)], args := [d1, d2] }
  | _ => none }
def tapeFramesRow : OpenClaim := { program := "ytpbipfdpoijgoaagreatdoor", sum := "9912e4bb9b6b30383bf9a7a82882caeb51f5727fa9db79fc7794a7ab61a1023a", func := "genlock/genlocklaw08.TapeFrames", spec := "tapeFrames", inPlace := ["internal/abi.NoEscape", "internal/bytealg.MakeNoZero"], unfollowed := true, recurses := true, named := ["genlock/tape.magic", "genlock/tape.whole", "genlock/code.rates", "internal/strconv.uint64pow10", "math/bits.deBruijn32tab", "math/bits.deBruijn64tab"], plainKeys := false, apart := false, laid := [("math/bits.deBruijn32tab", laid_math_bits_deBruijn32tab), ("math/bits.deBruijn64tab", laid_math_bits_deBruijn64tab), ("internal/strconv.uint64pow10", laid_internal_strconv_uint64pow10), ("genlock/code.rates", laid_genlock_code_rates), ("genlock/tape.whole", laid_genlock_tape_whole), ("genlock/tape.magic", laid_genlock_tape_magic)] }
def TapeFramesSaid : Prop := tapeFramesRow.holds Tryz.pinned (OpenSpec.ofChange tapeFramesSpec)

/-- ITS FALSE NEIGHBOUR: 'it returns false'. Refute it at one input. -/
def tapeFramesWrong : ChangeSpec := { name := "tapeFrames", fn := fun _ => fun
  | [d1, d2] => { results := [.lit (.bool false)], args := [d1, d2] }
  | _ => none }
def TapeFramesWrongFalsely : Prop := tapeFramesRow.holds Tryz.pinned (OpenSpec.ofChange tapeFramesWrong)

/-- 'genlocklaw08.TapeTurns': WHATEVER THE INPUT: true; the input reads as it did. -/
def tapeTurnsSpec : ChangeSpec := { name := "tapeTurns", fn := fun _ => fun
  | [d1, d2, d3] => { results := [.lit (.bool true)], args := [d1, d2, d3] }
  | _ => none }
def tapeTurnsRow : OpenClaim := { program := "ytpbipfdpoijgoaagreatdoor", sum := "9912e4bb9b6b30383bf9a7a82882caeb51f5727fa9db79fc7794a7ab61a1023a", func := "genlock/genlocklaw08.TapeTurns", spec := "tapeTurns", inPlace := ["internal/abi.NoEscape", "internal/bytealg.MakeNoZero"], unfollowed := true, recurses := true, named := ["genlock/tape.magic", "genlock/tape.whole", "genlock/code.rates", "internal/strconv.uint64pow10", "math/bits.deBruijn32tab", "math/bits.deBruijn64tab"], plainKeys := false, apart := false, laid := [("math/bits.deBruijn32tab", laid_math_bits_deBruijn32tab), ("math/bits.deBruijn64tab", laid_math_bits_deBruijn64tab), ("internal/strconv.uint64pow10", laid_internal_strconv_uint64pow10), ("genlock/code.rates", laid_genlock_code_rates), ("genlock/tape.whole", laid_genlock_tape_whole), ("genlock/tape.magic", laid_genlock_tape_magic)] }
def TapeTurnsSaid : Prop := tapeTurnsRow.holds Tryz.pinned (OpenSpec.ofChange tapeTurnsSpec)

/-- ITS FALSE NEIGHBOUR: 'it returns false'. Refute it at one input. -/
def tapeTurnsWrong : ChangeSpec := { name := "tapeTurns", fn := fun _ => fun
  | [d1, d2, d3] => { results := [.lit (.bool false)], args := [d1, d2, d3] }
  | _ => none }
def TapeTurnsWrongFalsely : Prop := tapeTurnsRow.holds Tryz.pinned (OpenSpec.ofChange tapeTurnsWrong)

/-- 'genlocklaw08.TapeParts': WHATEVER THE INPUT: true; the input reads as it did. -/
def tapePartsSpec : ChangeSpec := { name := "tapeParts", fn := fun _ => fun
  | [d1, d2] => { results := [.lit (.bool true)], args := [d1, d2] }
  | _ => none }
def tapePartsRow : OpenClaim := { program := "ytpbipfdpoijgoaagreatdoor", sum := "9912e4bb9b6b30383bf9a7a82882caeb51f5727fa9db79fc7794a7ab61a1023a", func := "genlock/genlocklaw08.TapeParts", spec := "tapeParts", inPlace := ["internal/abi.NoEscape", "internal/bytealg.MakeNoZero"], unfollowed := true, recurses := true, named := ["genlock/tape.magic", "genlock/tape.whole", "genlock/code.rates", "internal/strconv.uint64pow10", "math/bits.deBruijn32tab", "math/bits.deBruijn64tab"], plainKeys := false, apart := false, laid := [("math/bits.deBruijn32tab", laid_math_bits_deBruijn32tab), ("math/bits.deBruijn64tab", laid_math_bits_deBruijn64tab), ("internal/strconv.uint64pow10", laid_internal_strconv_uint64pow10), ("genlock/code.rates", laid_genlock_code_rates), ("genlock/tape.whole", laid_genlock_tape_whole), ("genlock/tape.magic", laid_genlock_tape_magic)] }
def TapePartsSaid : Prop := tapePartsRow.holds Tryz.pinned (OpenSpec.ofChange tapePartsSpec)

/-- ITS FALSE NEIGHBOUR: 'it returns false'. Refute it at one input. -/
def tapePartsWrong : ChangeSpec := { name := "tapeParts", fn := fun _ => fun
  | [d1, d2] => { results := [.lit (.bool false)], args := [d1, d2] }
  | _ => none }
def TapePartsWrongFalsely : Prop := tapePartsRow.holds Tryz.pinned (OpenSpec.ofChange tapePartsWrong)

/-- 'genlocklaw08.TapeJoins': WHATEVER THE INPUT: true; the input reads as it did. -/
def tapeJoinsSpec : ChangeSpec := { name := "tapeJoins", fn := fun _ => fun
  | [d1, d2, d3] => { results := [.lit (.bool true)], args := [d1, d2, d3] }
  | _ => none }
def tapeJoinsRow : OpenClaim := { program := "ytpbipfdpoijgoaagreatdoor", sum := "9912e4bb9b6b30383bf9a7a82882caeb51f5727fa9db79fc7794a7ab61a1023a", func := "genlock/genlocklaw08.TapeJoins", spec := "tapeJoins", inPlace := ["internal/abi.NoEscape", "internal/bytealg.MakeNoZero"], unfollowed := true, recurses := true, named := ["genlock/tape.magic", "genlock/tape.whole", "genlock/code.rates", "internal/strconv.uint64pow10", "math/bits.deBruijn32tab", "math/bits.deBruijn64tab"], plainKeys := false, apart := false, laid := [("math/bits.deBruijn32tab", laid_math_bits_deBruijn32tab), ("math/bits.deBruijn64tab", laid_math_bits_deBruijn64tab), ("internal/strconv.uint64pow10", laid_internal_strconv_uint64pow10), ("genlock/code.rates", laid_genlock_code_rates), ("genlock/tape.whole", laid_genlock_tape_whole), ("genlock/tape.magic", laid_genlock_tape_magic)] }
def TapeJoinsSaid : Prop := tapeJoinsRow.holds Tryz.pinned (OpenSpec.ofChange tapeJoinsSpec)

/-- ITS FALSE NEIGHBOUR: 'it returns false'. Refute it at one input. -/
def tapeJoinsWrong : ChangeSpec := { name := "tapeJoins", fn := fun _ => fun
  | [d1, d2, d3] => { results := [.lit (.bool false)], args := [d1, d2, d3] }
  | _ => none }
def TapeJoinsWrongFalsely : Prop := tapeJoinsRow.holds Tryz.pinned (OpenSpec.ofChange tapeJoinsWrong)

/-- 'genlocklaw08.TapeTexts': WHATEVER THE INPUT: true; the input reads as it did. -/
def tapeTextsSpec : ChangeSpec := { name := "tapeTexts", fn := fun _ => fun
  | [d1, d2] => { results := [.lit (.bool true)], args := [d1, d2] }
  | _ => none }
def tapeTextsRow : OpenClaim := { program := "ytpbipfdpoijgoaagreatdoor", sum := "9912e4bb9b6b30383bf9a7a82882caeb51f5727fa9db79fc7794a7ab61a1023a", func := "genlock/genlocklaw08.TapeTexts", spec := "tapeTexts", inPlace := ["internal/abi.NoEscape", "internal/bytealg.MakeNoZero", "internal/bytealg.IndexByteString", "internal/bytealg.CountString", "internal/bytealg.IndexString"], unfollowed := true, recurses := true, named := ["genlock/tape.magic", "genlock/tape.whole", "genlock/code.rates", "internal/strconv.uint64pow10", "math/bits.deBruijn32tab", "math/bits.deBruijn64tab", "unicode/utf8.first", "unicode/utf8.acceptRanges", "internal/bytealg.MaxLen", "strconv.ErrSyntax", "strconv.ErrRange"], plainKeys := false, apart := false, laid := [("math/bits.deBruijn32tab", laid_math_bits_deBruijn32tab), ("math/bits.deBruijn64tab", laid_math_bits_deBruijn64tab), ("internal/strconv.uint64pow10", laid_internal_strconv_uint64pow10), ("unicode/utf8.acceptRanges", laid_unicode_utf8_acceptRanges), ("strconv.ErrRange", laid_strconv_ErrRange), ("strconv.ErrSyntax", laid_strconv_ErrSyntax), ("genlock/code.rates", laid_genlock_code_rates), ("genlock/tape.whole", laid_genlock_tape_whole), ("genlock/tape.magic", laid_genlock_tape_magic), ("unicode/utf8.first", laid_unicode_utf8_first)] }
def TapeTextsSaid : Prop := tapeTextsRow.holds Tryz.pinned (OpenSpec.ofChange tapeTextsSpec)

/-- ITS FALSE NEIGHBOUR: 'it returns false'. Refute it at one input. -/
def tapeTextsWrong : ChangeSpec := { name := "tapeTexts", fn := fun _ => fun
  | [d1, d2] => { results := [.lit (.bool false)], args := [d1, d2] }
  | _ => none }
def TapeTextsWrongFalsely : Prop := tapeTextsRow.holds Tryz.pinned (OpenSpec.ofChange tapeTextsWrong)

/-- 'genlocklaw08.TapeBack': WHATEVER THE INPUT: true; the input reads as it did. -/
def tapeBackSpec : ChangeSpec := { name := "tapeBack", fn := fun _ => fun
  | [d1, d2] => { results := [.lit (.bool true)], args := [d1, d2] }
  | _ => none }
def tapeBackRow : OpenClaim := { program := "ytpbipfdpoijgoaagreatdoor", sum := "9912e4bb9b6b30383bf9a7a82882caeb51f5727fa9db79fc7794a7ab61a1023a", func := "genlock/genlocklaw08.TapeBack", spec := "tapeBack", inPlace := ["internal/abi.NoEscape", "internal/bytealg.MakeNoZero", "internal/bytealg.IndexByteString", "internal/bytealg.CountString", "internal/bytealg.IndexString"], unfollowed := true, recurses := true, named := ["genlock/tape.magic", "genlock/tape.whole", "genlock/code.rates", "internal/strconv.uint64pow10", "math/bits.deBruijn32tab", "math/bits.deBruijn64tab", "unicode/utf8.first", "unicode/utf8.acceptRanges", "internal/bytealg.MaxLen", "strconv.ErrSyntax", "strconv.ErrRange"], plainKeys := false, apart := false, laid := [("math/bits.deBruijn32tab", laid_math_bits_deBruijn32tab), ("math/bits.deBruijn64tab", laid_math_bits_deBruijn64tab), ("internal/strconv.uint64pow10", laid_internal_strconv_uint64pow10), ("unicode/utf8.acceptRanges", laid_unicode_utf8_acceptRanges), ("strconv.ErrRange", laid_strconv_ErrRange), ("strconv.ErrSyntax", laid_strconv_ErrSyntax), ("genlock/code.rates", laid_genlock_code_rates), ("genlock/tape.whole", laid_genlock_tape_whole), ("genlock/tape.magic", laid_genlock_tape_magic), ("unicode/utf8.first", laid_unicode_utf8_first)] }
def TapeBackSaid : Prop := tapeBackRow.holds Tryz.pinned (OpenSpec.ofChange tapeBackSpec)

/-- ITS FALSE NEIGHBOUR: 'it returns false'. Refute it at one input. -/
def tapeBackWrong : ChangeSpec := { name := "tapeBack", fn := fun _ => fun
  | [d1, d2] => { results := [.lit (.bool false)], args := [d1, d2] }
  | _ => none }
def TapeBackWrongFalsely : Prop := tapeBackRow.holds Tryz.pinned (OpenSpec.ofChange tapeBackWrong)

/- THE SECOND FORM. 'bulk': how many values and letters a reading holds, each counted each time it is reached (what is shared counts as often as it is met; a slice's spare places count too). A statement '..UptoSaid' is the law's where the arguments, and the package variables that the reading takes, are together of bulk at most 1048576: NARROWER than '..Said'. Prove '..Said' where nothing that the law and all that it calls make is longer than what came in: it says more and counts as full. Else prove '..UptoSaid'. A law counts once. -/
mutual
def uptoBulk {H : Type} : DataW H → Nat
  | .lit (.string bytes) => bytes.length + 1
  | .lit _ => 1
  | .nil => 1
  | .ptr d => uptoBulk d + 1
  | .slice elems spare => uptoBulkAll elems + uptoBulkAll spare + 1
  | .agg parts => uptoBulkAll parts + 1
  | .iface _ d => uptoBulk d + 1
  | .map entries => uptoBulkEntries entries + 1
  | .held _ => 1
def uptoBulkAll {H : Type} : List (DataW H) → Nat
  | [] => 0
  | d :: r => uptoBulk d + uptoBulkAll r
def uptoBulkEntries {H : Type} : List (Lit × DataW H) → Nat
  | [] => 0
  | x :: r => uptoBulkEntry x + uptoBulkEntries r
def uptoBulkEntry {H : Type} : Lit × DataW H → Nat
  | (.string bytes, d) => bytes.length + uptoBulk d + 1
  | (_, d) => uptoBulk d + 1
 end
def uptoSmall : (H : Type) → List (DataW H) → Bool := fun _ ds => decide (uptoBulkAll ds ≤ 1048576)
def OpenSpec.upto (s : _root_.Go.ChangeSpec) : _root_.Go.OpenSpec := { _root_.Go.OpenSpec.ofChange s with cond := some uptoSmall }

/-- 'genlocklaw08.TapeReels', WHERE WHAT IT READS IS OF BULK AT MOST 1048576: true; the input reads as it did. -/
def tapeReelsUptoRow : OpenClaim := { program := "ytpbipfdpoijgoaagreatdoor", sum := "9912e4bb9b6b30383bf9a7a82882caeb51f5727fa9db79fc7794a7ab61a1023a", func := "genlock/genlocklaw08.TapeReels", spec := "tapeReels", inPlace := ["internal/abi.NoEscape", "internal/bytealg.MakeNoZero"], unfollowed := true, recurses := true, named := ["genlock/tape.magic", "genlock/tape.whole", "genlock/code.rates", "internal/strconv.uint64pow10", "math/bits.deBruijn32tab", "math/bits.deBruijn64tab"], plainKeys := false, apart := false, laid := [("math/bits.deBruijn32tab", laid_math_bits_deBruijn32tab), ("math/bits.deBruijn64tab", laid_math_bits_deBruijn64tab), ("internal/strconv.uint64pow10", laid_internal_strconv_uint64pow10), ("genlock/code.rates", laid_genlock_code_rates), ("genlock/tape.whole", laid_genlock_tape_whole), ("genlock/tape.magic", laid_genlock_tape_magic)], narrowed := true }
def TapeReelsUptoSaid : Prop := tapeReelsUptoRow.holds Tryz.pinned (OpenSpec.upto tapeReelsSpec)

/-- 'genlocklaw08.TapeReads', WHERE WHAT IT READS IS OF BULK AT MOST 1048576: true; the input reads as it did. -/
def tapeReadsUptoRow : OpenClaim := { program := "ytpbipfdpoijgoaagreatdoor", sum := "9912e4bb9b6b30383bf9a7a82882caeb51f5727fa9db79fc7794a7ab61a1023a", func := "genlock/genlocklaw08.TapeReads", spec := "tapeReads", inPlace := ["internal/abi.NoEscape", "internal/bytealg.MakeNoZero"], unfollowed := true, recurses := true, named := ["genlock/tape.magic", "genlock/tape.whole", "genlock/code.rates", "internal/strconv.uint64pow10", "math/bits.deBruijn32tab", "math/bits.deBruijn64tab"], plainKeys := false, apart := false, laid := [("math/bits.deBruijn32tab", laid_math_bits_deBruijn32tab), ("math/bits.deBruijn64tab", laid_math_bits_deBruijn64tab), ("internal/strconv.uint64pow10", laid_internal_strconv_uint64pow10), ("genlock/code.rates", laid_genlock_code_rates), ("genlock/tape.whole", laid_genlock_tape_whole), ("genlock/tape.magic", laid_genlock_tape_magic)], narrowed := true }
def TapeReadsUptoSaid : Prop := tapeReadsUptoRow.holds Tryz.pinned (OpenSpec.upto tapeReadsSpec)

/-- 'genlocklaw08.TapeLists', WHERE WHAT IT READS IS OF BULK AT MOST 1048576: true; the input reads as it did. -/
def tapeListsUptoRow : OpenClaim := { program := "ytpbipfdpoijgoaagreatdoor", sum := "9912e4bb9b6b30383bf9a7a82882caeb51f5727fa9db79fc7794a7ab61a1023a", func := "genlock/genlocklaw08.TapeLists", spec := "tapeLists", inPlace := ["internal/abi.NoEscape", "internal/bytealg.MakeNoZero"], unfollowed := true, recurses := true, named := ["genlock/tape.magic", "genlock/tape.whole", "genlock/code.rates", "internal/strconv.uint64pow10", "math/bits.deBruijn32tab", "math/bits.deBruijn64tab"], plainKeys := false, apart := false, laid := [("math/bits.deBruijn32tab", laid_math_bits_deBruijn32tab), ("math/bits.deBruijn64tab", laid_math_bits_deBruijn64tab), ("internal/strconv.uint64pow10", laid_internal_strconv_uint64pow10), ("genlock/code.rates", laid_genlock_code_rates), ("genlock/tape.whole", laid_genlock_tape_whole), ("genlock/tape.magic", laid_genlock_tape_magic)], narrowed := true }
def TapeListsUptoSaid : Prop := tapeListsUptoRow.holds Tryz.pinned (OpenSpec.upto tapeListsSpec)

/-- 'genlocklaw08.TapeTrims', WHERE WHAT IT READS IS OF BULK AT MOST 1048576: true; the input reads as it did. -/
def tapeTrimsUptoRow : OpenClaim := { program := "ytpbipfdpoijgoaagreatdoor", sum := "9912e4bb9b6b30383bf9a7a82882caeb51f5727fa9db79fc7794a7ab61a1023a", func := "genlock/genlocklaw08.TapeTrims", spec := "tapeTrims", inPlace := ["internal/abi.NoEscape", "internal/bytealg.MakeNoZero"], unfollowed := true, recurses := true, named := ["genlock/tape.magic", "genlock/tape.whole", "genlock/code.rates", "internal/strconv.uint64pow10", "math/bits.deBruijn32tab", "math/bits.deBruijn64tab"], plainKeys := false, apart := false, laid := [("math/bits.deBruijn32tab", laid_math_bits_deBruijn32tab), ("math/bits.deBruijn64tab", laid_math_bits_deBruijn64tab), ("internal/strconv.uint64pow10", laid_internal_strconv_uint64pow10), ("genlock/code.rates", laid_genlock_code_rates), ("genlock/tape.whole", laid_genlock_tape_whole), ("genlock/tape.magic", laid_genlock_tape_magic)], narrowed := true }
def TapeTrimsUptoSaid : Prop := tapeTrimsUptoRow.holds Tryz.pinned (OpenSpec.upto tapeTrimsSpec)

/-- 'genlocklaw08.TapeRates', WHERE WHAT IT READS IS OF BULK AT MOST 1048576: true; the input reads as it did. -/
def tapeRatesUptoRow : OpenClaim := { program := "ytpbipfdpoijgoaagreatdoor", sum := "9912e4bb9b6b30383bf9a7a82882caeb51f5727fa9db79fc7794a7ab61a1023a", func := "genlock/genlocklaw08.TapeRates", spec := "tapeRates", inPlace := ["internal/abi.NoEscape", "internal/bytealg.MakeNoZero"], unfollowed := true, recurses := true, named := ["genlock/tape.magic", "genlock/tape.whole", "genlock/code.rates", "internal/strconv.uint64pow10", "math/bits.deBruijn32tab", "math/bits.deBruijn64tab"], plainKeys := false, apart := false, laid := [("math/bits.deBruijn32tab", laid_math_bits_deBruijn32tab), ("math/bits.deBruijn64tab", laid_math_bits_deBruijn64tab), ("internal/strconv.uint64pow10", laid_internal_strconv_uint64pow10), ("genlock/code.rates", laid_genlock_code_rates), ("genlock/tape.whole", laid_genlock_tape_whole), ("genlock/tape.magic", laid_genlock_tape_magic)], narrowed := true }
def TapeRatesUptoSaid : Prop := tapeRatesUptoRow.holds Tryz.pinned (OpenSpec.upto tapeRatesSpec)

/-- 'genlocklaw08.TapeTorn', WHERE WHAT IT READS IS OF BULK AT MOST 1048576: true; the input reads as it did. -/
def tapeTornUptoRow : OpenClaim := { program := "ytpbipfdpoijgoaagreatdoor", sum := "9912e4bb9b6b30383bf9a7a82882caeb51f5727fa9db79fc7794a7ab61a1023a", func := "genlock/genlocklaw08.TapeTorn", spec := "tapeTorn", inPlace := ["internal/abi.NoEscape", "internal/bytealg.MakeNoZero"], unfollowed := true, recurses := true, named := ["genlock/tape.magic", "genlock/tape.whole", "genlock/code.rates", "internal/strconv.uint64pow10", "math/bits.deBruijn32tab", "math/bits.deBruijn64tab"], plainKeys := false, apart := false, laid := [("math/bits.deBruijn32tab", laid_math_bits_deBruijn32tab), ("math/bits.deBruijn64tab", laid_math_bits_deBruijn64tab), ("internal/strconv.uint64pow10", laid_internal_strconv_uint64pow10), ("genlock/code.rates", laid_genlock_code_rates), ("genlock/tape.whole", laid_genlock_tape_whole), ("genlock/tape.magic", laid_genlock_tape_magic)], narrowed := true }
def TapeTornUptoSaid : Prop := tapeTornUptoRow.holds Tryz.pinned (OpenSpec.upto tapeTornSpec)

/-- 'genlocklaw08.TapeTraces', WHERE WHAT IT READS IS OF BULK AT MOST 1048576: true; the input reads as it did. -/
def tapeTracesUptoRow : OpenClaim := { program := "ytpbipfdpoijgoaagreatdoor", sum := "9912e4bb9b6b30383bf9a7a82882caeb51f5727fa9db79fc7794a7ab61a1023a", func := "genlock/genlocklaw08.TapeTraces", spec := "tapeTraces", inPlace := ["internal/abi.NoEscape", "internal/bytealg.MakeNoZero"], unfollowed := true, recurses := true, named := ["genlock/tape.magic", "genlock/tape.whole", "genlock/code.rates", "internal/strconv.uint64pow10", "math/bits.deBruijn32tab", "math/bits.deBruijn64tab"], plainKeys := false, apart := false, laid := [("math/bits.deBruijn32tab", laid_math_bits_deBruijn32tab), ("math/bits.deBruijn64tab", laid_math_bits_deBruijn64tab), ("internal/strconv.uint64pow10", laid_internal_strconv_uint64pow10), ("genlock/code.rates", laid_genlock_code_rates), ("genlock/tape.whole", laid_genlock_tape_whole), ("genlock/tape.magic", laid_genlock_tape_magic)], narrowed := true }
def TapeTracesUptoSaid : Prop := tapeTracesUptoRow.holds Tryz.pinned (OpenSpec.upto tapeTracesSpec)

/-- 'genlocklaw08.TapeFrames', WHERE WHAT IT READS IS OF BULK AT MOST 1048576: true; the input reads as it did. -/
def tapeFramesUptoRow : OpenClaim := { program := "ytpbipfdpoijgoaagreatdoor", sum := "9912e4bb9b6b30383bf9a7a82882caeb51f5727fa9db79fc7794a7ab61a1023a", func := "genlock/genlocklaw08.TapeFrames", spec := "tapeFrames", inPlace := ["internal/abi.NoEscape", "internal/bytealg.MakeNoZero"], unfollowed := true, recurses := true, named := ["genlock/tape.magic", "genlock/tape.whole", "genlock/code.rates", "internal/strconv.uint64pow10", "math/bits.deBruijn32tab", "math/bits.deBruijn64tab"], plainKeys := false, apart := false, laid := [("math/bits.deBruijn32tab", laid_math_bits_deBruijn32tab), ("math/bits.deBruijn64tab", laid_math_bits_deBruijn64tab), ("internal/strconv.uint64pow10", laid_internal_strconv_uint64pow10), ("genlock/code.rates", laid_genlock_code_rates), ("genlock/tape.whole", laid_genlock_tape_whole), ("genlock/tape.magic", laid_genlock_tape_magic)], narrowed := true }
def TapeFramesUptoSaid : Prop := tapeFramesUptoRow.holds Tryz.pinned (OpenSpec.upto tapeFramesSpec)

/-- 'genlocklaw08.TapeTurns', WHERE WHAT IT READS IS OF BULK AT MOST 1048576: true; the input reads as it did. -/
def tapeTurnsUptoRow : OpenClaim := { program := "ytpbipfdpoijgoaagreatdoor", sum := "9912e4bb9b6b30383bf9a7a82882caeb51f5727fa9db79fc7794a7ab61a1023a", func := "genlock/genlocklaw08.TapeTurns", spec := "tapeTurns", inPlace := ["internal/abi.NoEscape", "internal/bytealg.MakeNoZero"], unfollowed := true, recurses := true, named := ["genlock/tape.magic", "genlock/tape.whole", "genlock/code.rates", "internal/strconv.uint64pow10", "math/bits.deBruijn32tab", "math/bits.deBruijn64tab"], plainKeys := false, apart := false, laid := [("math/bits.deBruijn32tab", laid_math_bits_deBruijn32tab), ("math/bits.deBruijn64tab", laid_math_bits_deBruijn64tab), ("internal/strconv.uint64pow10", laid_internal_strconv_uint64pow10), ("genlock/code.rates", laid_genlock_code_rates), ("genlock/tape.whole", laid_genlock_tape_whole), ("genlock/tape.magic", laid_genlock_tape_magic)], narrowed := true }
def TapeTurnsUptoSaid : Prop := tapeTurnsUptoRow.holds Tryz.pinned (OpenSpec.upto tapeTurnsSpec)

/-- 'genlocklaw08.TapeParts', WHERE WHAT IT READS IS OF BULK AT MOST 1048576: true; the input reads as it did. -/
def tapePartsUptoRow : OpenClaim := { program := "ytpbipfdpoijgoaagreatdoor", sum := "9912e4bb9b6b30383bf9a7a82882caeb51f5727fa9db79fc7794a7ab61a1023a", func := "genlock/genlocklaw08.TapeParts", spec := "tapeParts", inPlace := ["internal/abi.NoEscape", "internal/bytealg.MakeNoZero"], unfollowed := true, recurses := true, named := ["genlock/tape.magic", "genlock/tape.whole", "genlock/code.rates", "internal/strconv.uint64pow10", "math/bits.deBruijn32tab", "math/bits.deBruijn64tab"], plainKeys := false, apart := false, laid := [("math/bits.deBruijn32tab", laid_math_bits_deBruijn32tab), ("math/bits.deBruijn64tab", laid_math_bits_deBruijn64tab), ("internal/strconv.uint64pow10", laid_internal_strconv_uint64pow10), ("genlock/code.rates", laid_genlock_code_rates), ("genlock/tape.whole", laid_genlock_tape_whole), ("genlock/tape.magic", laid_genlock_tape_magic)], narrowed := true }
def TapePartsUptoSaid : Prop := tapePartsUptoRow.holds Tryz.pinned (OpenSpec.upto tapePartsSpec)

/-- 'genlocklaw08.TapeJoins', WHERE WHAT IT READS IS OF BULK AT MOST 1048576: true; the input reads as it did. -/
def tapeJoinsUptoRow : OpenClaim := { program := "ytpbipfdpoijgoaagreatdoor", sum := "9912e4bb9b6b30383bf9a7a82882caeb51f5727fa9db79fc7794a7ab61a1023a", func := "genlock/genlocklaw08.TapeJoins", spec := "tapeJoins", inPlace := ["internal/abi.NoEscape", "internal/bytealg.MakeNoZero"], unfollowed := true, recurses := true, named := ["genlock/tape.magic", "genlock/tape.whole", "genlock/code.rates", "internal/strconv.uint64pow10", "math/bits.deBruijn32tab", "math/bits.deBruijn64tab"], plainKeys := false, apart := false, laid := [("math/bits.deBruijn32tab", laid_math_bits_deBruijn32tab), ("math/bits.deBruijn64tab", laid_math_bits_deBruijn64tab), ("internal/strconv.uint64pow10", laid_internal_strconv_uint64pow10), ("genlock/code.rates", laid_genlock_code_rates), ("genlock/tape.whole", laid_genlock_tape_whole), ("genlock/tape.magic", laid_genlock_tape_magic)], narrowed := true }
def TapeJoinsUptoSaid : Prop := tapeJoinsUptoRow.holds Tryz.pinned (OpenSpec.upto tapeJoinsSpec)

/-- 'genlocklaw08.TapeTexts', WHERE WHAT IT READS IS OF BULK AT MOST 1048576: true; the input reads as it did. -/
def tapeTextsUptoRow : OpenClaim := { program := "ytpbipfdpoijgoaagreatdoor", sum := "9912e4bb9b6b30383bf9a7a82882caeb51f5727fa9db79fc7794a7ab61a1023a", func := "genlock/genlocklaw08.TapeTexts", spec := "tapeTexts", inPlace := ["internal/abi.NoEscape", "internal/bytealg.MakeNoZero", "internal/bytealg.IndexByteString", "internal/bytealg.CountString", "internal/bytealg.IndexString"], unfollowed := true, recurses := true, named := ["genlock/tape.magic", "genlock/tape.whole", "genlock/code.rates", "internal/strconv.uint64pow10", "math/bits.deBruijn32tab", "math/bits.deBruijn64tab", "unicode/utf8.first", "unicode/utf8.acceptRanges", "internal/bytealg.MaxLen", "strconv.ErrSyntax", "strconv.ErrRange"], plainKeys := false, apart := false, laid := [("math/bits.deBruijn32tab", laid_math_bits_deBruijn32tab), ("math/bits.deBruijn64tab", laid_math_bits_deBruijn64tab), ("internal/strconv.uint64pow10", laid_internal_strconv_uint64pow10), ("unicode/utf8.acceptRanges", laid_unicode_utf8_acceptRanges), ("strconv.ErrRange", laid_strconv_ErrRange), ("strconv.ErrSyntax", laid_strconv_ErrSyntax), ("genlock/code.rates", laid_genlock_code_rates), ("genlock/tape.whole", laid_genlock_tape_whole), ("genlock/tape.magic", laid_genlock_tape_magic), ("unicode/utf8.first", laid_unicode_utf8_first)], narrowed := true }
def TapeTextsUptoSaid : Prop := tapeTextsUptoRow.holds Tryz.pinned (OpenSpec.upto tapeTextsSpec)

/-- 'genlocklaw08.TapeBack', WHERE WHAT IT READS IS OF BULK AT MOST 1048576: true; the input reads as it did. -/
def tapeBackUptoRow : OpenClaim := { program := "ytpbipfdpoijgoaagreatdoor", sum := "9912e4bb9b6b30383bf9a7a82882caeb51f5727fa9db79fc7794a7ab61a1023a", func := "genlock/genlocklaw08.TapeBack", spec := "tapeBack", inPlace := ["internal/abi.NoEscape", "internal/bytealg.MakeNoZero", "internal/bytealg.IndexByteString", "internal/bytealg.CountString", "internal/bytealg.IndexString"], unfollowed := true, recurses := true, named := ["genlock/tape.magic", "genlock/tape.whole", "genlock/code.rates", "internal/strconv.uint64pow10", "math/bits.deBruijn32tab", "math/bits.deBruijn64tab", "unicode/utf8.first", "unicode/utf8.acceptRanges", "internal/bytealg.MaxLen", "strconv.ErrSyntax", "strconv.ErrRange"], plainKeys := false, apart := false, laid := [("math/bits.deBruijn32tab", laid_math_bits_deBruijn32tab), ("math/bits.deBruijn64tab", laid_math_bits_deBruijn64tab), ("internal/strconv.uint64pow10", laid_internal_strconv_uint64pow10), ("unicode/utf8.acceptRanges", laid_unicode_utf8_acceptRanges), ("strconv.ErrRange", laid_strconv_ErrRange), ("strconv.ErrSyntax", laid_strconv_ErrSyntax), ("genlock/code.rates", laid_genlock_code_rates), ("genlock/tape.whole", laid_genlock_tape_whole), ("genlock/tape.magic", laid_genlock_tape_magic), ("unicode/utf8.first", laid_unicode_utf8_first)], narrowed := true }
def TapeBackUptoSaid : Prop := tapeBackUptoRow.holds Tryz.pinned (OpenSpec.upto tapeBackSpec)

end Rows
end Go.Proofs.YtpbipfdpoijgoaaGreatDoor
