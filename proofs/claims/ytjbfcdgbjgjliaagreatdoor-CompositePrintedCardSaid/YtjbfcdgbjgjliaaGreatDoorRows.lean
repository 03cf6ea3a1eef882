/-
  NARROWER THAN 'FOR EVERY INPUT', by the rows' own cells (each row's printed sentence says how): CompositeEncodes: laid · CompositeFields: laid · CompositeBands: laid · CompositeCombs: laid · CompositeMeasures: laid · CompositeLocks: laid · CompositeClamps: laid · CompositeFilters: laid · CompositeLines: laid · CompositeBack: laid · CompositeRamps: laid · CompositeAdjoint: laid · CompositeTurns: laid · CompositeTexts: laid · CompositePrinted: laid.
  DERIVED. THE GIVEN ROWS OF THIS SEAT. 15 by the template 'for every input the law returns true; each argument reads behind the call as it read before'; 0 by the template 'total and deterministic' (their statements: YtjbfcdgbjgjliaaGreatDoorTotals.lean).
  GIVEN WITH THE SEED: the statements are not yours to turn. If you find one false, say at which input.
  Laid BY PROGRAM, IN A SANDBOX (cutbox-rows.mjs): the forced cells as the released guide's own fill.sh prints them over the translation 9ece0401095bea55… (all of the seat's roots in one cut). By AI agents, Wed Nov 11 2026. No macro, syntax, notation, axiom, sorry.
-/
import Derived.Test.YtjbfcdgbjgjliaaGreatDoorChecked
import GoSem.PinnedTables
import GoSem.Claim
import GoSem.ClaimJoined
import GoSem.ClaimMapViews
import Derived.JoinedTies
import Derived.KernelRfl
namespace Go.Proofs.YtjbfcdgbjgjliaaGreatDoor
/- THE CELL 'sum', in the pinned program and in every row, IS THE sha256 OF THE DUMP (.gsa) THAT YtjbfcdgbjgjliaaGreatDoorProg.lean LOADS. Nothing in Lean hashes anything: it is a label: what it is worth is what the hold of that sum in a sandbox is worth. -/
noncomputable def Tryz.pinned : Pinned := { name := "ytjbfcdgbjgjliaagreatdoor", sum := "9ece0401095bea552caf961315b73584db34a0b1723187909f2bf40302312d58", checked := Tryz.checked }
namespace Rows
def none {H : Type} : Left H := { results := [], args := [] }

/- WHAT THE LISTED PACKAGE-LEVEL VARIABLES READ AS WHEN THE CALL BEGINS. Each datum BY PROGRAM (the guide's laid-datum.mjs) off the statement by which the dump's own 'gosem.cut.vars' lays the variable. In a bare row this is a premise. The card (YtjbfcdgbjgjliaaGreatDoorCards.lean) ties it to the program's text. -/
def laid_math_bits_deBruijn32tab {H : Type} : DataW H := .agg [.lit (.int .u8 0), .lit (.int .u8 1), .lit (.int .u8 28), .lit (.int .u8 2), .lit (.int .u8 29), .lit (.int .u8 14), .lit (.int .u8 24), .lit (.int .u8 3), .lit (.int .u8 30), .lit (.int .u8 22), .lit (.int .u8 20), .lit (.int .u8 15), .lit (.int .u8 25), .lit (.int .u8 17), .lit (.int .u8 4), .lit (.int .u8 8), .lit (.int .u8 31), .lit (.int .u8 27), .lit (.int .u8 13), .lit (.int .u8 23), .lit (.int .u8 21), .lit (.int .u8 19), .lit (.int .u8 16), .lit (.int .u8 7), .lit (.int .u8 26), .lit (.int .u8 12), .lit (.int .u8 18), .lit (.int .u8 6), .lit (.int .u8 11), .lit (.int .u8 5), .lit (.int .u8 10), .lit (.int .u8 9)]
def laid_math_bits_deBruijn64tab {H : Type} : DataW H := .agg [.lit (.int .u8 0), .lit (.int .u8 1), .lit (.int .u8 56), .lit (.int .u8 2), .lit (.int .u8 57), .lit (.int .u8 49), .lit (.int .u8 28), .lit (.int .u8 3), .lit (.int .u8 61), .lit (.int .u8 58), .lit (.int .u8 42), .lit (.int .u8 50), .lit (.int .u8 38), .lit (.int .u8 29), .lit (.int .u8 17), .lit (.int .u8 4), .lit (.int .u8 62), .lit (.int .u8 47), .lit (.int .u8 59), .lit (.int .u8 36), .lit (.int .u8 45), .lit (.int .u8 43), .lit (.int .u8 51), .lit (.int .u8 22), .lit (.int .u8 53), .lit (.int .u8 39), .lit (.int .u8 33), .lit (.int .u8 30), .lit (.int .u8 24), .lit (.int .u8 18), .lit (.int .u8 12), .lit (.int .u8 5), .lit (.int .u8 63), .lit (.int .u8 55), .lit (.int .u8 48), .lit (.int .u8 27), .lit (.int .u8 60), .lit (.int .u8 41), .lit (.int .u8 37), .lit (.int .u8 16), .lit (.int .u8 46), .lit (.int .u8 35), .lit (.int .u8 44), .lit (.int .u8 21), .lit (.int .u8 52), .lit (.int .u8 32), .lit (.int .u8 23), .lit (.int .u8 11), .lit (.int .u8 54), .lit (.int .u8 26), .lit (.int .u8 40), .lit (.int .u8 15), .lit (.int .u8 34), .lit (.int .u8 20), .lit (.int .u8 31), .lit (.int .u8 10), .lit (.int .u8 25), .lit (.int .u8 14), .lit (.int .u8 19), .lit (.int .u8 9), .lit (.int .u8 13), .lit (.int .u8 8), .lit (.int .u8 7), .lit (.int .u8 6)]
def laid_internal_strconv_uint64pow10 {H : Type} : DataW H := .agg [.lit (.int .u64 1), .lit (.int .u64 10), .lit (.int .u64 100), .lit (.int .u64 1000), .lit (.int .u64 10000), .lit (.int .u64 100000), .lit (.int .u64 1000000), .lit (.int .u64 10000000), .lit (.int .u64 100000000), .lit (.int .u64 1000000000), .lit (.int .u64 10000000000), .lit (.int .u64 100000000000), .lit (.int .u64 1000000000000), .lit (.int .u64 10000000000000), .lit (.int .u64 100000000000000), .lit (.int .u64 1000000000000000), .lit (.int .u64 10000000000000000), .lit (.int .u64 100000000000000000), .lit (.int .u64 1000000000000000000), .lit (.int .u64 10000000000000000000)]
def laid_genlock_composite_powers {H : Type} : DataW H := .agg [.agg [.lit (.int .i64 1), .lit (.int .i64 0)], .agg [.lit (.int .i64 0), .lit (.int .i64 (-1))], .agg [.lit (.int .i64 (-1)), .lit (.int .i64 0)], .agg [.lit (.int .i64 0), .lit (.int .i64 1)]]
def laid_unicode_utf8_acceptRanges {H : Type} : DataW H := .agg [.agg [.lit (.int .u8 128), .lit (.int .u8 191)], .agg [.lit (.int .u8 160), .lit (.int .u8 191)], .agg [.lit (.int .u8 128), .lit (.int .u8 159)], .agg [.lit (.int .u8 144), .lit (.int .u8 191)], .agg [.lit (.int .u8 128), .lit (.int .u8 143)], .agg [.lit (.int .u8 0), .lit (.int .u8 0)], .agg [.lit (.int .u8 0), .lit (.int .u8 0)], .agg [.lit (.int .u8 0), .lit (.int .u8 0)], .agg [.lit (.int .u8 0), .lit (.int .u8 0)], .agg [.lit (.int .u8 0), .lit (.int .u8 0)], .agg [.lit (.int .u8 0), .lit (.int .u8 0)], .agg [.lit (.int .u8 0), .lit (.int .u8 0)], .agg [.lit (.int .u8 0), .lit (.int .u8 0)], .agg [.lit (.int .u8 0), .lit (.int .u8 0)], .agg [.lit (.int .u8 0), .lit (.int .u8 0)], .agg [.lit (.int .u8 0), .lit (.int .u8 0)]]
def laid_strconv_ErrRange {H : Type} : DataW H := .iface "*errors.errorString" (.ptr (.agg [.lit (.string [118, 97, 108, 117, 101, 32, 111, 117, 116, 32, 111, 102, 32, 114, 97, 110, 103, 101])]))
def laid_strconv_ErrSyntax {H : Type} : DataW H := .iface "*errors.errorString" (.ptr (.agg [.lit (.string [105, 110, 118, 97, 108, 105, 100, 32, 115, 121, 110, 116, 97, 120])]))
/-- One of Go's own tables, pinned by name: the form's constant. -/
def laid_unicode_utf8_first : DataW Unit := Go.Pinned.utf8First

/-- 'genlocklaw03.CompositeEncodes': WHATEVER THE INPUT: true; the input reads as it did. -/
def compositeEncodesSpec : ChangeSpec := { name := "compositeEncodes", fn := fun _ => fun
  | [d1, d2] => { results := [.lit (.bool true)], args := [d1, d2] }
  | _ => none }
def compositeEncodesRow : OpenClaim := { program := "ytjbfcdgbjgjliaagreatdoor", sum := "9ece0401095bea552caf961315b73584db34a0b1723187909f2bf40302312d58", func := "genlock/genlocklaw03.CompositeEncodes", spec := "compositeEncodes", inPlace := ["internal/abi.NoEscape", "internal/bytealg.MakeNoZero", "math.Float64bits", "math.Float64frombits", "math.archFloor", "math.archTrunc"], unfollowed := true, recurses := true, named := ["genlock/composite.powers", "internal/strconv.uint64pow10", "math/bits.deBruijn32tab", "math/bits.deBruijn64tab"], apart := false, laid := [("math/bits.deBruijn32tab", laid_math_bits_deBruijn32tab), ("math/bits.deBruijn64tab", laid_math_bits_deBruijn64tab), ("internal/strconv.uint64pow10", laid_internal_strconv_uint64pow10), ("genlock/composite.powers", laid_genlock_composite_powers)] }
def CompositeEncodesSaid : Prop := compositeEncodesRow.holds Tryz.pinned (OpenSpec.ofChange compositeEncodesSpec)

/-- ITS FALSE NEIGHBOUR: 'it returns false'. Refute it at one input. -/
def compositeEncodesWrong : ChangeSpec := { name := "compositeEncodes", fn := fun _ => fun
  | [d1, d2] => { results := [.lit (.bool false)], args := [d1, d2] }
  | _ => none }
def CompositeEncodesWrongFalsely : Prop := compositeEncodesRow.holds Tryz.pinned (OpenSpec.ofChange compositeEncodesWrong)

/-- 'genlocklaw03.CompositeFields': WHATEVER THE INPUT: true; the input reads as it did. -/
def compositeFieldsSpec : ChangeSpec := { name := "compositeFields", fn := fun _ => fun
  | [d1, d2, d3] => { results := [.lit (.bool true)], args := [d1, d2, d3] }
  | _ => none }
def compositeFieldsRow : OpenClaim := { program := "ytjbfcdgbjgjliaagreatdoor", sum := "9ece0401095bea552caf961315b73584db34a0b1723187909f2bf40302312d58", func := "genlock/genlocklaw03.CompositeFields", spec := "compositeFields", inPlace := ["internal/abi.NoEscape", "internal/bytealg.MakeNoZero", "math.Float64bits", "math.Float64frombits", "math.archFloor", "math.archTrunc"], unfollowed := true, recurses := true, named := ["genlock/composite.powers", "internal/strconv.uint64pow10", "math/bits.deBruijn32tab", "math/bits.deBruijn64tab"], apart := false, laid := [("math/bits.deBruijn32tab", laid_math_bits_deBruijn32tab), ("math/bits.deBruijn64tab", laid_math_bits_deBruijn64tab), ("internal/strconv.uint64pow10", laid_internal_strconv_uint64pow10), ("genlock/composite.powers", laid_genlock_composite_powers)] }
def CompositeFieldsSaid : Prop := compositeFieldsRow.holds Tryz.pinned (OpenSpec.ofChange compositeFieldsSpec)

/-- ITS FALSE NEIGHBOUR: 'it returns false'. Refute it at one input. -/
def compositeFieldsWrong : ChangeSpec := { name := "compositeFields", fn := fun _ => fun
  | [d1, d2, d3] => { results := [.lit (.bool false)], args := [d1, d2, d3] }
  | _ => none }
def CompositeFieldsWrongFalsely : Prop := compositeFieldsRow.holds Tryz.pinned (OpenSpec.ofChange compositeFieldsWrong)

/-- 'genlocklaw03.CompositeBands': WHATEVER THE INPUT: true; the input reads as it did. -/
def compositeBandsSpec : ChangeSpec := { name := "compositeBands", fn := fun _ => fun
  | [d1, d2] => { results := [.lit (.bool true)], args := [d1, d2] }
  | _ => none }
def compositeBandsRow : OpenClaim := { program := "ytjbfcdgbjgjliaagreatdoor", sum := "9ece0401095bea552caf961315b73584db34a0b1723187909f2bf40302312d58", func := "genlock/genlocklaw03.CompositeBands", spec := "compositeBands", inPlace := ["internal/abi.NoEscape", "internal/bytealg.MakeNoZero", "math.Float64bits", "math.Float64frombits", "math.archFloor", "math.archTrunc"], unfollowed := true, recurses := true, named := ["genlock/composite.powers", "internal/strconv.uint64pow10", "math/bits.deBruijn32tab", "math/bits.deBruijn64tab"], apart := false, laid := [("math/bits.deBruijn32tab", laid_math_bits_deBruijn32tab), ("math/bits.deBruijn64tab", laid_math_bits_deBruijn64tab), ("internal/strconv.uint64pow10", laid_internal_strconv_uint64pow10), ("genlock/composite.powers", laid_genlock_composite_powers)] }
def CompositeBandsSaid : Prop := compositeBandsRow.holds Tryz.pinned (OpenSpec.ofChange compositeBandsSpec)

/-- ITS FALSE NEIGHBOUR: 'it returns false'. Refute it at one input. -/
def compositeBandsWrong : ChangeSpec := { name := "compositeBands", fn := fun _ => fun
  | [d1, d2] => { results := [.lit (.bool false)], args := [d1, d2] }
  | _ => none }
def CompositeBandsWrongFalsely : Prop := compositeBandsRow.holds Tryz.pinned (OpenSpec.ofChange compositeBandsWrong)

/-- 'genlocklaw03.CompositeCombs': WHATEVER THE INPUT: true; the input reads as it did. -/
def compositeCombsSpec : ChangeSpec := { name := "compositeCombs", fn := fun _ => fun
  | [d1, d2, d3] => { results := [.lit (.bool true)], args := [d1, d2, d3] }
  | _ => none }
def compositeCombsRow : OpenClaim := { program := "ytjbfcdgbjgjliaagreatdoor", sum := "9ece0401095bea552caf961315b73584db34a0b1723187909f2bf40302312d58", func := "genlock/genlocklaw03.CompositeCombs", spec := "compositeCombs", inPlace := ["internal/abi.NoEscape", "internal/bytealg.MakeNoZero", "math.Float64bits", "math.Float64frombits", "math.archFloor", "math.archTrunc"], unfollowed := true, recurses := true, named := ["genlock/composite.powers", "internal/strconv.uint64pow10", "math/bits.deBruijn32tab", "math/bits.deBruijn64tab"], apart := false, laid := [("math/bits.deBruijn32tab", laid_math_bits_deBruijn32tab), ("math/bits.deBruijn64tab", laid_math_bits_deBruijn64tab), ("internal/strconv.uint64pow10", laid_internal_strconv_uint64pow10), ("genlock/composite.powers", laid_genlock_composite_powers)] }
def CompositeCombsSaid : Prop := compositeCombsRow.holds Tryz.pinned (OpenSpec.ofChange compositeCombsSpec)

/-- ITS FALSE NEIGHBOUR: 'it returns false'. Refute it at one input. -/
def compositeCombsWrong : ChangeSpec := { name := "compositeCombs", fn := fun _ => fun
  | [d1, d2, d3] => { results := [.lit (.bool false)], args := [d1, d2, d3] }
  | _ => none }
def CompositeCombsWrongFalsely : Prop := compositeCombsRow.holds Tryz.pinned (OpenSpec.ofChange compositeCombsWrong)

/-- 'genlocklaw03.CompositeMeasures': WHATEVER THE INPUT: true; the input reads as it did. -/
def compositeMeasuresSpec : ChangeSpec := { name := "compositeMeasures", fn := fun _ => fun
  | [d1, d2] => { results := [.lit (.bool true)], args := [d1, d2] }
  | _ => none }
def compositeMeasuresRow : OpenClaim := { program := "ytjbfcdgbjgjliaagreatdoor", sum := "9ece0401095bea552caf961315b73584db34a0b1723187909f2bf40302312d58", func := "genlock/genlocklaw03.CompositeMeasures", spec := "compositeMeasures", inPlace := ["internal/abi.NoEscape", "internal/bytealg.MakeNoZero", "math.Float64bits", "math.Float64frombits", "math.archFloor", "math.archTrunc"], unfollowed := true, recurses := true, named := ["genlock/composite.powers", "internal/strconv.uint64pow10", "math/bits.deBruijn32tab", "math/bits.deBruijn64tab"], apart := false, laid := [("math/bits.deBruijn32tab", laid_math_bits_deBruijn32tab), ("math/bits.deBruijn64tab", laid_math_bits_deBruijn64tab), ("internal/strconv.uint64pow10", laid_internal_strconv_uint64pow10), ("genlock/composite.powers", laid_genlock_composite_powers)] }
def CompositeMeasuresSaid : Prop := compositeMeasuresRow.holds Tryz.pinned (OpenSpec.ofChange compositeMeasuresSpec)

/-- ITS FALSE NEIGHBOUR: 'it returns false'. Refute it at one input. -/
def compositeMeasuresWrong : ChangeSpec := { name := "compositeMeasures", fn := fun _ => fun
  | [d1, d2] => { results := [.lit (.bool false)], args := [d1, d2] }
  | _ => none }
def CompositeMeasuresWrongFalsely : Prop := compositeMeasuresRow.holds Tryz.pinned (OpenSpec.ofChange compositeMeasuresWrong)

/-- 'genlocklaw03.CompositeLocks': WHATEVER THE INPUT: true; the input reads as it did. -/
def compositeLocksSpec : ChangeSpec := { name := "compositeLocks", fn := fun _ => fun
  | [d1, d2] => { results := [.lit (.bool true)], args := [d1, d2] }
  | _ => none }
def compositeLocksRow : OpenClaim := { program := "ytjbfcdgbjgjliaagreatdoor", sum := "9ece0401095bea552caf961315b73584db34a0b1723187909f2bf40302312d58", func := "genlock/genlocklaw03.CompositeLocks", spec := "compositeLocks", inPlace := ["math.Float64bits", "math.Float64frombits", "math.archFloor", "math.archTrunc", "internal/abi.NoEscape", "internal/bytealg.MakeNoZero"], unfollowed := true, recurses := true, named := ["genlock/composite.powers", "internal/strconv.uint64pow10", "math/bits.deBruijn32tab", "math/bits.deBruijn64tab"], apart := false, laid := [("math/bits.deBruijn32tab", laid_math_bits_deBruijn32tab), ("math/bits.deBruijn64tab", laid_math_bits_deBruijn64tab), ("internal/strconv.uint64pow10", laid_internal_strconv_uint64pow10), ("genlock/composite.powers", laid_genlock_composite_powers)] }
def CompositeLocksSaid : Prop := compositeLocksRow.holds Tryz.pinned (OpenSpec.ofChange compositeLocksSpec)

/-- ITS FALSE NEIGHBOUR: 'it returns false'. Refute it at one input. -/
def compositeLocksWrong : ChangeSpec := { name := "compositeLocks", fn := fun _ => fun
  | [d1, d2] => { results := [.lit (.bool false)], args := [d1, d2] }
  | _ => none }
def CompositeLocksWrongFalsely : Prop := compositeLocksRow.holds Tryz.pinned (OpenSpec.ofChange compositeLocksWrong)

/-- 'genlocklaw03.CompositeClamps': WHATEVER THE INPUT: true; the input reads as it did. -/
def compositeClampsSpec : ChangeSpec := { name := "compositeClamps", fn := fun _ => fun
  | [d1, d2] => { results := [.lit (.bool true)], args := [d1, d2] }
  | _ => none }
def compositeClampsRow : OpenClaim := { program := "ytjbfcdgbjgjliaagreatdoor", sum := "9ece0401095bea552caf961315b73584db34a0b1723187909f2bf40302312d58", func := "genlock/genlocklaw03.CompositeClamps", spec := "compositeClamps", inPlace := ["internal/abi.NoEscape", "internal/bytealg.MakeNoZero", "math.Float64bits", "math.Float64frombits", "math.archFloor", "math.archTrunc"], unfollowed := true, recurses := true, named := ["genlock/composite.powers", "internal/strconv.uint64pow10", "math/bits.deBruijn32tab", "math/bits.deBruijn64tab"], apart := false, laid := [("math/bits.deBruijn32tab", laid_math_bits_deBruijn32tab), ("math/bits.deBruijn64tab", laid_math_bits_deBruijn64tab), ("internal/strconv.uint64pow10", laid_internal_strconv_uint64pow10), ("genlock/composite.powers", laid_genlock_composite_powers)] }
def CompositeClampsSaid : Prop := compositeClampsRow.holds Tryz.pinned (OpenSpec.ofChange compositeClampsSpec)

/-- ITS FALSE NEIGHBOUR: 'it returns false'. Refute it at one input. -/
def compositeClampsWrong : ChangeSpec := { name := "compositeClamps", fn := fun _ => fun
  | [d1, d2] => { results := [.lit (.bool false)], args := [d1, d2] }
  | _ => none }
def CompositeClampsWrongFalsely : Prop := compositeClampsRow.holds Tryz.pinned (OpenSpec.ofChange compositeClampsWrong)

/-- 'genlocklaw03.CompositeFilters': WHATEVER THE INPUT: true; the input reads as it did. -/
def compositeFiltersSpec : ChangeSpec := { name := "compositeFilters", fn := fun _ => fun
  | [d1, d2] => { results := [.lit (.bool true)], args := [d1, d2] }
  | _ => none }
def compositeFiltersRow : OpenClaim := { program := "ytjbfcdgbjgjliaagreatdoor", sum := "9ece0401095bea552caf961315b73584db34a0b1723187909f2bf40302312d58", func := "genlock/genlocklaw03.CompositeFilters", spec := "compositeFilters", inPlace := ["internal/abi.NoEscape", "internal/bytealg.MakeNoZero", "math.Float64bits", "math.Float64frombits", "math.archFloor", "math.archTrunc"], unfollowed := true, recurses := true, named := ["genlock/composite.powers", "internal/strconv.uint64pow10", "math/bits.deBruijn32tab", "math/bits.deBruijn64tab"], apart := false, laid := [("math/bits.deBruijn32tab", laid_math_bits_deBruijn32tab), ("math/bits.deBruijn64tab", laid_math_bits_deBruijn64tab), ("internal/strconv.uint64pow10", laid_internal_strconv_uint64pow10), ("genlock/composite.powers", laid_genlock_composite_powers)] }
def CompositeFiltersSaid : Prop := compositeFiltersRow.holds Tryz.pinned (OpenSpec.ofChange compositeFiltersSpec)

/-- ITS FALSE NEIGHBOUR: 'it returns false'. Refute it at one input. -/
def compositeFiltersWrong : ChangeSpec := { name := "compositeFilters", fn := fun _ => fun
  | [d1, d2] => { results := [.lit (.bool false)], args := [d1, d2] }
  | _ => none }
def CompositeFiltersWrongFalsely : Prop := compositeFiltersRow.holds Tryz.pinned (OpenSpec.ofChange compositeFiltersWrong)

/-- 'genlocklaw03.CompositeLines': WHATEVER THE INPUT: true; the input reads as it did. -/
def compositeLinesSpec : ChangeSpec := { name := "compositeLines", fn := fun _ => fun
  | [d1, d2] => { results := [.lit (.bool true)], args := [d1, d2] }
  | _ => none }
def compositeLinesRow : OpenClaim := { program := "ytjbfcdgbjgjliaagreatdoor", sum := "9ece0401095bea552caf961315b73584db34a0b1723187909f2bf40302312d58", func := "genlock/genlocklaw03.CompositeLines", spec := "compositeLines", inPlace := ["internal/abi.NoEscape", "internal/bytealg.MakeNoZero", "math.Float64bits", "math.Float64frombits", "math.archFloor", "math.archTrunc"], unfollowed := true, recurses := true, named := ["genlock/composite.powers", "internal/strconv.uint64pow10", "math/bits.deBruijn32tab", "math/bits.deBruijn64tab"], apart := false, laid := [("math/bits.deBruijn32tab", laid_math_bits_deBruijn32tab), ("math/bits.deBruijn64tab", laid_math_bits_deBruijn64tab), ("internal/strconv.uint64pow10", laid_internal_strconv_uint64pow10), ("genlock/composite.powers", laid_genlock_composite_powers)] }
def CompositeLinesSaid : Prop := compositeLinesRow.holds Tryz.pinned (OpenSpec.ofChange compositeLinesSpec)

/-- ITS FALSE NEIGHBOUR: 'it returns false'. Refute it at one input. -/
def compositeLinesWrong : ChangeSpec := { name := "compositeLines", fn := fun _ => fun
  | [d1, d2] => { results := [.lit (.bool false)], args := [d1, d2] }
  | _ => none }
def CompositeLinesWrongFalsely : Prop := compositeLinesRow.holds Tryz.pinned (OpenSpec.ofChange compositeLinesWrong)

/-- 'genlocklaw03.CompositeBack': WHATEVER THE INPUT: true; the input reads as it did. -/
def compositeBackSpec : ChangeSpec := { name := "compositeBack", fn := fun _ => fun
  | [d1, d2] => { results := [.lit (.bool true)], args := [d1, d2] }
  | _ => none }
def compositeBackRow : OpenClaim := { program := "ytjbfcdgbjgjliaagreatdoor", sum := "9ece0401095bea552caf961315b73584db34a0b1723187909f2bf40302312d58", func := "genlock/genlocklaw03.CompositeBack", spec := "compositeBack", inPlace := ["math.Float64bits", "math.Float64frombits", "math.archFloor", "math.archTrunc", "internal/abi.NoEscape", "internal/bytealg.MakeNoZero"], unfollowed := true, recurses := true, named := ["genlock/composite.powers", "internal/strconv.uint64pow10", "math/bits.deBruijn32tab", "math/bits.deBruijn64tab"], apart := false, laid := [("math/bits.deBruijn32tab", laid_math_bits_deBruijn32tab), ("math/bits.deBruijn64tab", laid_math_bits_deBruijn64tab), ("internal/strconv.uint64pow10", laid_internal_strconv_uint64pow10), ("genlock/composite.powers", laid_genlock_composite_powers)] }
def CompositeBackSaid : Prop := compositeBackRow.holds Tryz.pinned (OpenSpec.ofChange compositeBackSpec)

/-- ITS FALSE NEIGHBOUR: 'it returns false'. Refute it at one input. -/
def compositeBackWrong : ChangeSpec := { name := "compositeBack", fn := fun _ => fun
  | [d1, d2] => { results := [.lit (.bool false)], args := [d1, d2] }
  | _ => none }
def CompositeBackWrongFalsely : Prop := compositeBackRow.holds Tryz.pinned (OpenSpec.ofChange compositeBackWrong)

/-- 'genlocklaw03.CompositeRamps': WHATEVER THE INPUT: true; the input reads as it did. -/
def compositeRampsSpec : ChangeSpec := { name := "compositeRamps", fn := fun _ => fun
  | [d1, d2] => { results := [.lit (.bool true)], args := [d1, d2] }
  | _ => none }
def compositeRampsRow : OpenClaim := { program := "ytjbfcdgbjgjliaagreatdoor", sum := "9ece0401095bea552caf961315b73584db34a0b1723187909f2bf40302312d58", func := "genlock/genlocklaw03.CompositeRamps", spec := "compositeRamps", inPlace := ["math.Float64bits", "math.Float64frombits", "math.archFloor", "math.archTrunc", "internal/abi.NoEscape", "internal/bytealg.MakeNoZero"], unfollowed := true, recurses := true, named := ["genlock/composite.powers", "internal/strconv.uint64pow10", "math/bits.deBruijn32tab", "math/bits.deBruijn64tab"], apart := false, laid := [("math/bits.deBruijn32tab", laid_math_bits_deBruijn32tab), ("math/bits.deBruijn64tab", laid_math_bits_deBruijn64tab), ("internal/strconv.uint64pow10", laid_internal_strconv_uint64pow10), ("genlock/composite.powers", laid_genlock_composite_powers)] }
def CompositeRampsSaid : Prop := compositeRampsRow.holds Tryz.pinned (OpenSpec.ofChange compositeRampsSpec)

/-- ITS FALSE NEIGHBOUR: 'it returns false'. Refute it at one input. -/
def compositeRampsWrong : ChangeSpec := { name := "compositeRamps", fn := fun _ => fun
  | [d1, d2] => { results := [.lit (.bool false)], args := [d1, d2] }
  | _ => none }
def CompositeRampsWrongFalsely : Prop := compositeRampsRow.holds Tryz.pinned (OpenSpec.ofChange compositeRampsWrong)

/-- 'genlocklaw03.CompositeAdjoint': WHATEVER THE INPUT: true; the input reads as it did. -/
def compositeAdjointSpec : ChangeSpec := { name := "compositeAdjoint", fn := fun _ => fun
  | [d1, d2, d3] => { results := [.lit (.bool true)], args := [d1, d2, d3] }
  | _ => none }
def compositeAdjointRow : OpenClaim := { program := "ytjbfcdgbjgjliaagreatdoor", sum := "9ece0401095bea552caf961315b73584db34a0b1723187909f2bf40302312d58", func := "genlock/genlocklaw03.CompositeAdjoint", spec := "compositeAdjoint", inPlace := ["internal/abi.NoEscape", "internal/bytealg.MakeNoZero", "math.Float64bits", "math.Float64frombits", "math.archFloor", "math.archTrunc"], unfollowed := true, recurses := true, named := ["genlock/composite.powers", "internal/strconv.uint64pow10", "math/bits.deBruijn32tab", "math/bits.deBruijn64tab"], apart := false, laid := [("math/bits.deBruijn32tab", laid_math_bits_deBruijn32tab), ("math/bits.deBruijn64tab", laid_math_bits_deBruijn64tab), ("internal/strconv.uint64pow10", laid_internal_strconv_uint64pow10), ("genlock/composite.powers", laid_genlock_composite_powers)] }
def CompositeAdjointSaid : Prop := compositeAdjointRow.holds Tryz.pinned (OpenSpec.ofChange compositeAdjointSpec)

/-- ITS FALSE NEIGHBOUR: 'it returns false'. Refute it at one input. -/
def compositeAdjointWrong : ChangeSpec := { name := "compositeAdjoint", fn := fun _ => fun
  | [d1, d2, d3] => { results := [.lit (.bool false)], args := [d1, d2, d3] }
  | _ => none }
def CompositeAdjointWrongFalsely : Prop := compositeAdjointRow.holds Tryz.pinned (OpenSpec.ofChange compositeAdjointWrong)

/-- 'genlocklaw03.CompositeTurns': WHATEVER THE INPUT: true; the input reads as it did. -/
def compositeTurnsSpec : ChangeSpec := { name := "compositeTurns", fn := fun _ => fun
  | [d1, d2, d3] => { results := [.lit (.bool true)], args := [d1, d2, d3] }
  | _ => none }
def compositeTurnsRow : OpenClaim := { program := "ytjbfcdgbjgjliaagreatdoor", sum := "9ece0401095bea552caf961315b73584db34a0b1723187909f2bf40302312d58", func := "genlock/genlocklaw03.CompositeTurns", spec := "compositeTurns", inPlace := ["internal/abi.NoEscape", "internal/bytealg.MakeNoZero", "math.Float64bits", "math.Float64frombits", "math.archFloor", "math.archTrunc"], unfollowed := true, recurses := true, named := ["genlock/composite.powers", "internal/strconv.uint64pow10", "math/bits.deBruijn32tab", "math/bits.deBruijn64tab"], apart := false, laid := [("math/bits.deBruijn32tab", laid_math_bits_deBruijn32tab), ("math/bits.deBruijn64tab", laid_math_bits_deBruijn64tab), ("internal/strconv.uint64pow10", laid_internal_strconv_uint64pow10), ("genlock/composite.powers", laid_genlock_composite_powers)] }
def CompositeTurnsSaid : Prop := compositeTurnsRow.holds Tryz.pinned (OpenSpec.ofChange compositeTurnsSpec)

/-- ITS FALSE NEIGHBOUR: 'it returns false'. Refute it at one input. -/
def compositeTurnsWrong : ChangeSpec := { name := "compositeTurns", fn := fun _ => fun
  | [d1, d2, d3] => { results := [.lit (.bool false)], args := [d1, d2, d3] }
  | _ => none }
def CompositeTurnsWrongFalsely : Prop := compositeTurnsRow.holds Tryz.pinned (OpenSpec.ofChange compositeTurnsWrong)

/-- 'genlocklaw03.CompositeTexts': WHATEVER THE INPUT: true; the input reads as it did. -/
def compositeTextsSpec : ChangeSpec := { name := "compositeTexts", fn := fun _ => fun
  | [d1, d2] => { results := [.lit (.bool true)], args := [d1, d2] }
  | _ => none }
def compositeTextsRow : OpenClaim := { program := "ytjbfcdgbjgjliaagreatdoor", sum := "9ece0401095bea552caf961315b73584db34a0b1723187909f2bf40302312d58", func := "genlock/genlocklaw03.CompositeTexts", spec := "compositeTexts", inPlace := ["internal/abi.NoEscape", "internal/bytealg.MakeNoZero", "internal/bytealg.IndexByteString", "internal/bytealg.CountString", "internal/bytealg.IndexString", "math.Float64bits", "math.Float64frombits", "math.archFloor", "math.archTrunc"], unfollowed := true, recurses := true, named := ["genlock/composite.powers", "internal/strconv.uint64pow10", "math/bits.deBruijn32tab", "math/bits.deBruijn64tab", "unicode/utf8.first", "unicode/utf8.acceptRanges", "internal/bytealg.MaxLen", "strconv.ErrSyntax", "strconv.ErrRange"], apart := false, laid := [("math/bits.deBruijn32tab", laid_math_bits_deBruijn32tab), ("math/bits.deBruijn64tab", laid_math_bits_deBruijn64tab), ("internal/strconv.uint64pow10", laid_internal_strconv_uint64pow10), ("unicode/utf8.acceptRanges", laid_unicode_utf8_acceptRanges), ("strconv.ErrRange", laid_strconv_ErrRange), ("strconv.ErrSyntax", laid_strconv_ErrSyntax), ("genlock/composite.powers", laid_genlock_composite_powers), ("unicode/utf8.first", laid_unicode_utf8_first)] }
def CompositeTextsSaid : Prop := compositeTextsRow.holds Tryz.pinned (OpenSpec.ofChange compositeTextsSpec)

/-- ITS FALSE NEIGHBOUR: 'it returns false'. Refute it at one input. -/
def compositeTextsWrong : ChangeSpec := { name := "compositeTexts", fn := fun _ => fun
  | [d1, d2] => { results := [.lit (.bool false)], args := [d1, d2] }
  | _ => none }
def CompositeTextsWrongFalsely : Prop := compositeTextsRow.holds Tryz.pinned (OpenSpec.ofChange compositeTextsWrong)

/-- 'genlocklaw03.CompositePrinted': WHATEVER THE INPUT: true; the input reads as it did. -/
def compositePrintedSpec : ChangeSpec := { name := "compositePrinted", fn := fun _ => fun
  | [d1, d2] => { results := [.lit (.bool true)], args := [d1, d2] }
  | _ => none }
def compositePrintedRow : OpenClaim := { program := "ytjbfcdgbjgjliaagreatdoor", sum := "9ece0401095bea552caf961315b73584db34a0b1723187909f2bf40302312d58", func := "genlock/genlocklaw03.CompositePrinted", spec := "compositePrinted", inPlace := ["math.Float64bits", "math.Float64frombits", "math.archFloor", "math.archTrunc", "internal/abi.NoEscape", "internal/bytealg.MakeNoZero", "internal/bytealg.IndexByteString", "internal/bytealg.CountString", "internal/bytealg.IndexString"], unfollowed := true, recurses := true, named := ["genlock/composite.powers", "internal/strconv.uint64pow10", "math/bits.deBruijn32tab", "math/bits.deBruijn64tab", "unicode/utf8.first", "unicode/utf8.acceptRanges", "internal/bytealg.MaxLen", "strconv.ErrSyntax", "strconv.ErrRange"], apart := false, laid := [("math/bits.deBruijn32tab", laid_math_bits_deBruijn32tab), ("math/bits.deBruijn64tab", laid_math_bits_deBruijn64tab), ("internal/strconv.uint64pow10", laid_internal_strconv_uint64pow10), ("unicode/utf8.acceptRanges", laid_unicode_utf8_acceptRanges), ("strconv.ErrRange", laid_strconv_ErrRange), ("strconv.ErrSyntax", laid_strconv_ErrSyntax), ("genlock/composite.powers", laid_genlock_composite_powers), ("unicode/utf8.first", laid_unicode_utf8_first)] }
def CompositePrintedSaid : Prop := compositePrintedRow.holds Tryz.pinned (OpenSpec.ofChange compositePrintedSpec)

/-- ITS FALSE NEIGHBOUR: 'it returns false'. Refute it at one input. -/
def compositePrintedWrong : ChangeSpec := { name := "compositePrinted", fn := fun _ => fun
  | [d1, d2] => { results := [.lit (.bool false)], args := [d1, d2] }
  | _ => none }
def CompositePrintedWrongFalsely : Prop := compositePrintedRow.holds Tryz.pinned (OpenSpec.ofChange compositePrintedWrong)

/- THE SECOND FORM. 'bulk': how many values and letters a reading holds, each counted each time it is reached (what is shared counts as often as it is met; a slice's spare places count too). A statement '..UptoSaid' is the law's where the arguments, and the package variables that the reading takes, are together of bulk at most 1048576: NARROWER than '..Said'. Prove '..Said' where nothing that the law and all that it calls make is longer than what came in: it says more and counts as full. Else prove '..UptoSaid'. A law counts once. -/
mutual
def uptoBulk {H : Type} : DataW H → Nat
  | .lit (.string bytes) => bytes.length + 1
  | .lit _ => 1
  | .nil => 1
  | .ptr d => uptoBulk d + 1
  | .slice elems spare => uptoBulkAll elems + uptoBulkAll spare + 1
  | .agg parts => uptoBulkAll parts + 1
  | .iface _ d => uptoBulk d + 1
  | .map entries => uptoBulkEntries entries + 1
  | .held _ => 1
def uptoBulkAll {H : Type} : List (DataW H) → Nat
  | [] => 0
  | d :: r => uptoBulk d + uptoBulkAll r
def uptoBulkEntries {H : Type} : List (Lit × DataW H) → Nat
  | [] => 0
  | x :: r => uptoBulkEntry x + uptoBulkEntries r
def uptoBulkEntry {H : Type} : Lit × DataW H → Nat
  | (.string bytes, d) => bytes.length + uptoBulk d + 1
  | (_, d) => uptoBulk d + 1
 end
def uptoSmall : (H : Type) → List (DataW H) → Bool := fun _ ds => decide (uptoBulkAll ds ≤ 1048576)
def OpenSpec.upto (s : _root_.Go.ChangeSpec) : _root_.Go.OpenSpec := { _root_.Go.OpenSpec.ofChange s with cond := some uptoSmall }

/-- 'genlocklaw03.CompositeEncodes', WHERE WHAT IT READS IS OF BULK AT MOST 1048576: true; the input reads as it did. -/
def compositeEncodesUptoRow : OpenClaim := { program := "ytjbfcdgbjgjliaagreatdoor", sum := "9ece0401095bea552caf961315b73584db34a0b1723187909f2bf40302312d58", func := "genlock/genlocklaw03.CompositeEncodes", spec := "compositeEncodes", inPlace := ["internal/abi.NoEscape", "internal/bytealg.MakeNoZero", "math.Float64bits", "math.Float64frombits", "math.archFloor", "math.archTrunc"], unfollowed := true, recurses := true, named := ["genlock/composite.powers", "internal/strconv.uint64pow10", "math/bits.deBruijn32tab", "math/bits.deBruijn64tab"], apart := false, laid := [("math/bits.deBruijn32tab", laid_math_bits_deBruijn32tab), ("math/bits.deBruijn64tab", laid_math_bits_deBruijn64tab), ("internal/strconv.uint64pow10", laid_internal_strconv_uint64pow10), ("genlock/composite.powers", laid_genlock_composite_powers)], narrowed := true }
def CompositeEncodesUptoSaid : Prop := compositeEncodesUptoRow.holds Tryz.pinned (OpenSpec.upto compositeEncodesSpec)

/-- 'genlocklaw03.CompositeFields', WHERE WHAT IT READS IS OF BULK AT MOST 1048576: true; the input reads as it did. -/
def compositeFieldsUptoRow : OpenClaim := { program := "ytjbfcdgbjgjliaagreatdoor", sum := "9ece0401095bea552caf961315b73584db34a0b1723187909f2bf40302312d58", func := "genlock/genlocklaw03.CompositeFields", spec := "compositeFields", inPlace := ["internal/abi.NoEscape", "internal/bytealg.MakeNoZero", "math.Float64bits", "math.Float64frombits", "math.archFloor", "math.archTrunc"], unfollowed := true, recurses := true, named := ["genlock/composite.powers", "internal/strconv.uint64pow10", "math/bits.deBruijn32tab", "math/bits.deBruijn64tab"], apart := false, laid := [("math/bits.deBruijn32tab", laid_math_bits_deBruijn32tab), ("math/bits.deBruijn64tab", laid_math_bits_deBruijn64tab), ("internal/strconv.uint64pow10", laid_internal_strconv_uint64pow10), ("genlock/composite.powers", laid_genlock_composite_powers)], narrowed := true }
def CompositeFieldsUptoSaid : Prop := compositeFieldsUptoRow.holds Tryz.pinned (OpenSpec.upto compositeFieldsSpec)

/-- 'genlocklaw03.CompositeBands', WHERE WHAT IT READS IS OF BULK AT MOST 1048576: true; the input reads as it did. -/
def compositeBandsUptoRow : OpenClaim := { program := "ytjbfcdgbjgjliaagreatdoor", sum := "9ece0401095bea552caf961315b73584db34a0b1723187909f2bf40302312d58", func := "genlock/genlocklaw03.CompositeBands", spec := "compositeBands", inPlace := ["internal/abi.NoEscape", "internal/bytealg.MakeNoZero", "math.Float64bits", "math.Float64frombits", "math.archFloor", "math.archTrunc"], unfollowed := true, recurses := true, named := ["genlock/composite.powers", "internal/strconv.uint64pow10", "math/bits.deBruijn32tab", "math/bits.deBruijn64tab"], apart := false, laid := [("math/bits.deBruijn32tab", laid_math_bits_deBruijn32tab), ("math/bits.deBruijn64tab", laid_math_bits_deBruijn64tab), ("internal/strconv.uint64pow10", laid_internal_strconv_uint64pow10), ("genlock/composite.powers", laid_genlock_composite_powers)], narrowed := true }
def CompositeBandsUptoSaid : Prop := compositeBandsUptoRow.holds Tryz.pinned (OpenSpec.upto compositeBandsSpec)

/-- 'genlocklaw03.CompositeCombs', WHERE WHAT IT READS IS OF BULK AT MOST 1048576: true; the input reads as it did. -/
def compositeCombsUptoRow : OpenClaim := { program := "ytjbfcdgbjgjliaagreatdoor", sum := "9ece0401095bea552caf961315b73584db34a0b1723187909f2bf40302312d58", func := "genlock/genlocklaw03.CompositeCombs", spec := "compositeCombs", inPlace := ["internal/abi.NoEscape", "internal/bytealg.MakeNoZero", "math.Float64bits", "math.Float64frombits", "math.archFloor", "math.archTrunc"], unfollowed := true, recurses := true, named := ["genlock/composite.powers", "internal/strconv.uint64pow10", "math/bits.deBruijn32tab", "math/bits.deBruijn64tab"], apart := false, laid := [("math/bits.deBruijn32tab", laid_math_bits_deBruijn32tab), ("math/bits.deBruijn64tab", laid_math_bits_deBruijn64tab), ("internal/strconv.uint64pow10", laid_internal_strconv_uint64pow10), ("genlock/composite.powers", laid_genlock_composite_powers)], narrowed := true }
def CompositeCombsUptoSaid : Prop := compositeCombsUptoRow.holds Tryz.pinned (OpenSpec.upto compositeCombsSpec)

/-- 'genlocklaw03.CompositeMeasures', WHERE WHAT IT READS IS OF BULK AT MOST 1048576: true; the input reads as it did. -/
def compositeMeasuresUptoRow : OpenClaim := { program := "ytjbfcdgbjgjliaagreatdoor", sum := "9ece0401095bea552caf961315b73584db34a0b1723187909f2bf40302312d58", func := "genlock/genlocklaw03.CompositeMeasures", spec := "compositeMeasures", inPlace := ["internal/abi.NoEscape", "internal/bytealg.MakeNoZero", "math.Float64bits", "math.Float64frombits", "math.archFloor", "math.archTrunc"], unfollowed := true, recurses := true, named := ["genlock/composite.powers", "internal/strconv.uint64pow10", "math/bits.deBruijn32tab", "math/bits.deBruijn64tab"], apart := false, laid := [("math/bits.deBruijn32tab", laid_math_bits_deBruijn32tab), ("math/bits.deBruijn64tab", laid_math_bits_deBruijn64tab), ("internal/strconv.uint64pow10", laid_internal_strconv_uint64pow10), ("genlock/composite.powers", laid_genlock_composite_powers)], narrowed := true }
def CompositeMeasuresUptoSaid : Prop := compositeMeasuresUptoRow.holds Tryz.pinned (OpenSpec.upto compositeMeasuresSpec)

/-- 'genlocklaw03.CompositeLocks', WHERE WHAT IT READS IS OF BULK AT MOST 1048576: true; the input reads as it did. -/
def compositeLocksUptoRow : OpenClaim := { program := "ytjbfcdgbjgjliaagreatdoor", sum := "9ece0401095bea552caf961315b73584db34a0b1723187909f2bf40302312d58", func := "genlock/genlocklaw03.CompositeLocks", spec := "compositeLocks", inPlace := ["math.Float64bits", "math.Float64frombits", "math.archFloor", "math.archTrunc", "internal/abi.NoEscape", "internal/bytealg.MakeNoZero"], unfollowed := true, recurses := true, named := ["genlock/composite.powers", "internal/strconv.uint64pow10", "math/bits.deBruijn32tab", "math/bits.deBruijn64tab"], apart := false, laid := [("math/bits.deBruijn32tab", laid_math_bits_deBruijn32tab), ("math/bits.deBruijn64tab", laid_math_bits_deBruijn64tab), ("internal/strconv.uint64pow10", laid_internal_strconv_uint64pow10), ("genlock/composite.powers", laid_genlock_composite_powers)], narrowed := true }
def CompositeLocksUptoSaid : Prop := compositeLocksUptoRow.holds Tryz.pinned (OpenSpec.upto compositeLocksSpec)

/-- 'genlocklaw03.CompositeClamps', WHERE WHAT IT READS IS OF BULK AT MOST 1048576: true; the input reads as it did. -/
def compositeClampsUptoRow : OpenClaim := { program := "ytjbfcdgbjgjliaagreatdoor", sum := "9ece0401095bea552caf961315b73584db34a0b1723187909f2bf40302312d58", func := "genlock/genlocklaw03.CompositeClamps", spec := "compositeClamps", inPlace := ["internal/abi.NoEscape", "internal/bytealg.MakeNoZero", "math.Float64bits", "math.Float64frombits", "math.archFloor", "math.archTrunc"], unfollowed := true, recurses := true, named := ["genlock/composite.powers", "internal/strconv.uint64pow10", "math/bits.deBruijn32tab", "math/bits.deBruijn64tab"], apart := false, laid := [("math/bits.deBruijn32tab", laid_math_bits_deBruijn32tab), ("math/bits.deBruijn64tab", laid_math_bits_deBruijn64tab), ("internal/strconv.uint64pow10", laid_internal_strconv_uint64pow10), ("genlock/composite.powers", laid_genlock_composite_powers)], narrowed := true }
def CompositeClampsUptoSaid : Prop := compositeClampsUptoRow.holds Tryz.pinned (OpenSpec.upto compositeClampsSpec)

/-- 'genlocklaw03.CompositeFilters', WHERE WHAT IT READS IS OF BULK AT MOST 1048576: true; the input reads as it did. -/
def compositeFiltersUptoRow : OpenClaim := { program := "ytjbfcdgbjgjliaagreatdoor", sum := "9ece0401095bea552caf961315b73584db34a0b1723187909f2bf40302312d58", func := "genlock/genlocklaw03.CompositeFilters", spec := "compositeFilters", inPlace := ["internal/abi.NoEscape", "internal/bytealg.MakeNoZero", "math.Float64bits", "math.Float64frombits", "math.archFloor", "math.archTrunc"], unfollowed := true, recurses := true, named := ["genlock/composite.powers", "internal/strconv.uint64pow10", "math/bits.deBruijn32tab", "math/bits.deBruijn64tab"], apart := false, laid := [("math/bits.deBruijn32tab", laid_math_bits_deBruijn32tab), ("math/bits.deBruijn64tab", laid_math_bits_deBruijn64tab), ("internal/strconv.uint64pow10", laid_internal_strconv_uint64pow10), ("genlock/composite.powers", laid_genlock_composite_powers)], narrowed := true }
def CompositeFiltersUptoSaid : Prop := compositeFiltersUptoRow.holds Tryz.pinned (OpenSpec.upto compositeFiltersSpec)

/-- 'genlocklaw03.CompositeLines', WHERE WHAT IT READS IS OF BULK AT MOST 1048576: true; the input reads as it did. -/
def compositeLinesUptoRow : OpenClaim := { program := "ytjbfcdgbjgjliaagreatdoor", sum := "9ece0401095bea552caf961315b73584db34a0b1723187909f2bf40302312d58", func := "genlock/genlocklaw03.CompositeLines", spec := "compositeLines", inPlace := ["internal/abi.NoEscape", "internal/bytealg.MakeNoZero", "math.Float64bits", "math.Float64frombits", "math.archFloor", "math.archTrunc"], unfollowed := true, recurses := true, named := ["genlock/composite.powers", "internal/strconv.uint64pow10", "math/bits.deBruijn32tab", "math/bits.deBruijn64tab"], apart := false, laid := [("math/bits.deBruijn32tab", laid_math_bits_deBruijn32tab), ("math/bits.deBruijn64tab", laid_math_bits_deBruijn64tab), ("internal/strconv.uint64pow10", laid_internal_strconv_uint64pow10), ("genlock/composite.powers", laid_genlock_composite_powers)], narrowed := true }
def CompositeLinesUptoSaid : Prop := compositeLinesUptoRow.holds Tryz.pinned (OpenSpec.upto compositeLinesSpec)

/-- 'genlocklaw03.CompositeBack', WHERE WHAT IT READS IS OF BULK AT MOST 1048576: true; the input reads as it did. -/
def compositeBackUptoRow : OpenClaim := { program := "ytjbfcdgbjgjliaagreatdoor", sum := "9ece0401095bea552caf961315b73584db34a0b1723187909f2bf40302312d58", func := "genlock/genlocklaw03.CompositeBack", spec := "compositeBack", inPlace := ["math.Float64bits", "math.Float64frombits", "math.archFloor", "math.archTrunc", "internal/abi.NoEscape", "internal/bytealg.MakeNoZero"], unfollowed := true, recurses := true, named := ["genlock/composite.powers", "internal/strconv.uint64pow10", "math/bits.deBruijn32tab", "math/bits.deBruijn64tab"], apart := false, laid := [("math/bits.deBruijn32tab", laid_math_bits_deBruijn32tab), ("math/bits.deBruijn64tab", laid_math_bits_deBruijn64tab), ("internal/strconv.uint64pow10", laid_internal_strconv_uint64pow10), ("genlock/composite.powers", laid_genlock_composite_powers)], narrowed := true }
def CompositeBackUptoSaid : Prop := compositeBackUptoRow.holds Tryz.pinned (OpenSpec.upto compositeBackSpec)

/-- 'genlocklaw03.CompositeRamps', WHERE WHAT IT READS IS OF BULK AT MOST 1048576: true; the input reads as it did. -/
def compositeRampsUptoRow : OpenClaim := { program := "ytjbfcdgbjgjliaagreatdoor", sum := "9ece0401095bea552caf961315b73584db34a0b1723187909f2bf40302312d58", func := "genlock/genlocklaw03.CompositeRamps", spec := "compositeRamps", inPlace := ["math.Float64bits", "math.Float64frombits", "math.archFloor", "math.archTrunc", "internal/abi.NoEscape", "internal/bytealg.MakeNoZero"], unfollowed := true, recurses := true, named := ["genlock/composite.powers", "internal/strconv.uint64pow10", "math/bits.deBruijn32tab", "math/bits.deBruijn64tab"], apart := false, laid := [("math/bits.deBruijn32tab", laid_math_bits_deBruijn32tab), ("math/bits.deBruijn64tab", laid_math_bits_deBruijn64tab), ("internal/strconv.uint64pow10", laid_internal_strconv_uint64pow10), ("genlock/composite.powers", laid_genlock_composite_powers)], narrowed := true }
def CompositeRampsUptoSaid : Prop := compositeRampsUptoRow.holds Tryz.pinned (OpenSpec.upto compositeRampsSpec)

/-- 'genlocklaw03.CompositeAdjoint', WHERE WHAT IT READS IS OF BULK AT MOST 1048576: true; the input reads as it did. -/
def compositeAdjointUptoRow : OpenClaim := { program := "ytjbfcdgbjgjliaagreatdoor", sum := "9ece0401095bea552caf961315b73584db34a0b1723187909f2bf40302312d58", func := "genlock/genlocklaw03.CompositeAdjoint", spec := "compositeAdjoint", inPlace := ["internal/abi.NoEscape", "internal/bytealg.MakeNoZero", "math.Float64bits", "math.Float64frombits", "math.archFloor", "math.archTrunc"], unfollowed := true, recurses := true, named := ["genlock/composite.powers", "internal/strconv.uint64pow10", "math/bits.deBruijn32tab", "math/bits.deBruijn64tab"], apart := false, laid := [("math/bits.deBruijn32tab", laid_math_bits_deBruijn32tab), ("math/bits.deBruijn64tab", laid_math_bits_deBruijn64tab), ("internal/strconv.uint64pow10", laid_internal_strconv_uint64pow10), ("genlock/composite.powers", laid_genlock_composite_powers)], narrowed := true }
def CompositeAdjointUptoSaid : Prop := compositeAdjointUptoRow.holds Tryz.pinned (OpenSpec.upto compositeAdjointSpec)

/-- 'genlocklaw03.CompositeTurns', WHERE WHAT IT READS IS OF BULK AT MOST 1048576: true; the input reads as it did. -/
def compositeTurnsUptoRow : OpenClaim := { program := "ytjbfcdgbjgjliaagreatdoor", sum := "9ece0401095bea552caf961315b73584db34a0b1723187909f2bf40302312d58", func := "genlock/genlocklaw03.CompositeTurns", spec := "compositeTurns", inPlace := ["internal/abi.NoEscape", "internal/bytealg.MakeNoZero", "math.Float64bits", "math.Float64frombits", "math.archFloor", "math.archTrunc"], unfollowed := true, recurses := true, named := ["genlock/composite.powers", "internal/strconv.uint64pow10", "math/bits.deBruijn32tab", "math/bits.deBruijn64tab"], apart := false, laid := [("math/bits.deBruijn32tab", laid_math_bits_deBruijn32tab), ("math/bits.deBruijn64tab", laid_math_bits_deBruijn64tab), ("internal/strconv.uint64pow10", laid_internal_strconv_uint64pow10), ("genlock/composite.powers", laid_genlock_composite_powers)], narrowed := true }
def CompositeTurnsUptoSaid : Prop := compositeTurnsUptoRow.holds Tryz.pinned (OpenSpec.upto compositeTurnsSpec)

/-- 'genlocklaw03.CompositeTexts', WHERE WHAT IT READS IS OF BULK AT MOST 1048576: true; the input reads as it did. -/
def compositeTextsUptoRow : OpenClaim := { program := "ytjbfcdgbjgjliaagreatdoor", sum := "9ece0401095bea552caf961315b73584db34a0b1723187909f2bf40302312d58", func := "genlock/genlocklaw03.CompositeTexts", spec := "compositeTexts", inPlace := ["internal/abi.NoEscape", "internal/bytealg.MakeNoZero", "internal/bytealg.IndexByteString", "internal/bytealg.CountString", "internal/bytealg.IndexString", "math.Float64bits", "math.Float64frombits", "math.archFloor", "math.archTrunc"], unfollowed := true, recurses := true, named := ["genlock/composite.powers", "internal/strconv.uint64pow10", "math/bits.deBruijn32tab", "math/bits.deBruijn64tab", "unicode/utf8.first", "unicode/utf8.acceptRanges", "internal/bytealg.MaxLen", "strconv.ErrSyntax", "strconv.ErrRange"], apart := false, laid := [("math/bits.deBruijn32tab", laid_math_bits_deBruijn32tab), ("math/bits.deBruijn64tab", laid_math_bits_deBruijn64tab), ("internal/strconv.uint64pow10", laid_internal_strconv_uint64pow10), ("unicode/utf8.acceptRanges", laid_unicode_utf8_acceptRanges), ("strconv.ErrRange", laid_strconv_ErrRange), ("strconv.ErrSyntax", laid_strconv_ErrSyntax), ("genlock/composite.powers", laid_genlock_composite_powers), ("unicode/utf8.first", laid_unicode_utf8_first)], narrowed := true }
def CompositeTextsUptoSaid : Prop := compositeTextsUptoRow.holds Tryz.pinned (OpenSpec.upto compositeTextsSpec)

/-- 'genlocklaw03.CompositePrinted', WHERE WHAT IT READS IS OF BULK AT MOST 1048576: true; the input reads as it did. -/
def compositePrintedUptoRow : OpenClaim := { program := "ytjbfcdgbjgjliaagreatdoor", sum := "9ece0401095bea552caf961315b73584db34a0b1723187909f2bf40302312d58", func := "genlock/genlocklaw03.CompositePrinted", spec := "compositePrinted", inPlace := ["math.Float64bits", "math.Float64frombits", "math.archFloor", "math.archTrunc", "internal/abi.NoEscape", "internal/bytealg.MakeNoZero", "internal/bytealg.IndexByteString", "internal/bytealg.CountString", "internal/bytealg.IndexString"], unfollowed := true, recurses := true, named := ["genlock/composite.powers", "internal/strconv.uint64pow10", "math/bits.deBruijn32tab", "math/bits.deBruijn64tab", "unicode/utf8.first", "unicode/utf8.acceptRanges", "internal/bytealg.MaxLen", "strconv.ErrSyntax", "strconv.ErrRange"], apart := false, laid := [("math/bits.deBruijn32tab", laid_math_bits_deBruijn32tab), ("math/bits.deBruijn64tab", laid_math_bits_deBruijn64tab), ("internal/strconv.uint64pow10", laid_internal_strconv_uint64pow10), ("unicode/utf8.acceptRanges", laid_unicode_utf8_acceptRanges), ("strconv.ErrRange", laid_strconv_ErrRange), ("strconv.ErrSyntax", laid_strconv_ErrSyntax), ("genlock/composite.powers", laid_genlock_composite_powers), ("unicode/utf8.first", laid_unicode_utf8_first)], narrowed := true }
def CompositePrintedUptoSaid : Prop := compositePrintedUptoRow.holds Tryz.pinned (OpenSpec.upto compositePrintedSpec)

end Rows
end Go.Proofs.YtjbfcdgbjgjliaaGreatDoor
