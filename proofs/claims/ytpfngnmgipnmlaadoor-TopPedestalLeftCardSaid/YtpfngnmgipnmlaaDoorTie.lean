/-
  DERIVED. GIVEN WITH THE SEED: THE PROGRAM's TIES (one call each: nine closed facts by the kernel) AND EACH ROW's TIE, after the 31st guide's Derived/Test/Toyas{Tie, Card}.lean. No idea stands in it: it is a product of the set-up. Laid BY PROGRAM, IN A SANDBOX (cutbox-door.mjs). By AI agents, Wed Nov 11 2026. No macro, syntax, notation, axiom, sorry.
-/
import Derived.Test.YtpfngnmgipnmlaaDoorRows
import Derived.LaidByTextLater
import Derived.SevenTiedAt
import Derived.LaidSub
import Derived.LaidOnce
namespace Go.Proofs.YtpfngnmgipnmlaaDoor
open Go
set_option maxRecDepth 100000
theorem seatTie1 : Tryd.prog.laidByTextLater [("genlock/code.rates", Rows.laid_genlock_code_rates), ("genlock/tape.whole", Rows.laid_genlock_tape_whole), ("genlock/tape.magic", Rows.laid_genlock_tape_magic)] [.widerDeep, .data, .widerDeep] true :=
  Program.laidByTextLater_by_one 24 8 5 (by kernel_rfl) (by kernel_rfl) (by kernel_rfl) (by kernel_rfl) (by kernel_rfl) (by kernel_rfl) (fun _ _ => by kernel_rfl)
theorem noOwnUnsafe : Tryd.pinned.checked.prog.headLifts.contains "ownunsafe" = false := by kernel_rfl
theorem tie : Tryd.prog.laidByTextLater [("genlock/code.rates", Rows.laid_genlock_code_rates)] [.widerDeep] true :=
  Program.laidByTextLater.sub seatTie1 ["genlock/code.rates"] (by kernel_rfl) (by kernel_rfl)
theorem topPedestalCounted_row_tie : Rows.topPedestalCountedRow.laidByTextAt .later Tryd.pinned [.widerDeep] true :=
  OpenClaim.laidByTextAt_later rfl rfl tie noOwnUnsafe
theorem tie2 : Tryd.prog.laidByTextLater [("genlock/tape.magic", Rows.laid_genlock_tape_magic)] [.widerDeep] true :=
  Program.laidByTextLater.sub seatTie1 ["genlock/tape.magic"] (by kernel_rfl) (by kernel_rfl)
theorem topDollyTaped_row_tie : Rows.topDollyTapedRow.laidByTextAt .later Tryd.pinned [.widerDeep] true :=
  OpenClaim.laidByTextAt_later rfl rfl tie2 noOwnUnsafe
theorem tie3 : Tryd.prog.laidByTextLater [("genlock/code.rates", Rows.laid_genlock_code_rates), ("genlock/tape.whole", Rows.laid_genlock_tape_whole)] [.widerDeep, .data] true :=
  Program.laidByTextLater.sub seatTie1 ["genlock/code.rates", "genlock/tape.whole"] (by kernel_rfl) (by kernel_rfl)
theorem topPedestalConformed_row_tie : Rows.topPedestalConformedRow.laidByTextAt .later Tryd.pinned [.widerDeep, .data] true :=
  OpenClaim.laidByTextAt_later rfl rfl tie3 noOwnUnsafe
theorem tie4 : Tryd.prog.laidByTextLater [("genlock/tape.whole", Rows.laid_genlock_tape_whole), ("genlock/tape.magic", Rows.laid_genlock_tape_magic)] [.data, .widerDeep] true :=
  Program.laidByTextLater.sub seatTie1 ["genlock/tape.whole", "genlock/tape.magic"] (by kernel_rfl) (by kernel_rfl)
theorem topDollySplit_row_tie : Rows.topDollySplitRow.laidByTextAt .later Tryd.pinned [.data, .widerDeep] true :=
  OpenClaim.laidByTextAt_later rfl rfl tie4 noOwnUnsafe
theorem tie5 : Tryd.prog.laidByTextLater [("genlock/code.rates", Rows.laid_genlock_code_rates), ("genlock/tape.whole", Rows.laid_genlock_tape_whole), ("genlock/tape.magic", Rows.laid_genlock_tape_magic)] [.widerDeep, .data, .widerDeep] true :=
  Program.laidByTextLater.sub seatTie1 ["genlock/code.rates", "genlock/tape.whole", "genlock/tape.magic"] (by kernel_rfl) (by kernel_rfl)
theorem topPedestalLeft_row_tie : Rows.topPedestalLeftRow.laidByTextAt .later Tryd.pinned [.widerDeep, .data, .widerDeep] true :=
  OpenClaim.laidByTextAt_later rfl rfl tie5 noOwnUnsafe
theorem topPedestalCountedUpto_row_tie : Rows.topPedestalCountedUptoRow.laidByTextAt .later Tryd.pinned [.widerDeep] true :=
  OpenClaim.laidByTextAt_later rfl rfl tie noOwnUnsafe
theorem topDollyTapedUpto_row_tie : Rows.topDollyTapedUptoRow.laidByTextAt .later Tryd.pinned [.widerDeep] true :=
  OpenClaim.laidByTextAt_later rfl rfl tie2 noOwnUnsafe
theorem topPedestalConformedUpto_row_tie : Rows.topPedestalConformedUptoRow.laidByTextAt .later Tryd.pinned [.widerDeep, .data] true :=
  OpenClaim.laidByTextAt_later rfl rfl tie3 noOwnUnsafe
theorem topDollySplitUpto_row_tie : Rows.topDollySplitUptoRow.laidByTextAt .later Tryd.pinned [.data, .widerDeep] true :=
  OpenClaim.laidByTextAt_later rfl rfl tie4 noOwnUnsafe
theorem topPedestalLeftUpto_row_tie : Rows.topPedestalLeftUptoRow.laidByTextAt .later Tryd.pinned [.widerDeep, .data, .widerDeep] true :=
  OpenClaim.laidByTextAt_later rfl rfl tie5 noOwnUnsafe
end Go.Proofs.YtpfngnmgipnmlaaDoor
