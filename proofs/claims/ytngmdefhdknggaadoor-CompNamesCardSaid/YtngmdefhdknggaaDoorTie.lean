/-
  DERIVED. GIVEN WITH THE SEED: THE PROGRAM's TIES (one call each: nine closed facts by the kernel) AND EACH ROW's TIE, after the 31st guide's Derived/Test/Toyas{Tie, Card}.lean. No idea stands in it: it is a product of the set-up. Laid BY PROGRAM, IN A SANDBOX (cutbox-door.mjs). By AI agents, Wed Nov 11 2026. No macro, syntax, notation, axiom, sorry.
-/
import Derived.Test.YtngmdefhdknggaaDoorRows
import Derived.LaidByTextLater
import Derived.SevenTiedAt
import Derived.LaidSub
import Derived.LaidOnce
namespace Go.Proofs.YtngmdefhdknggaaDoor
open Go
set_option maxRecDepth 100000
theorem seatTie1 : Tryd.prog.laidByTextLater [("errors.errorType", Rows.laid_errors_errorType), ("hustings/rdata.compressed", Rows.laid_hustings_rdata_compressed)] [.handle, .widerDeep] true :=
  Program.laidByTextLater_by_one 21 8 6 (by kernel_rfl) (by kernel_rfl) (by kernel_rfl) (by kernel_rfl) (by kernel_rfl) (by kernel_rfl) (fun _ _ => by kernel_rfl)
theorem noOwnUnsafe : Tryd.pinned.checked.prog.headLifts.contains "ownunsafe" = false := by kernel_rfl
theorem tie : Tryd.prog.laidByTextLater [("errors.errorType", Rows.laid_errors_errorType)] [.handle] true :=
  Program.laidByTextLater.sub seatTie1 ["errors.errorType"] (by kernel_rfl) (by kernel_rfl)
theorem compNames_row_tie : Rows.compNamesRow.laidByTextAt .later Tryd.pinned [.handle] true :=
  OpenClaim.laidByTextAt_later rfl rfl tie noOwnUnsafe
theorem compBack_row_tie : Rows.compBackRow.laidByTextAt .later Tryd.pinned [.handle] true :=
  OpenClaim.laidByTextAt_later rfl rfl tie noOwnUnsafe
theorem compLess_row_tie : Rows.compLessRow.laidByTextAt .later Tryd.pinned [.handle] true :=
  OpenClaim.laidByTextAt_later rfl rfl tie noOwnUnsafe
theorem compBehind_row_tie : Rows.compBehindRow.laidByTextAt .later Tryd.pinned [.handle] true :=
  OpenClaim.laidByTextAt_later rfl rfl tie noOwnUnsafe
theorem compAs_row_tie : Rows.compAsRow.laidByTextAt .later Tryd.pinned [.handle] true :=
  OpenClaim.laidByTextAt_later rfl rfl tie noOwnUnsafe
theorem tie2 : Tryd.prog.laidByTextLater [("errors.errorType", Rows.laid_errors_errorType), ("hustings/rdata.compressed", Rows.laid_hustings_rdata_compressed)] [.handle, .widerDeep] true :=
  Program.laidByTextLater.sub seatTie1 ["errors.errorType", "hustings/rdata.compressed"] (by kernel_rfl) (by kernel_rfl)
theorem dataWrites_row_tie : Rows.dataWritesRow.laidByTextAt .later Tryd.pinned [.handle, .widerDeep] true :=
  OpenClaim.laidByTextAt_later rfl rfl tie2 noOwnUnsafe
theorem dataBack_row_tie : Rows.dataBackRow.laidByTextAt .later Tryd.pinned [.handle, .widerDeep] true :=
  OpenClaim.laidByTextAt_later rfl rfl tie2 noOwnUnsafe
theorem dataWhole_row_tie : Rows.dataWholeRow.laidByTextAt .later Tryd.pinned [.handle, .widerDeep] true :=
  OpenClaim.laidByTextAt_later rfl rfl tie2 noOwnUnsafe
theorem dataJust_row_tie : Rows.dataJustRow.laidByTextAt .later Tryd.pinned [.handle, .widerDeep] true :=
  OpenClaim.laidByTextAt_later rfl rfl tie2 noOwnUnsafe
theorem dataNames_row_tie : Rows.dataNamesRow.laidByTextAt .later Tryd.pinned [.handle, .widerDeep] true :=
  OpenClaim.laidByTextAt_later rfl rfl tie2 noOwnUnsafe
theorem dataTells_row_tie : Rows.dataTellsRow.laidByTextAt .later Tryd.pinned [.handle, .widerDeep] true :=
  OpenClaim.laidByTextAt_later rfl rfl tie2 noOwnUnsafe
theorem dataFolded_row_tie : Rows.dataFoldedRow.laidByTextAt .later Tryd.pinned [.handle, .widerDeep] true :=
  OpenClaim.laidByTextAt_later rfl rfl tie2 noOwnUnsafe
theorem compNamesUpto_row_tie : Rows.compNamesUptoRow.laidByTextAt .later Tryd.pinned [.handle] true :=
  OpenClaim.laidByTextAt_later rfl rfl tie noOwnUnsafe
theorem compBackUpto_row_tie : Rows.compBackUptoRow.laidByTextAt .later Tryd.pinned [.handle] true :=
  OpenClaim.laidByTextAt_later rfl rfl tie noOwnUnsafe
theorem compLessUpto_row_tie : Rows.compLessUptoRow.laidByTextAt .later Tryd.pinned [.handle] true :=
  OpenClaim.laidByTextAt_later rfl rfl tie noOwnUnsafe
theorem compBehindUpto_row_tie : Rows.compBehindUptoRow.laidByTextAt .later Tryd.pinned [.handle] true :=
  OpenClaim.laidByTextAt_later rfl rfl tie noOwnUnsafe
theorem compAsUpto_row_tie : Rows.compAsUptoRow.laidByTextAt .later Tryd.pinned [.handle] true :=
  OpenClaim.laidByTextAt_later rfl rfl tie noOwnUnsafe
theorem dataWritesUpto_row_tie : Rows.dataWritesUptoRow.laidByTextAt .later Tryd.pinned [.handle, .widerDeep] true :=
  OpenClaim.laidByTextAt_later rfl rfl tie2 noOwnUnsafe
theorem dataBackUpto_row_tie : Rows.dataBackUptoRow.laidByTextAt .later Tryd.pinned [.handle, .widerDeep] true :=
  OpenClaim.laidByTextAt_later rfl rfl tie2 noOwnUnsafe
theorem dataWholeUpto_row_tie : Rows.dataWholeUptoRow.laidByTextAt .later Tryd.pinned [.handle, .widerDeep] true :=
  OpenClaim.laidByTextAt_later rfl rfl tie2 noOwnUnsafe
theorem dataJustUpto_row_tie : Rows.dataJustUptoRow.laidByTextAt .later Tryd.pinned [.handle, .widerDeep] true :=
  OpenClaim.laidByTextAt_later rfl rfl tie2 noOwnUnsafe
theorem dataNamesUpto_row_tie : Rows.dataNamesUptoRow.laidByTextAt .later Tryd.pinned [.handle, .widerDeep] true :=
  OpenClaim.laidByTextAt_later rfl rfl tie2 noOwnUnsafe
theorem dataTellsUpto_row_tie : Rows.dataTellsUptoRow.laidByTextAt .later Tryd.pinned [.handle, .widerDeep] true :=
  OpenClaim.laidByTextAt_later rfl rfl tie2 noOwnUnsafe
theorem dataFoldedUpto_row_tie : Rows.dataFoldedUptoRow.laidByTextAt .later Tryd.pinned [.handle, .widerDeep] true :=
  OpenClaim.laidByTextAt_later rfl rfl tie2 noOwnUnsafe
end Go.Proofs.YtngmdefhdknggaaDoor
