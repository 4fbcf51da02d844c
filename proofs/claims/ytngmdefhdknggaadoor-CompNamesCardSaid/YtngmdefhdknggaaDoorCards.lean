/-
  DERIVED. GIVEN WITH THE SEED: THE CARDS: each row of YtngmdefhdknggaaDoorRows.lean that lists a variable, with what it lists TIED to the program's text (the seventh form; the later family's looks); each row that meets fmt, with fmt's text TOLD by the authors' own Lean function (tested against real Go, not proved from fmt's source: count such statements apart). THE CARD IS WHAT COUNTS. Prove the row's statement (the work); the ties are given (YtngmdefhdknggaaDoorTie.lean); close each card by the builder's one call (the guide's Derived/Test/ToyasCard.lean, 'card_holds'). Laid BY PROGRAM, IN A SANDBOX (cutbox-door.mjs). By AI agents, Wed Nov 11 2026. No macro, syntax, notation, axiom, sorry.
-/
import Derived.Test.YtngmdefhdknggaaDoorRows
import GoSem.ClaimSeven
namespace Go.Proofs.YtngmdefhdknggaaDoor
namespace Rows

/-- THE TIED CARD OF 'hustingslaw04.CompNames'. -/
def compNamesCard : Claim7 := { stood := { row := compNamesRow, standIns := [], harness := (true, "9cea1f745f1dea7602edc37c5009920afca15196eefb796c891daee86258663f"), looks := true }, kinds := [], alts := [], laidByText := true, laidKinds := [.handle], laidTests := true, laidLooks := .later }
def CompNamesCardSaid : Prop := Claim7.holds Tryd.pinned (.plain (OpenSpec.ofChange compNamesSpec)) compNamesCard

/-- THE TIED CARD OF 'hustingslaw04.CompBack'. -/
def compBackCard : Claim7 := { stood := { row := compBackRow, standIns := [], harness := (true, "9cea1f745f1dea7602edc37c5009920afca15196eefb796c891daee86258663f"), looks := true }, kinds := [], alts := [], laidByText := true, laidKinds := [.handle], laidTests := true, laidLooks := .later }
def CompBackCardSaid : Prop := Claim7.holds Tryd.pinned (.plain (OpenSpec.ofChange compBackSpec)) compBackCard

/-- THE TIED CARD OF 'hustingslaw04.CompLess'. -/
def compLessCard : Claim7 := { stood := { row := compLessRow, standIns := [], harness := (true, "9cea1f745f1dea7602edc37c5009920afca15196eefb796c891daee86258663f"), looks := true }, kinds := [], alts := [], laidByText := true, laidKinds := [.handle], laidTests := true, laidLooks := .later }
def CompLessCardSaid : Prop := Claim7.holds Tryd.pinned (.plain (OpenSpec.ofChange compLessSpec)) compLessCard

/-- THE TIED CARD OF 'hustingslaw04.CompBehind'. -/
def compBehindCard : Claim7 := { stood := { row := compBehindRow, standIns := [], harness := (true, "9cea1f745f1dea7602edc37c5009920afca15196eefb796c891daee86258663f"), looks := true }, kinds := [], alts := [], laidByText := true, laidKinds := [.handle], laidTests := true, laidLooks := .later }
def CompBehindCardSaid : Prop := Claim7.holds Tryd.pinned (.plain (OpenSpec.ofChange compBehindSpec)) compBehindCard

/-- THE TIED CARD OF 'hustingslaw04.CompAs'. -/
def compAsCard : Claim7 := { stood := { row := compAsRow, standIns := [], harness := (true, "9cea1f745f1dea7602edc37c5009920afca15196eefb796c891daee86258663f"), looks := true }, kinds := [], alts := [], laidByText := true, laidKinds := [.handle], laidTests := true, laidLooks := .later }
def CompAsCardSaid : Prop := Claim7.holds Tryd.pinned (.plain (OpenSpec.ofChange compAsSpec)) compAsCard

/-- THE TIED CARD OF 'hustingslaw05.DataWrites'. -/
def dataWritesCard : Claim7 := { stood := { row := dataWritesRow, standIns := [], harness := (true, "9cea1f745f1dea7602edc37c5009920afca15196eefb796c891daee86258663f"), looks := true }, kinds := [], alts := [], laidByText := true, laidKinds := [.handle, .widerDeep], laidTests := true, laidLooks := .later }
def DataWritesCardSaid : Prop := Claim7.holds Tryd.pinned (.plain (OpenSpec.ofChange dataWritesSpec)) dataWritesCard

/-- THE TIED CARD OF 'hustingslaw05.DataBack'. -/
def dataBackCard : Claim7 := { stood := { row := dataBackRow, standIns := [], harness := (true, "9cea1f745f1dea7602edc37c5009920afca15196eefb796c891daee86258663f"), looks := true }, kinds := [], alts := [], laidByText := true, laidKinds := [.handle, .widerDeep], laidTests := true, laidLooks := .later }
def DataBackCardSaid : Prop := Claim7.holds Tryd.pinned (.plain (OpenSpec.ofChange dataBackSpec)) dataBackCard

/-- THE TIED CARD OF 'hustingslaw05.DataWhole'. -/
def dataWholeCard : Claim7 := { stood := { row := dataWholeRow, standIns := [], harness := (true, "9cea1f745f1dea7602edc37c5009920afca15196eefb796c891daee86258663f"), looks := true }, kinds := [], alts := [], laidByText := true, laidKinds := [.handle, .widerDeep], laidTests := true, laidLooks := .later }
def DataWholeCardSaid : Prop := Claim7.holds Tryd.pinned (.plain (OpenSpec.ofChange dataWholeSpec)) dataWholeCard

/-- THE TIED CARD OF 'hustingslaw05.DataJust'. -/
def dataJustCard : Claim7 := { stood := { row := dataJustRow, standIns := [], harness := (true, "9cea1f745f1dea7602edc37c5009920afca15196eefb796c891daee86258663f"), looks := true }, kinds := [], alts := [], laidByText := true, laidKinds := [.handle, .widerDeep], laidTests := true, laidLooks := .later }
def DataJustCardSaid : Prop := Claim7.holds Tryd.pinned (.plain (OpenSpec.ofChange dataJustSpec)) dataJustCard

/-- THE TIED CARD OF 'hustingslaw05.DataNames'. -/
def dataNamesCard : Claim7 := { stood := { row := dataNamesRow, standIns := [], harness := (true, "9cea1f745f1dea7602edc37c5009920afca15196eefb796c891daee86258663f"), looks := true }, kinds := [], alts := [], laidByText := true, laidKinds := [.handle, .widerDeep], laidTests := true, laidLooks := .later }
def DataNamesCardSaid : Prop := Claim7.holds Tryd.pinned (.plain (OpenSpec.ofChange dataNamesSpec)) dataNamesCard

/-- THE TIED CARD OF 'hustingslaw05.DataTells'. -/
def dataTellsCard : Claim7 := { stood := { row := dataTellsRow, standIns := [], harness := (true, "9cea1f745f1dea7602edc37c5009920afca15196eefb796c891daee86258663f"), looks := true }, kinds := [], alts := [], laidByText := true, laidKinds := [.handle, .widerDeep], laidTests := true, laidLooks := .later }
def DataTellsCardSaid : Prop := Claim7.holds Tryd.pinned (.plain (OpenSpec.ofChange dataTellsSpec)) dataTellsCard

/-- THE TIED CARD OF 'hustingslaw05.DataFolded'. -/
def dataFoldedCard : Claim7 := { stood := { row := dataFoldedRow, standIns := [], harness := (true, "9cea1f745f1dea7602edc37c5009920afca15196eefb796c891daee86258663f"), looks := true }, kinds := [], alts := [], laidByText := true, laidKinds := [.handle, .widerDeep], laidTests := true, laidLooks := .later }
def DataFoldedCardSaid : Prop := Claim7.holds Tryd.pinned (.plain (OpenSpec.ofChange dataFoldedSpec)) dataFoldedCard

/-- THE SECOND FORM's CARD OF 'hustingslaw04.CompNames'. -/
def compNamesUptoCard : Claim7 := { stood := { row := compNamesUptoRow, standIns := [], harness := (true, "9cea1f745f1dea7602edc37c5009920afca15196eefb796c891daee86258663f"), looks := true }, kinds := [], alts := [], laidByText := true, laidKinds := [.handle], laidTests := true, laidLooks := .later }
def CompNamesUptoCardSaid : Prop := Claim7.holds Tryd.pinned (.plain (OpenSpec.upto compNamesSpec)) compNamesUptoCard

/-- THE SECOND FORM's CARD OF 'hustingslaw04.CompBack'. -/
def compBackUptoCard : Claim7 := { stood := { row := compBackUptoRow, standIns := [], harness := (true, "9cea1f745f1dea7602edc37c5009920afca15196eefb796c891daee86258663f"), looks := true }, kinds := [], alts := [], laidByText := true, laidKinds := [.handle], laidTests := true, laidLooks := .later }
def CompBackUptoCardSaid : Prop := Claim7.holds Tryd.pinned (.plain (OpenSpec.upto compBackSpec)) compBackUptoCard

/-- THE SECOND FORM's CARD OF 'hustingslaw04.CompLess'. -/
def compLessUptoCard : Claim7 := { stood := { row := compLessUptoRow, standIns := [], harness := (true, "9cea1f745f1dea7602edc37c5009920afca15196eefb796c891daee86258663f"), looks := true }, kinds := [], alts := [], laidByText := true, laidKinds := [.handle], laidTests := true, laidLooks := .later }
def CompLessUptoCardSaid : Prop := Claim7.holds Tryd.pinned (.plain (OpenSpec.upto compLessSpec)) compLessUptoCard

/-- THE SECOND FORM's CARD OF 'hustingslaw04.CompBehind'. -/
def compBehindUptoCard : Claim7 := { stood := { row := compBehindUptoRow, standIns := [], harness := (true, "9cea1f745f1dea7602edc37c5009920afca15196eefb796c891daee86258663f"), looks := true }, kinds := [], alts := [], laidByText := true, laidKinds := [.handle], laidTests := true, laidLooks := .later }
def CompBehindUptoCardSaid : Prop := Claim7.holds Tryd.pinned (.plain (OpenSpec.upto compBehindSpec)) compBehindUptoCard

/-- THE SECOND FORM's CARD OF 'hustingslaw04.CompAs'. -/
def compAsUptoCard : Claim7 := { stood := { row := compAsUptoRow, standIns := [], harness := (true, "9cea1f745f1dea7602edc37c5009920afca15196eefb796c891daee86258663f"), looks := true }, kinds := [], alts := [], laidByText := true, laidKinds := [.handle], laidTests := true, laidLooks := .later }
def CompAsUptoCardSaid : Prop := Claim7.holds Tryd.pinned (.plain (OpenSpec.upto compAsSpec)) compAsUptoCard

/-- THE SECOND FORM's CARD OF 'hustingslaw05.DataWrites'. -/
def dataWritesUptoCard : Claim7 := { stood := { row := dataWritesUptoRow, standIns := [], harness := (true, "9cea1f745f1dea7602edc37c5009920afca15196eefb796c891daee86258663f"), looks := true }, kinds := [], alts := [], laidByText := true, laidKinds := [.handle, .widerDeep], laidTests := true, laidLooks := .later }
def DataWritesUptoCardSaid : Prop := Claim7.holds Tryd.pinned (.plain (OpenSpec.upto dataWritesSpec)) dataWritesUptoCard

/-- THE SECOND FORM's CARD OF 'hustingslaw05.DataBack'. -/
def dataBackUptoCard : Claim7 := { stood := { row := dataBackUptoRow, standIns := [], harness := (true, "9cea1f745f1dea7602edc37c5009920afca15196eefb796c891daee86258663f"), looks := true }, kinds := [], alts := [], laidByText := true, laidKinds := [.handle, .widerDeep], laidTests := true, laidLooks := .later }
def DataBackUptoCardSaid : Prop := Claim7.holds Tryd.pinned (.plain (OpenSpec.upto dataBackSpec)) dataBackUptoCard

/-- THE SECOND FORM's CARD OF 'hustingslaw05.DataWhole'. -/
def dataWholeUptoCard : Claim7 := { stood := { row := dataWholeUptoRow, standIns := [], harness := (true, "9cea1f745f1dea7602edc37c5009920afca15196eefb796c891daee86258663f"), looks := true }, kinds := [], alts := [], laidByText := true, laidKinds := [.handle, .widerDeep], laidTests := true, laidLooks := .later }
def DataWholeUptoCardSaid : Prop := Claim7.holds Tryd.pinned (.plain (OpenSpec.upto dataWholeSpec)) dataWholeUptoCard

/-- THE SECOND FORM's CARD OF 'hustingslaw05.DataJust'. -/
def dataJustUptoCard : Claim7 := { stood := { row := dataJustUptoRow, standIns := [], harness := (true, "9cea1f745f1dea7602edc37c5009920afca15196eefb796c891daee86258663f"), looks := true }, kinds := [], alts := [], laidByText := true, laidKinds := [.handle, .widerDeep], laidTests := true, laidLooks := .later }
def DataJustUptoCardSaid : Prop := Claim7.holds Tryd.pinned (.plain (OpenSpec.upto dataJustSpec)) dataJustUptoCard

/-- THE SECOND FORM's CARD OF 'hustingslaw05.DataNames'. -/
def dataNamesUptoCard : Claim7 := { stood := { row := dataNamesUptoRow, standIns := [], harness := (true, "9cea1f745f1dea7602edc37c5009920afca15196eefb796c891daee86258663f"), looks := true }, kinds := [], alts := [], laidByText := true, laidKinds := [.handle, .widerDeep], laidTests := true, laidLooks := .later }
def DataNamesUptoCardSaid : Prop := Claim7.holds Tryd.pinned (.plain (OpenSpec.upto dataNamesSpec)) dataNamesUptoCard

/-- THE SECOND FORM's CARD OF 'hustingslaw05.DataTells'. -/
def dataTellsUptoCard : Claim7 := { stood := { row := dataTellsUptoRow, standIns := [], harness := (true, "9cea1f745f1dea7602edc37c5009920afca15196eefb796c891daee86258663f"), looks := true }, kinds := [], alts := [], laidByText := true, laidKinds := [.handle, .widerDeep], laidTests := true, laidLooks := .later }
def DataTellsUptoCardSaid : Prop := Claim7.holds Tryd.pinned (.plain (OpenSpec.upto dataTellsSpec)) dataTellsUptoCard

/-- THE SECOND FORM's CARD OF 'hustingslaw05.DataFolded'. -/
def dataFoldedUptoCard : Claim7 := { stood := { row := dataFoldedUptoRow, standIns := [], harness := (true, "9cea1f745f1dea7602edc37c5009920afca15196eefb796c891daee86258663f"), looks := true }, kinds := [], alts := [], laidByText := true, laidKinds := [.handle, .widerDeep], laidTests := true, laidLooks := .later }
def DataFoldedUptoCardSaid : Prop := Claim7.holds Tryd.pinned (.plain (OpenSpec.upto dataFoldedSpec)) dataFoldedUptoCard
end Rows
end Go.Proofs.YtngmdefhdknggaaDoor
