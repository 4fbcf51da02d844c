/- .. and the one on head.bits. -/
import Derived.Test.YtgfgmaiddmohaaaDoorDoor
import Derived.Test.YtgfgmaiddmohaaaDoorHead
namespace Go.Proofs.YtgfgmaiddmohaaaDoor
open Go.ChangeShapes Go.WideShapes Go.ChangeAt Go.RowKit

def laidB : List (String × DataW Unit) := [("errors.errorType", Rows.laid_errors_errorType), ("hustings/head.bits", Rows.laid_hustings_head_bits)]

theorem laid_of_B {W : World} (h : laidMetH Tryd.prog laidB W) : As.Laid W ∧ Hd.Bits W := by
  have h' : laidMet Tryd.prog [("hustings/head.bits", Rows.laid_hustings_head_bits)] W ∧ handlesMet Tryd.prog laidE W := h
  have hb := arr_of_laid (g := 0) (T := 78) (E := 3) (n := 8) h'.1 (by kernel_rfl) (by kernel_rfl) (by kernel_rfl) (by kernel_rfl) (by kernel_rfl)
  exact ⟨laid_of_handles h'.2 (List.mem_singleton.2 rfl), ⟨hb 0 15 rfl, hb 1 10 rfl, hb 2 9 rfl, hb 3 8 rfl, hb 4 7 rfl, hb 5 6 rfl, hb 6 5 rfl, hb 7 4 rfl⟩⟩

theorem door_metB (os : Os) (args : Array Value) : laidMetH Tryd.prog laidB ((World.doorLaid Tryd.prog 200 os).forCall (fun _ _ => 0) ⟨#[], args, []⟩).memory :=
  laidMetH_of_parts3 (fuel := 8) (laidMet_of_run' 8 (by kernel_rfl) (by kernel_rfl)) (by kernel_rfl) (by kernel_rfl)
end Go.Proofs.YtgfgmaiddmohaaaDoor
