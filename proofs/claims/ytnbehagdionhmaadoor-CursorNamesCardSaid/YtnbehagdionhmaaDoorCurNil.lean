/- A cursor's methods at nil. -/
import Derived.Test.YtnbehagdionhmaaDoorCurAw
namespace Go.Proofs.YtnbehagdionhmaaDoor.Cur
open Go.RowKit

theorem byte_nil (w : World) (hg : As.Laid w) :
    Calls Tryd.prog 15 #[.pointer none] w fun e w' => e = .returned (.tuple #[.int .u8 0, .int .i64 2]) ∧ Chg Nob w w' := by
  have HN := Lib.hid (number_no w _ 1 2 hg (next_nil w 1))
  go_enter Tryd.func15, Tryd.ntmps15
  go_wp2_with fail
  refine HN.out.mono ?_
  rintro e w1 ⟨rfl, hC⟩
  go_wp2_with fail
  go_ret2
  exact ⟨rfl, hC⟩

theorem two_nil (w : World) (hg : As.Laid w) :
    Calls Tryd.prog 14 #[.pointer none] w fun e w' => e = .returned (.tuple #[.int .u16 0, .int .i64 2]) ∧ Chg Nob w w' := by
  have HN := Lib.hid (number_no w _ 2 2 hg (next_nil w 2))
  go_enter Tryd.func14, Tryd.ntmps14
  go_wp2_with fail
  refine HN.out.mono ?_
  rintro e w1 ⟨rfl, hC⟩
  go_wp2_with fail
  go_ret2
  exact ⟨rfl, hC⟩

theorem four_nil (w : World) (hg : As.Laid w) :
    Calls Tryd.prog 13 #[.pointer none] w fun e w' => e = .returned (.tuple #[.int .u32 0, .int .i64 2]) ∧ Chg Nob w w' := by
  have HN := Lib.hid (number_no w _ 4 2 hg (next_nil w 4))
  go_enter Tryd.func13, Tryd.ntmps13
  go_wp2_with fail
  refine HN.out.mono ?_
  rintro e w1 ⟨rfl, hC⟩
  go_wp2_with fail
  go_ret2
  exact ⟨rfl, hC⟩

theorem seek_nil (w : World) (n : Int) :
    Calls Tryd.prog 12 #[.pointer none, .int .i64 n] w fun e w' => e = .returned (.int .i64 2) ∧ w = w' := by
  go_enter Tryd.func12, Tryd.ntmps12
  go_wp2_with fail
  go_ret
  exact ⟨rfl, rfl⟩

theorem at_nil (w : World) :
    Calls Tryd.prog 22 #[.pointer none] w fun e w' => e = .returned (.int .i64 0) ∧ w = w' := by
  go_enter Tryd.func22, Tryd.ntmps22
  go_wp2_with fail
  go_ret
  exact ⟨rfl, rfl⟩

theorem left_nil (w : World) :
    Calls Tryd.prog 23 #[.pointer none] w fun e w' => e = .returned (.int .i64 0) ∧ w = w' := by
  go_enter Tryd.func23, Tryd.ntmps23
  go_wp2_with fail
  go_ret
  exact ⟨rfl, rfl⟩
end Go.Proofs.YtnbehagdionhmaaDoor.Cur
