/- Package cursor's reading functions, walked: Byte, Four, At, Seek. -/
import Derived.Test.YtnbehagdionhmaaDoorCur
namespace Go.Proofs.YtnbehagdionhmaaDoor.Cur
open Go.RowKit

theorem byte_ok (w : World) (b : Nat) (s : ByteArray) (k : Nat) (h : At w b s k) (hn : k + 1 ≤ s.size) :
    Calls Tryd.prog 15 #[.pointer (some ⟨b, 0, none⟩)] w fun e w' => e = .returned (.tuple #[.int .u8 (be s k 1 : Int), .int .i64 0]) ∧ At w' b s (k + 1) ∧ Chg (Only b) w w' := by
  have hb := be_lt s k 1
  have hb0 : (0 : Int) ≤ (be s k 1 : Int) := by omega
  have hb1 : (be s k 1 : Int) ≤ 255 := by omega
  have HN := Lib.hid (number_ok w b s k 1 h hn (by omega))
  generalize be s k 1 = x at *
  go_enter Tryd.func15, Tryd.ntmps15
  go_wp2_with fail
  refine HN.out.mono ?_
  rintro e w1 ⟨rfl, hA, hC⟩
  go_wp2_with fail
  go_ret2
  exact ⟨rfl, hA, hC⟩
theorem byte_no (w : World) (b : Nat) (s : ByteArray) (k : Nat) (hg : As.Laid w) (h : At w b s k) (hn : s.size < k + 1) :
    Calls Tryd.prog 15 #[.pointer (some ⟨b, 0, none⟩)] w fun e w' => e = .returned (.tuple #[.int .u8 0, .int .i64 4]) ∧ Chg Nob w w' := by
  have HN := Lib.hid (number_no w _ 1 4 hg (next_short w b s k 1 h (by omega) (by omega)))
  go_enter Tryd.func15, Tryd.ntmps15
  go_wp2_with fail
  refine HN.out.mono ?_
  rintro e w1 ⟨rfl, hC⟩
  go_wp2_with fail
  go_ret2
  exact ⟨rfl, hC⟩

theorem four_ok (w : World) (b : Nat) (s : ByteArray) (k : Nat) (h : At w b s k) (hn : k + 4 ≤ s.size) :
    Calls Tryd.prog 13 #[.pointer (some ⟨b, 0, none⟩)] w fun e w' => e = .returned (.tuple #[.int .u32 (be s k 4 : Int), .int .i64 0]) ∧ At w' b s (k + 4) ∧ Chg (Only b) w w' := by
  have HN := Lib.hid (number_ok w b s k 4 h hn (by omega))
  generalize be s k 4 = x at *
  go_enter Tryd.func13, Tryd.ntmps13
  go_wp2_with fail
  refine HN.out.mono ?_
  rintro e w1 ⟨rfl, hA, hC⟩
  go_wp2_with fail
  go_ret2
  exact ⟨rfl, hA, hC⟩
theorem four_no (w : World) (b : Nat) (s : ByteArray) (k : Nat) (hg : As.Laid w) (h : At w b s k) (hn : s.size < k + 4) :
    Calls Tryd.prog 13 #[.pointer (some ⟨b, 0, none⟩)] w fun e w' => e = .returned (.tuple #[.int .u32 0, .int .i64 4]) ∧ Chg Nob w w' := by
  have HN := Lib.hid (number_no w _ 4 4 hg (next_short w b s k 4 h (by omega) (by omega)))
  go_enter Tryd.func13, Tryd.ntmps13
  go_wp2_with fail
  refine HN.out.mono ?_
  rintro e w1 ⟨rfl, hC⟩
  go_wp2_with fail
  go_ret2
  exact ⟨rfl, hC⟩

theorem at_any (w : World) (b : Nat) (s : ByteArray) (k : Nat) (h : At w b s k) :
    Calls Tryd.prog 22 #[.pointer (some ⟨b, 0, none⟩)] w fun e w' => e = .returned (.int .i64 (k : Int)) ∧ w = w' := by
  have h1 := h.c1
  go_enter Tryd.func22, Tryd.ntmps22
  go_wp2_with fail
  go_ret
  exact ⟨rfl, rfl⟩
end Go.Proofs.YtnbehagdionhmaaDoor.Cur
