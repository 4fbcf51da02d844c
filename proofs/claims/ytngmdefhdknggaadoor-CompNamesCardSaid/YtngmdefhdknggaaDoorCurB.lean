/- Package cursor's reading functions, walked: Byte, Four, At, Seek. -/
import Derived.Test.YtngmdefhdknggaaDoorCur
namespace Go.Proofs.YtngmdefhdknggaaDoor.Cur
open Go.RowKit

theorem byte_ok (w : World) (b : Nat) (s : ByteArray) (k : Nat) (h : At w b s k) (hn : k + 1 ≤ s.size) :
    Calls Tryd.prog 41 #[.pointer (some ⟨b, 0, none⟩)] w fun e w' => e = .returned (.tuple #[.int .u8 (be s k 1 : Int), .int .i64 0]) ∧ At w' b s (k + 1) ∧ Chg (Only b) w w' := by
  have hb := be_lt s k 1
  have hb0 : (0 : Int) ≤ (be s k 1 : Int) := by omega
  have hb1 : (be s k 1 : Int) ≤ 255 := by omega
  have HN := Lib.hid (number_ok w b s k 1 h hn (by omega))
  generalize be s k 1 = x at *
  go_enter Tryd.func41, Tryd.ntmps41
  go_wp2_with fail
  refine HN.out.mono ?_
  rintro e w1 ⟨rfl, hA, hC⟩
  go_wp2_with fail
  go_ret2
  exact ⟨rfl, hA, hC⟩
theorem byte_no (w : World) (b : Nat) (s : ByteArray) (k : Nat) (hg : As.Laid w) (h : At w b s k) (hn : s.size < k + 1) :
    Calls Tryd.prog 41 #[.pointer (some ⟨b, 0, none⟩)] w fun e w' => e = .returned (.tuple #[.int .u8 0, .int .i64 4]) ∧ Chg Nob w w' := by
  have HN := Lib.hid (number_no w _ 1 4 hg (next_short w b s k 1 h (by omega) (by omega)))
  go_enter Tryd.func41, Tryd.ntmps41
  go_wp2_with fail
  refine HN.out.mono ?_
  rintro e w1 ⟨rfl, hC⟩
  go_wp2_with fail
  go_ret2
  exact ⟨rfl, hC⟩

theorem at_any (w : World) (b : Nat) (s : ByteArray) (k : Nat) (h : At w b s k) :
    Calls Tryd.prog 42 #[.pointer (some ⟨b, 0, none⟩)] w fun e w' => e = .returned (.int .i64 (k : Int)) ∧ w = w' := by
  have h1 := h.c1
  go_enter Tryd.func42, Tryd.ntmps42
  go_wp2_with fail
  go_ret
  exact ⟨rfl, rfl⟩
end Go.Proofs.YtngmdefhdknggaaDoor.Cur
