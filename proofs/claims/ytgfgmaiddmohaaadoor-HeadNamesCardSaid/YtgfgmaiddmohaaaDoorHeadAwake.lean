/- hustingslaw03.awake, walked. -/
import Derived.Test.YtgfgmaiddmohaaaDoorHeadEq
import Derived.Test.YtgfgmaiddmohaaaDoorHeadF
namespace Go.Proofs.YtgfgmaiddmohaaaDoor.Hd
open Go.RowKit Go.Proofs.YtgfgmaiddmohaaaDoor.Cur

theorem read_a (w : World) (hb : Bits w) : Calls Tryd.prog 15 #[.string ⟨#[18, 52, 129, 128, 0, 1, 0, 2, 0, 0, 0, 1, 32, 97, 110, 100, 32, 109, 111, 114, 101]⟩] w fun e w' => e = .returned (.tuple #[.agg #[.int .u16 4660, .bool true, .int .u8 0, .bool false, .bool false, .bool true, .bool true, .bool false, .bool false, .bool false, .int .u8 0], .agg #[.int .i64 1, .int .i64 2, .int .i64 0, .int .i64 1], .int .i64 0]) ∧ Chg Nob w w' := by
  have h := read_ok ⟨#[18, 52, 129, 128, 0, 1, 0, 2, 0, 0, 0, 1, 32, 97, 110, 100, 32, 109, 111, 114, 101]⟩ w (by decide) (by decide) hb
  have e1 : (H.of (be ⟨#[18, 52, 129, 128, 0, 1, 0, 2, 0, 0, 0, 1, 32, 97, 110, 100, 32, 109, 111, 114, 101]⟩ 0 2) (be ⟨#[18, 52, 129, 128, 0, 1, 0, 2, 0, 0, 0, 1, 32, 97, 110, 100, 32, 109, 111, 114, 101]⟩ 2 2)).cells = #[.int .u16 4660, .bool true, .int .u8 0, .bool false, .bool false, .bool true, .bool true, .bool false, .bool false, .bool false, .int .u8 0] := by kernel_rfl
  have e2 : (#[.int .i64 (be ⟨#[18, 52, 129, 128, 0, 1, 0, 2, 0, 0, 0, 1, 32, 97, 110, 100, 32, 109, 111, 114, 101]⟩ 4 2 : Int), .int .i64 (be ⟨#[18, 52, 129, 128, 0, 1, 0, 2, 0, 0, 0, 1, 32, 97, 110, 100, 32, 109, 111, 114, 101]⟩ 6 2 : Int), .int .i64 (be ⟨#[18, 52, 129, 128, 0, 1, 0, 2, 0, 0, 0, 1, 32, 97, 110, 100, 32, 109, 111, 114, 101]⟩ 8 2 : Int), .int .i64 (be ⟨#[18, 52, 129, 128, 0, 1, 0, 2, 0, 0, 0, 1, 32, 97, 110, 100, 32, 109, 111, 114, 101]⟩ 10 2 : Int)] : Array Value) = #[.int .i64 1, .int .i64 2, .int .i64 0, .int .i64 1] := by kernel_rfl
  rw [e1, e2] at h
  exact h
theorem read_b (w : World) (hb : Bits w) : Calls Tryd.prog 15 #[.string ⟨#[0, 0, 40, 5, 0, 0, 0, 0, 0, 0, 0, 0]⟩] w fun e w' => e = .returned (.tuple #[.agg #[.int .u16 0, .bool false, .int .u8 5, .bool false, .bool false, .bool false, .bool false, .bool false, .bool false, .bool false, .int .u8 5], .agg #[.int .i64 0, .int .i64 0, .int .i64 0, .int .i64 0], .int .i64 0]) ∧ Chg Nob w w' := by
  have h := read_ok ⟨#[0, 0, 40, 5, 0, 0, 0, 0, 0, 0, 0, 0]⟩ w (by decide) (by decide) hb
  have e1 : (H.of (be ⟨#[0, 0, 40, 5, 0, 0, 0, 0, 0, 0, 0, 0]⟩ 0 2) (be ⟨#[0, 0, 40, 5, 0, 0, 0, 0, 0, 0, 0, 0]⟩ 2 2)).cells = #[.int .u16 0, .bool false, .int .u8 5, .bool false, .bool false, .bool false, .bool false, .bool false, .bool false, .bool false, .int .u8 5] := by kernel_rfl
  have e2 : (#[.int .i64 (be ⟨#[0, 0, 40, 5, 0, 0, 0, 0, 0, 0, 0, 0]⟩ 4 2 : Int), .int .i64 (be ⟨#[0, 0, 40, 5, 0, 0, 0, 0, 0, 0, 0, 0]⟩ 6 2 : Int), .int .i64 (be ⟨#[0, 0, 40, 5, 0, 0, 0, 0, 0, 0, 0, 0]⟩ 8 2 : Int), .int .i64 (be ⟨#[0, 0, 40, 5, 0, 0, 0, 0, 0, 0, 0, 0]⟩ 10 2 : Int)] : Array Value) = #[.int .i64 0, .int .i64 0, .int .i64 0, .int .i64 0] := by kernel_rfl
  rw [e1, e2] at h
  exact h
theorem read_c (w : World) : Calls Tryd.prog 15 #[.string ⟨#[49, 50, 51, 52, 53, 54, 55, 56, 57, 48, 49]⟩] w fun e w' => e = .returned (.tuple #[.agg #[.int .u16 0, .bool false, .int .u8 0, .bool false, .bool false, .bool false, .bool false, .bool false, .bool false, .bool false, .int .u8 0], .agg #[.int .i64 0, .int .i64 0, .int .i64 0, .int .i64 0], .int .i64 4]) ∧ Chg Nob w w' :=
  read_short ⟨#[49, 50, 51, 52, 53, 54, 55, 56, 57, 48, 49]⟩ w (by decide)
theorem flags_a (w : World) (hb : Bits w) : Calls Tryd.prog 23 #[.agg #[.int .u16 0, .bool false, .int .u8 0, .bool true, .bool true, .bool false, .bool false, .bool false, .bool false, .bool false, .int .u8 0]] w fun e w' => e = .returned (.tuple #[.int .u16 1536, .int .i64 0]) ∧ Chg Nob w w' :=
  flags_ok w ⟨0, false, 0, true, true, false, false, false, false, false, 0⟩ hb (by decide) (by decide)
theorem flags_b (w : World) : Calls Tryd.prog 23 #[.agg #[.int .u16 0, .bool false, .int .u8 16, .bool false, .bool false, .bool false, .bool false, .bool false, .bool false, .bool false, .int .u8 0]] w fun e w' => e = .returned (.tuple #[.int .u16 0, .int .i64 1]) ∧ Chg Nob w w' :=
  flags_no w ⟨0, false, 16, false, false, false, false, false, false, false, 0⟩ (by decide)

set_option maxRecDepth 100000 in
set_option maxHeartbeats 4000000 in
theorem awake_any (w : World) (hb : Bits w) : Calls Tryd.prog 17 #[] w fun e w' => e = .returned (.bool true) ∧ Chg Nob w w' := by
  have q1 : ∀ W : World, (binOp .eql 24 (.agg #[.int .u16 4660, .bool true, .int .u8 0, .bool false, .bool false, .bool true, .bool true, .bool false, .bool false, .bool false, .int .u8 0]) (.agg #[.int .u16 4660, .bool true, .int .u8 0, .bool false, .bool false, .bool true, .bool true, .bool false, .bool false, .bool false, .int .u8 0])).run Tryd.prog W = .ok (.bool true) W := fun W => by kernel_rfl
  have q2 : ∀ W : World, (binOp .eql 26 (.agg #[.int .i64 1, .int .i64 2, .int .i64 0, .int .i64 1]) (.agg #[.int .i64 1, .int .i64 2, .int .i64 0, .int .i64 1])).run Tryd.prog W = .ok (.bool true) W := fun W => by kernel_rfl
  have q3 : ∀ W : World, (binOp .eql 24 (.agg #[.int .u16 0, .bool false, .int .u8 5, .bool false, .bool false, .bool false, .bool false, .bool false, .bool false, .bool false, .int .u8 5]) (.agg #[.int .u16 0, .bool false, .int .u8 5, .bool false, .bool false, .bool false, .bool false, .bool false, .bool false, .bool false, .int .u8 5])).run Tryd.prog W = .ok (.bool true) W := fun W => by kernel_rfl
  have HBT := Lib.hid hb
  clear hb
  go_enter Tryd.func17, Tryd.ntmps17
  go_wp2_with fail
  refine (read_a w HBT.out).mono ?_
  rintro e w1 ⟨rfl, hC1⟩
  have hA1 := alloc_blk (alloc_new w1 (.cells #[.int .u16 4660, .bool true, .int .u8 0, .bool false, .bool false, .bool true, .bool true, .bool false, .bool false, .bool false, .int .u8 0] 24)) (.cells #[.int .i64 1, .int .i64 2, .int .i64 0, .int .i64 1] 26)
  have hA2 := alloc_new1 w1 (.cells #[.int .u16 4660, .bool true, .int .u8 0, .bool false, .bool false, .bool true, .bool true, .bool false, .bool false, .bool false, .int .u8 0] 24) (.cells #[.int .i64 1, .int .i64 2, .int .i64 0, .int .i64 1] 26)
  have hC := (hC1.alloc (.cells #[.int .u16 4660, .bool true, .int .u8 0, .bool false, .bool false, .bool true, .bool true, .bool false, .bool false, .bool false, .int .u8 0] 24)).alloc (.cells #[.int .i64 1, .int .i64 2, .int .i64 0, .int .i64 1] 26)
  clear hC1
  go_wp2_with fail
  refine (read_b _ (HBT.out.nob hC)).mono ?_
  rintro e w2 ⟨rfl, hC2⟩
  have hD := hC.trans hC2
  have hB1 := alloc_blk (alloc_blk (hC2.heap hA1 id) (.cells #[.int .u16 0, .bool false, .int .u8 5, .bool false, .bool false, .bool false, .bool false, .bool false, .bool false, .bool false, .int .u8 5] 24)) (.cells #[.int .i64 0, .int .i64 0, .int .i64 0, .int .i64 0] 26)
  have hB2 := alloc_blk (alloc_blk (hC2.heap hA2 id) (.cells #[.int .u16 0, .bool false, .int .u8 5, .bool false, .bool false, .bool false, .bool false, .bool false, .bool false, .bool false, .int .u8 5] 24)) (.cells #[.int .i64 0, .int .i64 0, .int .i64 0, .int .i64 0] 26)
  have hB3 := alloc_blk (alloc_new w2 (.cells #[.int .u16 0, .bool false, .int .u8 5, .bool false, .bool false, .bool false, .bool false, .bool false, .bool false, .bool false, .int .u8 5] 24)) (.cells #[.int .i64 0, .int .i64 0, .int .i64 0, .int .i64 0] 26)
  have hDD := (hD.alloc (.cells #[.int .u16 0, .bool false, .int .u8 5, .bool false, .bool false, .bool false, .bool false, .bool false, .bool false, .bool false, .int .u8 5] 24)).alloc (.cells #[.int .i64 0, .int .i64 0, .int .i64 0, .int .i64 0] 26)
  clear hA1 hA2 hC hC2 hD
  go_wp2_with fail
  refine (flags_a _ (HBT.out.nob hDD)).mono ?_
  rintro e w3 ⟨rfl, hC3⟩
  go_wp2_with fail
  refine (flags_b w3).mono ?_
  rintro e w4 ⟨rfl, hC4⟩
  have hC34 := hC3.trans hC4
  clear hC3 hC4
  go_wp2_with fail
  refine (read_c w4).mono ?_
  rintro e w5 ⟨rfl, hC5⟩
  have hC35 := hC34.trans hC5
  have hE := hDD.trans hC35
  have c1 := cell_blk (hC35.heap hB1 id)
  have c2 := cell_blk (hC35.heap hB2 id)
  have c3 := cell_blk (hC35.heap hB3 id)
  have l1 := lt_of_block (hC35.heap hB1 id)
  have l2 := lt_of_block (hC35.heap hB2 id)
  have l3 := lt_of_block (hC35.heap hB3 id)
  clear hC34 hC5 hC35 hDD hB1 hB2 hB3
  go_wp2_with fail
  go_ret
  exact ⟨rfl, (hE.alloc _).alloc _⟩
end Go.Proofs.YtgfgmaiddmohaaaDoor.Hd
