/- Package head, walked: parts, From. -/
import Derived.Test.YtgfgmaiddmohaaaDoorCur
import Derived.Test.YtgfgmaiddmohaaaDoorHeadFP
import Derived.BigRegion
import Derived.StillTailTactics
namespace Go.Proofs.YtgfgmaiddmohaaaDoor.Hd
open Go.RowKit

/-- A header's cells. -/
def H.cells (h : H) : Array Value := #[.int .u16 (h.id : Int), .bool h.qr, .int .u8 (h.op : Int), .bool h.aa, .bool h.tc, .bool h.rd, .bool h.ra, .bool h.z, .bool h.ad, .bool h.cd, .int .u8 (h.code : Int)]

/-- The variable head.bits, as the program's text lays it. -/
structure Bits (w : World) : Prop where
  b0 : w.cell? ⟨0, 0, none⟩ = some (.int .i64 15)
  b1 : w.cell? ⟨0, 1, none⟩ = some (.int .i64 10)
  b2 : w.cell? ⟨0, 2, none⟩ = some (.int .i64 9)
  b3 : w.cell? ⟨0, 3, none⟩ = some (.int .i64 8)
  b4 : w.cell? ⟨0, 4, none⟩ = some (.int .i64 7)
  b5 : w.cell? ⟨0, 5, none⟩ = some (.int .i64 6)
  b6 : w.cell? ⟨0, 6, none⟩ = some (.int .i64 5)
  b7 : w.cell? ⟨0, 7, none⟩ = some (.int .i64 4)

theorem Bits.nob {w w' : World} (h : Bits w) (hc : Chg Nob w w') : Bits w' :=
  ⟨hc.cell h.b0 id, hc.cell h.b1 id, hc.cell h.b2 id, hc.cell h.b3 id, hc.cell h.b4 id, hc.cell h.b5 id, hc.cell h.b6 id, hc.cell h.b7 id⟩

/-- What parts answers. -/
def ptrs (b : Nat) : Value := .agg #[.pointer (some ⟨b, 1, none⟩), .pointer (some ⟨b, 3, none⟩), .pointer (some ⟨b, 4, none⟩), .pointer (some ⟨b, 5, none⟩), .pointer (some ⟨b, 6, none⟩), .pointer (some ⟨b, 7, none⟩), .pointer (some ⟨b, 8, none⟩), .pointer (some ⟨b, 9, none⟩)]

theorem idx0 (b : Nat) (w : World) : (Instr.index 75 (ptrs b) (.int .i64 0)).run Tryd.prog w = .ok (.pointer (some ⟨b, 1, none⟩)) w := by kernel_rfl
theorem idx1 (b : Nat) (w : World) : (Instr.index 75 (ptrs b) (.int .i64 1)).run Tryd.prog w = .ok (.pointer (some ⟨b, 3, none⟩)) w := by kernel_rfl
theorem idx2 (b : Nat) (w : World) : (Instr.index 75 (ptrs b) (.int .i64 2)).run Tryd.prog w = .ok (.pointer (some ⟨b, 4, none⟩)) w := by kernel_rfl
theorem idx3 (b : Nat) (w : World) : (Instr.index 75 (ptrs b) (.int .i64 3)).run Tryd.prog w = .ok (.pointer (some ⟨b, 5, none⟩)) w := by kernel_rfl
theorem idx4 (b : Nat) (w : World) : (Instr.index 75 (ptrs b) (.int .i64 4)).run Tryd.prog w = .ok (.pointer (some ⟨b, 6, none⟩)) w := by kernel_rfl
theorem idx5 (b : Nat) (w : World) : (Instr.index 75 (ptrs b) (.int .i64 5)).run Tryd.prog w = .ok (.pointer (some ⟨b, 7, none⟩)) w := by kernel_rfl
theorem idx6 (b : Nat) (w : World) : (Instr.index 75 (ptrs b) (.int .i64 6)).run Tryd.prog w = .ok (.pointer (some ⟨b, 8, none⟩)) w := by kernel_rfl
theorem idx7 (b : Nat) (w : World) : (Instr.index 75 (ptrs b) (.int .i64 7)).run Tryd.prog w = .ok (.pointer (some ⟨b, 9, none⟩)) w := by kernel_rfl

set_option maxHeartbeats 1000000 in
theorem parts_any (w : World) (b : Nat) :
    Calls Tryd.prog 39 #[.pointer (some ⟨b, 0, none⟩)] w fun e w' => e = .returned (ptrs b) ∧ w' = (w.alloc (.cells #[.pointer (some ⟨b, 1, none⟩), .pointer (some ⟨b, 3, none⟩), .pointer (some ⟨b, 4, none⟩), .pointer (some ⟨b, 5, none⟩), .pointer (some ⟨b, 6, none⟩), .pointer (some ⟨b, 7, none⟩), .pointer (some ⟨b, 8, none⟩), .pointer (some ⟨b, 9, none⟩)] 75)).drew := by
  go_enter Tryd.func39, Tryd.ntmps39
  go_wp2_with fail
  go_region
  go_wp2_with fail
  refine bodyPost_ret (v := ptrs b) (by simp [results, Tryd.results39, go_sem, ptrs]) rfl ⟨rfl, rfl⟩

/-- A block that is a header's. -/
def HdAt (w : World) (b : Nat) (h : H) : Prop := w.heap[b]? = some (.cells h.cells 24 (0, 0))

theorem and16 (x : Nat) (hx : x < 65536) : bits .and .u16 (x : Int) 15 % 256 = ((x % 16 : Nat) : Int) := by
  have h := u16_and_nat x 15 hx (by omega)
  rw [show ((15 : Nat) : Int) = 15 from rfl] at h
  rw [h, show (15 : Nat) = 2 ^ 4 - 1 from rfl, Nat.and_two_pow_sub_one_eq_mod]
  omega
theorem and1 (x : Nat) (hx : x < 65536) : bits .and .u16 (x : Int) 1 = ((x % 2 : Nat) : Int) := by
  have h := u16_and_nat x 1 hx (by omega)
  rw [show ((1 : Nat) : Int) = 1 from rfl] at h
  rw [h, show (1 : Nat) = 2 ^ 1 - 1 from rfl, Nat.and_two_pow_sub_one_eq_mod]

theorem bit_eq (f i : Nat) (hf : f < 65536) : (bits .and .u16 ((f / 2 ^ i : Nat) : Int) 1 == 1) = bitB f i := by
  have : f / 2 ^ i ≤ f := Nat.div_le_self _ _
  rw [and1 _ (by omega)]
  unfold bitB
  generalize f / 2 ^ i = x at *
  rw [Bool.eq_iff_iff]
  simp
  omega
theorem bit_at (f i : Nat) (n : Int) (hf : f < 65536) (hn : n = ((2 ^ i : Nat) : Int)) : (bits .and .u16 ((f : Int) / n) 1 == 1) = bitB f i := by
  rw [hn, ← Int.natCast_ediv]
  exact bit_eq f i hf

set_option maxHeartbeats 4000000 in
theorem from_any (w : World) (f : Nat) (hf : f < 65536) (hb : Bits w) :
    Calls Tryd.prog 19 #[.int .u16 (f : Int)] w fun e w' => e = .returned (.agg (H.of 0 f).cells) ∧ Chg Nob w w' := by
  have f0 : (0 : Int) ≤ (f : Int) := by omega
  have f1 : (f : Int) ≤ 65535 := by omega
  have a1 : bits .and .u16 ((f : Int) / 2048) 15 % 256 = ((f / 2048 % 16 : Nat) : Int) := by
    have h := and16 (f / 2048) (by omega)
    rwa [show ((f / 2048 : Nat) : Int) = (f : Int) / 2048 from by omega] at h
  have a2 := and16 f hf
  have i0 := idx0
  have i1 := idx1
  have i2 := idx2
  have i3 := idx3
  have i4 := idx4
  have i5 := idx5
  have i6 := idx6
  have i7 := idx7
  have t15 := bit_at f 15 32768 hf rfl
  have t10 := bit_at f 10 1024 hf rfl
  have t9 := bit_at f 9 512 hf rfl
  have t8 := bit_at f 8 256 hf rfl
  have t7 := bit_at f 7 128 hf rfl
  have t6 := bit_at f 6 64 hf rfl
  have t5 := bit_at f 5 32 hf rfl
  have t4 := bit_at f 4 16 hf rfl
  unfold H.of
  generalize f / 2048 % 16 = op at *
  generalize f % 16 = code at *
  obtain ⟨b0, b1, b2, b3, b4, b5, b6, b7⟩ := hb
  have hl : 0 < w.heap.size := World.block_lt_of_cell? w ⟨0, 0, none⟩ b0
  have HI := Lib.hid hf
  clear hf
  go_enter Tryd.func19, Tryd.ntmps19
  go_wp2_with fail
  refine (parts_any _ _).mono ?_
  rintro e w1 ⟨rfl, rfl⟩
  go_wp2_with fail
  refine wp_loop_rounds 9 ?_
  iterate 8
    rw [rounds_succ]
    go_wp2_with fail
  rw [rounds_succ]
  go_wp2_with fail
  refine bodyPost_ret (v := .agg (H.cells ⟨0, bitB f 15, op, bitB f 10, bitB f 9, bitB f 8, bitB f 7, bitB f 6, bitB f 5, bitB f 4, code⟩)) (by simp [results, Tryd.results19, go_sem, H.cells]) rfl ⟨rfl, ?_⟩
  exact ((((Chg.refl Nob w).alloc _).alloc _).alloc _).drew
end Go.Proofs.YtgfgmaiddmohaaaDoor.Hd
