/- Package head, walked: Flags. -/
import Derived.Test.YtgfgmaiddmohaaaDoorHead
namespace Go.Proofs.YtgfgmaiddmohaaaDoor.Hd
open Go.RowKit Go.Proofs.YtgfgmaiddmohaaaDoor.Cur

theorem idx_any (b k : Nat) (w : World) (hk : k < 8) : (Instr.index 75 (ptrs b) (.int .i64 (k : Int))).run Tryd.prog w = .ok (.pointer (some ⟨b, offs k, none⟩)) w := by
  match k, hk with
  | 0, _ => exact idx0 b w
  | 1, _ => exact idx1 b w
  | 2, _ => exact idx2 b w
  | 3, _ => exact idx3 b w
  | 4, _ => exact idx4 b w
  | 5, _ => exact idx5 b w
  | 6, _ => exact idx6 b w
  | 7, _ => exact idx7 b w
theorem Bits.at_ {w : World} (h : Bits w) (k : Nat) (hk : k < 8) : w.cell? ⟨0, k, none⟩ = some (.int .i64 (place k : Int)) := by
  match k, hk with
  | 0, _ => exact h.b0
  | 1, _ => exact h.b1
  | 2, _ => exact h.b2
  | 3, _ => exact h.b3
  | 4, _ => exact h.b4
  | 5, _ => exact h.b5
  | 6, _ => exact h.b6
  | 7, _ => exact h.b7
theorem H.cell_bit (h : H) (k : Nat) (hk : k < 8) : h.cells[offs k]? = some (.bool (h.bit k)) := by
  match k, hk with
  | 0, _ => rfl
  | 1, _ => rfl
  | 2, _ => rfl
  | 3, _ => rfl
  | 4, _ => rfl
  | 5, _ => rfl
  | 6, _ => rfl
  | 7, _ => rfl
theorem place_le (k : Nat) : place k ≤ 15 := by
  unfold place
  split <;> omega

theorem wrap_pow (n : Nat) (h : 2 ^ n < 65536) : IntKind.u16.wrap ((2 : Int) ^ n) = ((2 ^ n : Nat) : Int) := by
  rw [show ((2 : Int) ^ n) = ((2 ^ n : Nat) : Int) from by simp]
  generalize 2 ^ n = x at *
  rw [IntKind.wrap_u16]
  omega

theorem flags_no (w : World) (h : H) (ho : ¬ (h.op < 16 ∧ h.code < 16)) :
    Calls Tryd.prog 23 #[.agg h.cells] w fun e w' => e = .returned (.tuple #[.int .u16 0, .int .i64 1]) ∧ Chg Nob w w' := by
  obtain ⟨id, qr, op, aa, tc, rd, ra, z, ad, cd, code⟩ := h
  simp only at ho
  unfold H.cells
  simp only
  by_cases h1 : op < 16
  · have g1 : ¬ (15 : Int) < (op : Int) := by omega
    have g2 : (15 : Int) < (code : Int) := by omega
    clear ho h1
    go_enter Tryd.func23, Tryd.ntmps23
    go_wp2_with fail
    go_ret2
    exact ⟨rfl, (Chg.refl Nob w).alloc _⟩
  · have g1 : (15 : Int) < (op : Int) := by omega
    clear ho h1
    go_enter Tryd.func23, Tryd.ntmps23
    go_wp2_with fail
    go_ret2
    exact ⟨rfl, (Chg.refl Nob w).alloc _⟩

set_option maxHeartbeats 4000000 in
theorem flags_ok (w : World) (h : H) (hb : Bits w) (ho : h.op < 16) (hc : h.code < 16) :
    Calls Tryd.prog 23 #[.agg h.cells] w fun e w' => e = .returned (.tuple #[.int .u16 (h.flags : Int), .int .i64 0]) ∧ Chg Nob w w' := by
  have e2 : h.cells[2]? = some (.int .u8 (h.op : Int)) := rfl
  have e10 : h.cells[10]? = some (.int .u8 (h.code : Int)) := rfl
  have g1 : ¬ (15 : Int) < (h.op : Int) := by omega
  have g2 : ¬ (15 : Int) < (h.code : Int) := by omega
  have g3 : (0 : Int) ≤ (h.op : Int) := by omega
  have g4 : (0 : Int) ≤ (h.code : Int) := by omega
  have o0 : bits .or .u16 ((h.op : Int) * 2048) (h.code : Int) = (h.flagsTo 0 : Int) := by
    have h1 := u16_or_nat (2048 * h.op) h.code (by omega) (by omega)
    rw [or_op _ _ hc] at h1
    rw [show ((h.op : Int) * 2048) = ((2048 * h.op : Nat) : Int) from by omega, h1]
    rfl
  have o1 : bits .or .u16 ((h.op : Int) * 2048 % 65536) (h.code : Int) = (h.flagsTo 0 : Int) := by
    rw [show (h.op : Int) * 2048 % 65536 = (h.op : Int) * 2048 from by omega]
    exact o0
  have HO := Lib.hid ho
  have HC := Lib.hid hc
  have HB := Lib.hid hb
  clear ho hc hb
  go_enter Tryd.func23, Tryd.ntmps23
  go_wp2_with fail
  refine (parts_any _ _).mono ?_
  rintro e w1 ⟨rfl, rfl⟩
  go_wp2_with fail
  go_loop [24, 4] (fun i n => ∃ k : Nat, k ≤ 8 ∧ i = .int .i64 k ∧ n = .int .u16 (h.flagsTo k : Int)) (fun i _ => 8 - (intOf i).toNat)
  case atStart => exact ⟨0, by omega, rfl, rfl⟩
  case round =>
    obtain ⟨k, hk, rfl, rfl⟩ := hrel
    have hk0 : (0 : Int) ≤ (k : Int) := by omega
    by_cases hk8 : k < 8
    · have hk1 : (k : Int) < 8 := by omega
      have hix := fun W => idx_any w.heap.size k W hk8
      have hcb := h.cell_bit k hk8
      have hbk := HB.out.at_ k hk8
      have hl := World.block_lt_of_cell? w ⟨0, k, none⟩ hbk
      have hpl := place_le k
      have hp0 : (0 : Int) ≤ (place k : Int) := by omega
      have hp1 : (place k : Int) ≤ 15 := by omega
      cases hbit : h.bit k with
      | false =>
        rw [hbit] at hcb
        have hn := h.flagsTo_not k hbit
        have HN := Lib.hid hn
        clear hn hbit
        go_wp2_with fail
        go_round
        case rel => exact ⟨k + 1, by omega, rfl, by rw [HN.out]⟩
        case measure => simp [intOf]; omega
      | true =>
        rw [hbit] at hcb
        have hn := h.flagsTo_or HO.out HC.out k hk8 hbit
        have hx := (h.flagsTo_step HO.out HC.out k hk8).1
        have hpw : 2 ^ place k < 65536 := Nat.lt_of_le_of_lt (Nat.pow_le_pow_right (n := 2) (j := 15) (by omega) hpl) (by omega)
        have hor := u16_or_nat _ _ hx hpw
        rw [hn] at hor
        have HOR := Lib.hid hor
        clear hn hbit hor
        go_wp2_with fail
        exact ⟨⟨k + 1, by omega, rfl, by rw [wrap_pow _ hpw, HOR.out]⟩, by simp [intOf]; omega⟩
    · have hk1 : ¬ (k : Int) < 8 := by omega
      obtain rfl : k = 8 := by omega
      go_wp2_with fail
      go_ret2
      exact ⟨rfl, (((Chg.refl Nob w).alloc _).alloc _).drew⟩
end Go.Proofs.YtgfgmaiddmohaaaDoor.Hd
