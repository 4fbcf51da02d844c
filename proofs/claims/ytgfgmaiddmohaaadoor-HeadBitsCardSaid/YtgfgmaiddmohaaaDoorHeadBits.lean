/- HeadBits, walked. -/
import Derived.Test.YtgfgmaiddmohaaaDoorHeadReads
import Derived.Test.YtgfgmaiddmohaaaDoorHeadBP
namespace Go.Proofs.YtgfgmaiddmohaaaDoor.Hd
open Go.RowKit Go.Proofs.YtgfgmaiddmohaaaDoor.Cur

theorem trues_succ {l : List Bool} {k : Nat} {b : Bool} (h : l[k]? = some b) : trues (l.take (k + 1)) = trues (l.take k) + b2n b := by
  obtain ⟨hk, e⟩ := List.getElem?_eq_some_iff.1 h
  unfold trues
  rw [List.take_succ_eq_append_getElem hk, List.filter_append, List.length_append, e]
  cases b <;> simp [b2n]
theorem trues_le (l : List Bool) : trues l ≤ l.length := List.length_filter_le _ _

set_option maxRecDepth 100000 in
set_option maxHeartbeats 4000000 in
theorem unlike_any (p q : H) (w : World) :
    Calls Tryd.prog 18 #[.agg p.cells, .agg q.cells] w fun e w' => e = .returned (.int .i64 (trues (diffs p q) : Int)) ∧ Chg Nob w w' := by
  obtain ⟨L, hL⟩ : ∃ L, L = diffs p q := ⟨_, rfl⟩
  have hlen : L.length = 11 := by rw [hL]; rfl
  rw [← hL]
  have HL := Lib.hid hL
  have HN := Lib.hid hlen
  clear hL hlen
  unfold H.cells
  go_enter Tryd.func18, Tryd.ntmps18
  go_wp2_with fail
  generalize hW : World.alloc (World.alloc (World.alloc w _) _) _ = W1
  have hb : W1.heap[w.heap.size + 1 + 1]? = some (.cells (L.map Value.bool).toArray 4 (0, 0)) := by
    rw [← hW, HL.out]
    exact alloc_new_at _ _ _ (by simp only [World.size_alloc])
  have hC : Chg Nob w W1 := by
    rw [← hW]
    exact (((Chg.refl Nob w).alloc _).alloc _).alloc _
  clear hW
  have hcell : ∀ (k : Nat) (b : Bool), L[k]? = some b → W1.cell? ⟨w.heap.size + 1 + 1, k, none⟩ = some (.bool b) := by
    intro k b hk
    rw [cell_blk hb, List.getElem?_toArray, List.getElem?_map, hk]
    rfl
  have HCELL := Lib.hid hcell
  clear hcell hb
  go_loop [5, 65] (fun n i => ∃ k : Nat, k ≤ 11 ∧ i = .int .i64 k ∧ n = .int .i64 (trues (L.take k) : Int)) (fun _ i => 11 - (intOf i).toNat)
  case atStart => exact ⟨0, by omega, rfl, rfl⟩
  case round =>
    obtain ⟨k, hk, rfl, rfl⟩ := hrel
    have hk0 : (0 : Int) ≤ (k : Int) := by omega
    by_cases hk11 : k < 11
    · have hk1 : (k : Int) < 11 := by omega
      obtain ⟨b, hx⟩ : ∃ b, L[k]? = some b := ⟨_, List.getElem?_eq_getElem (by have := HN.out; omega)⟩
      have hc := HCELL.out k b hx
      have ht := trues_succ hx
      have hle : trues (L.take k) ≤ k := Nat.le_trans (trues_le _) (List.length_take_le _ _)
      have HT := Lib.hid ht
      clear ht hx
      generalize trues (L.take k) = y at *
      have hy0 : (0 : Int) ≤ (y : Int) := by omega
      have hy1 : (y : Int) ≤ 11 := by omega
      cases b with
      | false =>
        go_wp2_with fail
        exact ⟨⟨k + 1, by omega, rfl, by rw [HT.out]; rfl⟩, by simp [intOf]; omega⟩
      | true =>
        go_wp2_with fail
        exact ⟨⟨k + 1, by omega, rfl, by rw [HT.out]; rfl⟩, by simp [intOf]; omega⟩
    · have hk1 : ¬ (k : Int) < 11 := by omega
      obtain rfl : k = 11 := by omega
      have hfin : L.take 11 = L := List.take_of_length_le (by have := HN.out; omega)
      rw [hfin]
      go_wp2_with fail
      go_ret
      exact ⟨rfl, hC⟩

theorem xor_flags (f i : Nat) (hf : f < 65536) (hi : i < 16) : bits .xor .u16 (f : Int) (IntKind.u16.wrap ((2 : Int) ^ i)) = ((f ^^^ 2 ^ i : Nat) : Int) := by
  have hp : 2 ^ i < 65536 := Nat.pow_lt_pow_right (a := 2) (n := 16) (by omega) hi
  rw [wrap_pow i hp]
  exact u16_xor_nat f (2 ^ i) hf hp

set_option maxHeartbeats 4000000 in
theorem bits_any (f b : Nat) (w : World) (hf : f < 65536) (hb8 : b < 256) (hb : Bits w) :
    Calls Tryd.prog 4 #[.int .u16 (f : Int), .int .u8 (b : Int)] w fun e w' => e = .returned (.bool true) ∧ Chg Nob w w' := by
  obtain ⟨i, hi⟩ : ∃ i, i = b % 16 := ⟨_, rfl⟩
  have hi16 : i < 16 := by omega
  have hx := xor_flags f i hf hi16
  have hg : f ^^^ 2 ^ i < 65536 := Nat.xor_lt_two_pow (n := 16) hf (Nat.pow_lt_pow_right (by omega) hi16)
  have h1 := one_turned f i hf hi16
  have e1 : (b : Int) % 16 = (i : Int) := by omega
  have f0 : (0 : Int) ≤ (f : Int) := by omega
  have f1 : (f : Int) ≤ 65535 := by omega
  have b0 : (0 : Int) ≤ (b : Int) := by omega
  have i0 : (0 : Int) ≤ (i : Int) := by omega
  have i1 : (i : Int) ≤ 15 := by omega
  generalize f ^^^ 2 ^ i = g at *
  have F1 : Hid (∀ W, Bits W → _) := fun W h => from_any W f hf h
  have F2 : Hid (∀ W, Bits W → _) := fun W h => from_any W g hg h
  have HU : Hid (∀ W, _) := fun W => unlike_any (H.of 0 f) (H.of 0 g) W
  rw [h1] at HU
  have HB := Lib.hid hb
  clear hb h1 hi
  go_enter Tryd.func4, Tryd.ntmps4
  go_wp2_with fail
  refine (F1.out w HB.out).mono ?_
  rintro e w1 ⟨rfl, hC1⟩
  go_wp2_with fail
  refine (F2.out w1 (HB.out.nob hC1)).mono ?_
  rintro e w2 ⟨rfl, hC2⟩
  go_wp2_with fail
  refine (HU.out w2).mono ?_
  rintro e w3 ⟨rfl, hC3⟩
  have hC := (hC1.trans hC2).trans hC3
  go_wp2_with fail
  refine (awake_any w3 (HB.out.nob hC)).mono ?_
  rintro e w4 ⟨rfl, hC4⟩
  go_wp2_with fail
  go_ret
  exact ⟨rfl, hC.trans hC4⟩
end Go.Proofs.YtgfgmaiddmohaaaDoor.Hd
