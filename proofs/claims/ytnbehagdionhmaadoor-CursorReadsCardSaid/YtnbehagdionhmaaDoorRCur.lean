/- hustingsref02.Cursor's methods, walked. -/
import Derived.Test.YtnbehagdionhmaaDoorCurAny
import Derived.Deep.RegionHeld3
import Derived.Deep.CutBlock
namespace Go.Proofs.YtnbehagdionhmaaDoor.Cur
open Go.RowKit

/-- The document's cursor in memory. -/
structure RAt (w : World) (b : Nat) (s : ByteArray) (k : Nat) : Prop where
  blk : w.heap[b]? = some (.cells #[.string s, .int .i64 (k : Int)] 50 (0, 0))
  le : k ≤ s.size
  max : s.size ≤ 9223372036854775807
theorem RAt.chg {w w' : World} {b : Nat} {s : ByteArray} {k : Nat} {S : Nat → Prop} (h : RAt w b s k) (hc : Chg S w w') (hs : ¬ S b) : RAt w' b s k := ⟨hc.heap h.blk hs, h.le, h.max⟩
theorem RAt.nob {w w' : World} {b : Nat} {s : ByteArray} {k : Nat} (h : RAt w b s k) (hc : Chg Nob w w') : RAt w' b s k := h.chg hc (fun h => h)
theorem RAt.lt {w : World} {b : Nat} {s : ByteArray} {k : Nat} (h : RAt w b s k) : b < w.heap.size := lt_of_block h.blk
theorem RAt.c0 {w : World} {b : Nat} {s : ByteArray} {k : Nat} (h : RAt w b s k) : w.cell? ⟨b, 0, none⟩ = some (.string s) := cell_blk h.blk 0
theorem RAt.c1 {w : World} {b : Nat} {s : ByteArray} {k : Nat} (h : RAt w b s k) : w.cell? ⟨b, 1, none⟩ = some (.int .i64 (k : Int)) := cell_blk h.blk 1
theorem RAt.z1 {w : World} {b : Nat} {s : ByteArray} {k : Nat} (h : RAt w b s k) : w.frozen? ⟨b, 1, none⟩ = false := frozen_blk h.blk 1
theorem RAt.move {w : World} {b : Nat} {s : ByteArray} {k : Nat} (h : RAt w b s k) (j : Nat) (hj : j ≤ s.size) : RAt (w.setCell ⟨b, 1, none⟩ (.int .i64 (j : Int))) b s j := by
  refine ⟨?_, hj, h.max⟩
  rw [set_blk h.blk 1]
  rfl
theorem RAt.moved {w : World} {b : Nat} {s : ByteArray} {k : Nat} (_h : RAt w b s k) (v : Value) : Chg (Only b) w (w.setCell ⟨b, 1, none⟩ v) := Chg.setCell (p := ⟨b, 1, none⟩) (Chg.refl (Only b) w) (.inl (Only.self b)) _

theorem rbyte_get (s : ByteArray) (i : Nat) (h : i < s.size) : s[i].toNat = byteAt s i := by
  unfold byteAt
  rw [List.getD, List.getElem?_eq_getElem (by simpa using h)]
  rfl

theorem rwi64 (z : Int) (h0 : 0 ≤ z) (h1 : z ≤ 9223372036854775807) : IntKind.i64.wrap z = z := by
  rw [IntKind.wrap_i64]
  omega
theorem rwu64 (z : Int) (h0 : 0 ≤ z) (h1 : z ≤ 9223372036854775807) : IntKind.u64.wrap z = z := by
  rw [IntKind.wrap_u64]
  omega

set_option maxHeartbeats 1000000 in
theorem rnumber_no (w : World) (b : Nat) (s : ByteArray) (k n : Nat) (h : RAt w b s k) (hn : s.size < k + n) :
    Calls Tryd.prog 29 #[.pointer (some ⟨b, 0, none⟩), .int .i64 (n : Int)] w fun e w' => e = .returned (.tuple #[.int .u64 0, .int .i64 4]) ∧ Chg Nob w w' := by
  have h0 := h.c0
  have h1 := h.c1
  have hm := h.max
  have hl := h.le
  have g3 : (s.size : Int) - (k : Int) < (n : Int) := by omega
  have g4 : (s.size : Int) ≤ 9223372036854775807 := by omega
  have g5 : (0 : Int) ≤ (k : Int) := by omega
  have g6 : (0 : Int) ≤ (s.size : Int) - (k : Int) := by omega
  go_enter Tryd.func29, Tryd.ntmps29
  go_wp2_with fail
  go_quiet (fail)
  go_wp2_with fail
  go_ret2
  exact ⟨rfl, (Chg.refl Nob w).drewN _⟩

set_option maxHeartbeats 1000000 in
theorem rnumber_ok (w : World) (b : Nat) (s : ByteArray) (k n : Nat) (h : RAt w b s k) (hn : k + n ≤ s.size) (h4 : n ≤ 4) :
    Calls Tryd.prog 29 #[.pointer (some ⟨b, 0, none⟩), .int .i64 (n : Int)] w fun e w' => e = .returned (.tuple #[.int .u64 (be s k n : Int), .int .i64 0]) ∧ RAt w' b s (k + n) ∧ Chg (Only b) w w' := by
  have h0 := h.c0
  have h1 := h.c1
  have hm := h.max
  have g0 : (0 : Int) ≤ (n : Int) := by omega
  have g2 : (k : Int) + (n : Int) ≤ (s.size : Int) := by omega
  have g3 : ¬ (s.size : Int) - (k : Int) < (n : Int) := by omega
  have g4 : (s.size : Int) ≤ 9223372036854775807 := by omega
  have g5 : (0 : Int) ≤ (k : Int) := by omega
  have g7 : (n : Int) ≤ 4 := by omega
  go_enter Tryd.func29, Tryd.ntmps29
  go_wp2_with fail
  go_quiet (fail)
  go_wp2_with fail
  have H := Lib.hid h
  clear h h1 hn h4
  have h1 := H.out.c1
  have z1 := H.out.z1
  go_loopw [6, 7] (fun o i wx => ∃ j : Nat, j ≤ n ∧ i = .int .i64 j ∧ o = .int .u64 (be s k j : Int) ∧ ∃ m, wx = w.drewN m) (fun _ i _ => 4 - (intOf i).toNat)
  case atStart => exact ⟨0, by omega, rfl, rfl, _, rfl⟩
  case round =>
    obtain ⟨j, hj, rfl, rfl, m, rfl⟩ := hrel
    by_cases hjn : j < n
    · have hb := rbyte_get s (k + j) (by omega)
      have hk0 : (0 : Int) ≤ (k : Int) + (j : Int) := by omega
      have hx := be_lt s k j
      have hy := byteAt_lt s (k + j)
      have hj3 : 256 ^ j ≤ 16777216 := Nat.pow_le_pow_right (n := 256) (j := 3) (by omega) (by omega)
      have hbe : (be s k (j + 1) : Int) = 256 * (be s k j : Int) + (byteAt s (k + j) : Int) := by
        have : be s k (j + 1) = 256 * be s k j + byteAt s (k + j) := rfl
        omega
      have HB := Lib.hid hbe
      have hx2 : 256 * (be s k j : Int) + (byteAt s (k + j) : Int) ≤ 4294967295 := by omega
      have hx0 : (0 : Int) ≤ (be s k j : Int) := by omega
      have hju1 : (j : Int) < (n : Int) := by omega
      have hj0 : (0 : Int) ≤ (j : Int) := by omega
      have hkj : (k : Int) + (j : Int) < (s.size : Int) := by omega
      have hw1 : IntKind.i64.wrap ((k : Int) + (j : Int)) = (k : Int) + (j : Int) := rwi64 _ (by omega) (by omega)
      have hw2 : IntKind.u64.wrap (256 * (be s k j : Int)) = 256 * (be s k j : Int) := rwu64 _ (by omega) (by omega)
      have hw3 : IntKind.u64.wrap (256 * (be s k j : Int) + (byteAt s (k + j) : Int)) = 256 * (be s k j : Int) + (byteAt s (k + j) : Int) := rwu64 _ (by omega) (by omega)
      generalize hx1 : be s k (j + 1) = x1 at *
      have HX1 := Lib.hid hx1
      generalize be s k j = x at *
      generalize byteAt s (k + j) = y at *
      clear hx hbe hj3 hx1
      go_wp2_with fail
      go_quiet (fail)
      go_wp2_with fail
      exact ⟨⟨j + 1, by omega, rfl, by rw [HX1.out, HB.out], _, rfl⟩, by simp [intOf]; omega⟩
    · have hju1 : ¬ (j : Int) < (n : Int) := by omega
      obtain rfl : j = n := by omega
      go_wp2_with fail
      go_ret2
      exact ⟨rfl, (H.out.nob ((Chg.refl Nob w).drewN _)).move (k + j) (by omega), ((Chg.refl (Only b) w).drewN _).setCell (p := ⟨b, 1, none⟩) (.inl (Only.self b)) _⟩

theorem rnumber_any (w : World) (b : Nat) (s : ByteArray) (k n : Nat) (h : RAt w b s k) (h4 : n ≤ 4) :
    Calls Tryd.prog 29 #[.pointer (some ⟨b, 0, none⟩), .int .i64 (n : Int)] w fun r w' => ∃ (x : Nat) (e : Int) (k' : Nat), r = .returned (.tuple #[.int .u64 (x : Int), .int .i64 e]) ∧ Got s k n x e k' ∧ RAt w' b s k' ∧ Chg (Only b) w w' := by
  by_cases hk : k + n ≤ s.size
  · exact (rnumber_ok w b s k n h hk h4).mono fun r w' ⟨h1, h2, h3⟩ => ⟨_, _, _, h1, .inl ⟨hk, rfl, rfl, rfl⟩, h2, h3⟩
  · exact (rnumber_no w b s k n h (by omega)).mono fun r w' ⟨h1, h3⟩ => ⟨0, 4, k, h1, .inr ⟨by omega, rfl, rfl, rfl⟩, h.nob h3, h3.mono (fun _ _ h => h.elim)⟩

theorem rtake_any (w : World) (b : Nat) (s : ByteArray) (k : Nat) (n : Int) (h : RAt w b s k) :
    Calls Tryd.prog 30 #[.pointer (some ⟨b, 0, none⟩), .int .i64 n] w fun r w' => ∃ (t : ByteArray) (e : Int) (k' : Nat), r = .returned (.tuple #[.string t, .int .i64 e]) ∧ Took s k n t e k' ∧ RAt w' b s k' ∧ Chg (Only b) w w' := by
  have h0 := h.c0
  have h1 := h.c1
  have z1 := h.z1
  have hm := h.max
  have hl := h.le
  have g4 : (s.size : Int) ≤ 9223372036854775807 := by omega
  have g5 : (0 : Int) ≤ (k : Int) := by omega
  by_cases hn : n < 0
  · go_enter Tryd.func30, Tryd.ntmps30
    go_wp2_with fail
    go_ret2
    exact ⟨_, 1, k, rfl, .inl ⟨hn, rfl, rfl, rfl⟩, h, Chg.refl _ _⟩
  · obtain ⟨m, rfl⟩ := Int.eq_ofNat_of_zero_le (show 0 ≤ n by omega)
    by_cases hk : k + m ≤ s.size
    · have g0 : (0 : Int) ≤ (m : Int) := by omega
      have g2 : (k : Int) + (m : Int) ≤ (s.size : Int) := by omega
      have g3 : ¬ (s.size : Int) - (k : Int) < (m : Int) := by omega
      go_enter Tryd.func30, Tryd.ntmps30
      go_wp2_with fail
      go_quiet (fail)
      go_wp2_with fail
      go_quiet (fail)
      go_wp2_with fail
      go_ret2
      exact ⟨_, 0, k + m, rfl, .inr (.inl ⟨by omega, by simp only [Int.toNat_natCast]; omega, rfl, rfl, rfl⟩), (h.nob ((Chg.refl Nob w).drewN _)).move (k + m) hk, ((Chg.refl (Only b) w).drewN _).setCell (p := ⟨b, 1, none⟩) (.inl (Only.self b)) _⟩
    · have g3 : (s.size : Int) - (k : Int) < (m : Int) := by omega
      have g6 : (0 : Int) ≤ (s.size : Int) - (k : Int) := by omega
      go_enter Tryd.func30, Tryd.ntmps30
      go_wp2_with fail
      go_quiet (fail)
      go_wp2_with fail
      go_ret2
      exact ⟨_, 4, k, rfl, .inr (.inr ⟨by omega, by simp only [Int.toNat_natCast]; omega, rfl, rfl, rfl⟩), h.nob ((Chg.refl Nob w).drewN _), (Chg.refl _ w).drewN _⟩

theorem rseek_any (w : World) (b : Nat) (s : ByteArray) (k : Nat) (j : Int) (h : RAt w b s k) :
    Calls Tryd.prog 31 #[.pointer (some ⟨b, 0, none⟩), .int .i64 j] w fun r w' => ∃ (e : Int) (k' : Nat), r = .returned (.int .i64 e) ∧ Sought s k j e k' ∧ RAt w' b s k' ∧ Chg (Only b) w w' := by
  have h0 := h.c0
  have h1 := h.c1
  have z1 := h.z1
  have hm := h.max
  have g4 : (s.size : Int) ≤ 9223372036854775807 := by omega
  by_cases hj0 : j < 0
  · go_enter Tryd.func31, Tryd.ntmps31
    go_wp2_with fail
    go_ret
    exact ⟨1, k, rfl, .inr ⟨.inl hj0, rfl, rfl⟩, h, Chg.refl _ _⟩
  · by_cases hj : (s.size : Int) < j
    · go_enter Tryd.func31, Tryd.ntmps31
      go_wp2_with fail
      go_ret
      exact ⟨1, rfl, k, .inr ⟨.inr hj, rfl, rfl⟩, h, Chg.refl _ _⟩
    · obtain ⟨m, rfl⟩ := Int.eq_ofNat_of_zero_le (show 0 ≤ j by omega)
      go_enter Tryd.func31, Tryd.ntmps31
      go_wp2_with fail
      go_ret
      exact ⟨0, rfl, m, .inl ⟨by omega, by omega, rfl, rfl⟩, h.move m (by omega), h.moved _⟩
end Go.Proofs.YtnbehagdionhmaaDoor.Cur
