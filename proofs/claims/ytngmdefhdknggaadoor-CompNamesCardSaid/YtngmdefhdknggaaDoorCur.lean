/- Package cursor's reading functions, walked. -/
import Derived.Test.YtngmdefhdknggaaDoorAs
import Derived.Test.YtngmdefhdknggaaDoorCurP
import Derived.IntWalk
namespace Go.Proofs.YtngmdefhdknggaaDoor.Cur
open Go.RowKit

/-- A cursor in memory: block b holds the text s and the place k. -/
structure At (w : World) (b : Nat) (s : ByteArray) (k : Nat) : Prop where
  blk : w.heap[b]? = some (.cells #[.string s, .int .i64 (k : Int)] 106 (0, 0))
  le : k ≤ s.size
  max : s.size ≤ 9223372036854775807

theorem At.chg {w w' : World} {b : Nat} {s : ByteArray} {k : Nat} {S : Nat → Prop} (h : At w b s k) (hc : Chg S w w') (hs : ¬ S b) : At w' b s k := ⟨hc.heap h.blk hs, h.le, h.max⟩
theorem At.nob {w w' : World} {b : Nat} {s : ByteArray} {k : Nat} (h : At w b s k) (hc : Chg Nob w w') : At w' b s k := h.chg hc (fun h => h)
theorem At.lt {w : World} {b : Nat} {s : ByteArray} {k : Nat} (h : At w b s k) : b < w.heap.size := lt_of_block h.blk
theorem At.c0 {w : World} {b : Nat} {s : ByteArray} {k : Nat} (h : At w b s k) : w.cell? ⟨b, 0, none⟩ = some (.string s) := cell_blk h.blk 0
theorem At.c1 {w : World} {b : Nat} {s : ByteArray} {k : Nat} (h : At w b s k) : w.cell? ⟨b, 1, none⟩ = some (.int .i64 (k : Int)) := cell_blk h.blk 1
theorem At.z1 {w : World} {b : Nat} {s : ByteArray} {k : Nat} (h : At w b s k) : w.frozen? ⟨b, 1, none⟩ = false := frozen_blk h.blk 1
theorem At.move {w : World} {b : Nat} {s : ByteArray} {k : Nat} (h : At w b s k) (j : Nat) (hj : j ≤ s.size) : At (w.setCell ⟨b, 1, none⟩ (.int .i64 (j : Int))) b s j := by
  refine ⟨?_, hj, h.max⟩
  rw [set_blk h.blk 1]
  rfl
theorem At.moved {w : World} {b : Nat} {s : ByteArray} {k : Nat} (_h : At w b s k) (v : Value) : Chg (Only b) w (w.setCell ⟨b, 1, none⟩ v) := Chg.setCell (p := ⟨b, 1, none⟩) (Chg.refl (Only b) w) (.inl (Only.self b)) _

theorem new_any (s : ByteArray) (w : World) (hs : s.size ≤ 9223372036854775807) :
    Calls Tryd.prog 39 #[.string s] w fun e w' => ∃ b, e = .returned (.pointer (some ⟨b, 0, none⟩)) ∧ w.heap.size ≤ b ∧ At w' b s 0 ∧ Chg Nob w w' := by
  go_enter Tryd.func39, Tryd.ntmps39
  go_wp2
  go_ret
  refine ⟨w.heap.size, rfl, Nat.le_refl _, ⟨?_, Nat.zero_le _, hs⟩, (Chg.refl Nob w).alloc _⟩
  exact alloc_new w _

set_option maxHeartbeats 1000000 in
theorem next_ok (w : World) (b : Nat) (s : ByteArray) (k n : Nat) (h : At w b s k) (hn : k + n ≤ s.size) :
    Calls Tryd.prog 57 #[.pointer (some ⟨b, 0, none⟩), .int .i64 (n : Int)] w fun e w' => e = .returned (.tuple #[.string (s.extract k (k + n)), .nilIface]) ∧ At w' b s (k + n) ∧ Chg (Only b) w w' := by
  have h0 := h.c0
  have h1 := h.c1
  have z1 := h.z1
  have hm := h.max
  have g0 : (0 : Int) ≤ (n : Int) := by omega
  have g1 : ¬ (n : Int) < 0 := by omega
  have g2 : (k : Int) + (n : Int) ≤ (s.size : Int) := by omega
  have g3 : (n : Int) ≤ (s.size : Int) - (k : Int) := by omega
  have g4 : (s.size : Int) ≤ 9223372036854775807 := by omega
  have g5 : (0 : Int) ≤ (k : Int) := by omega
  go_enter Tryd.func57, Tryd.ntmps57
  go_wp2_with fail
  go_quiet (fail)
  go_wp2_with fail
  go_quiet (fail)
  go_wp2_with fail
  go_ret2
  exact ⟨rfl, (h.nob ((Chg.refl Nob w).drewN _)).move (k + n) hn, ((Chg.refl (Only b) w).drewN _).setCell (p := ⟨b, 1, none⟩) (.inl (Only.self b)) _⟩

set_option maxHeartbeats 1000000 in
theorem next_short (w : World) (b : Nat) (s : ByteArray) (k : Nat) (n : Int) (h : At w b s k) (h0n : 0 ≤ n) (hn : (s.size : Int) < k + n) :
    Calls Tryd.prog 57 #[.pointer (some ⟨b, 0, none⟩), .int .i64 n] w fun e w' => e = .returned (.tuple #[.string ⟨#[]⟩, .iface 140 (.agg #[.int .i64 4])]) ∧ Chg Nob w w' := by
  have h0 := h.c0
  have h1 := h.c1
  have hm := h.max
  have hl := h.le
  have g1 : ¬ n < 0 := by omega
  have g3 : (s.size : Int) - (k : Int) < n := by omega
  have g4 : (s.size : Int) ≤ 9223372036854775807 := by omega
  have g5 : (0 : Int) ≤ (k : Int) := by omega
  have g6 : (0 : Int) ≤ (s.size : Int) - (k : Int) := by omega
  go_enter Tryd.func57, Tryd.ntmps57
  go_wp2_with fail
  go_quiet (fail)
  go_wp2_with fail
  go_ret2
  exact ⟨rfl, (Chg.refl Nob w).drewN _⟩

theorem next_neg (w : World) (b : Nat) (n : Int) (hn : n < 0) :
    Calls Tryd.prog 57 #[.pointer (some ⟨b, 0, none⟩), .int .i64 n] w fun e w' => e = .returned (.tuple #[.string ⟨#[]⟩, .iface 140 (.agg #[.int .i64 1])]) ∧ Chg Nob w w' := by
  go_enter Tryd.func57, Tryd.ntmps57
  go_wp2_with fail
  go_ret2
  exact ⟨rfl, Chg.refl Nob w⟩

theorem next_nil (w : World) (n : Int) :
    Calls Tryd.prog 57 #[.pointer none, .int .i64 n] w fun e w' => e = .returned (.tuple #[.string ⟨#[]⟩, .iface 140 (.agg #[.int .i64 2])]) ∧ Chg Nob w w' := by
  go_enter Tryd.func57, Tryd.ntmps57
  go_wp2_with fail
  go_ret2
  exact ⟨rfl, Chg.refl Nob w⟩

/-- number, where there are bytes enough. -/
theorem number_ok (w : World) (b : Nat) (s : ByteArray) (k n : Nat) (h : At w b s k) (hn : k + n ≤ s.size) (h4 : n ≤ 4) :
    Calls Tryd.prog 56 #[.pointer (some ⟨b, 0, none⟩), .int .i64 (n : Int)] w fun e w' => e = .returned (.tuple #[.int .u32 (be s k n : Int), .int .i64 0]) ∧ At w' b s (k + n) ∧ Chg (Only b) w w' := by
  go_enter Tryd.func56, Tryd.ntmps56
  go_wp2_with fail
  refine (next_ok w b s k n h hn).mono ?_
  rintro e w1 ⟨rfl, hA, hC⟩
  have hm := h.max
  have hsz : (s.extract k (k + n)).size = n := by rw [ByteArray.size_extract]; omega
  have hby : ∀ i (hi : i < (s.extract k (k + n)).size), (s.extract k (k + n))[i].toNat = byteAt s (k + i) := by
    intro i hi
    rw [hsz] at hi
    rw [← byteAt_extract s k n i hi hn]
    unfold byteAt
    rw [List.getD, List.getElem?_eq_getElem (by simpa using by omega)]
    rfl
  generalize s.extract k (k + n) = u at *
  obtain ⟨m, hmn⟩ : ∃ m, m = n := ⟨_, rfl⟩
  have HBY := Lib.hid hby
  have HSZ := Lib.hid hsz
  clear hby hsz
  have hu : u.size ≤ 4 := by have := HSZ.out; omega
  go_wp2_with fail
  go_loopw [8, 18] (fun o i wx => ∃ j : Nat, j ≤ u.size ∧ i = .int .i64 j ∧ o = .int .u32 (be s k j : Int) ∧ w1 = wx) (fun _ i _ => 4 - (intOf i).toNat)
  case atStart => exact ⟨0, by omega, rfl, rfl, rfl⟩
  case round =>
    obtain ⟨j, hj, rfl, rfl, rfl⟩ := hrel
    by_cases hju : j < u.size
    · have hb := HBY.out j hju
      have hx := be_lt s k j
      have hy := byteAt_lt s (k + j)
      have hj3 : 256 ^ j ≤ 16777216 := Nat.pow_le_pow_right (n := 256) (j := 3) (by omega) (by omega)
      have hst := step32 (be s k j) (byteAt s (k + j)) (by omega) hy
      have hbe : be s k (j + 1) = 256 * be s k j + byteAt s (k + j) := rfl
      rw [← hbe] at hst
      have HB := Lib.hid hbe
      have hx2 : (be s k j : Int) * 256 ≤ 4294967295 := by omega
      have hx0 : (0 : Int) ≤ (be s k j : Int) := by omega
      have hju1 : (j : Int) < (u.size : Int) := by omega
      have hj0 : (0 : Int) ≤ (j : Int) := by omega
      have hu4 : (u.size : Int) ≤ 4 := by omega
      generalize hx1 : be s k (j + 1) = x1 at *
      have HX1 := Lib.hid hx1
      generalize be s k j = x at *
      generalize byteAt s (k + j) = y at *
      clear hx hbe hj3 hx1
      go_wp2_with fail
      exact ⟨⟨j + 1, by omega, rfl, by rw [HX1.out], trivial⟩, by simp [intOf]; omega⟩
    · have hju1 : ¬ (j : Int) < (u.size : Int) := by omega
      obtain rfl : j = n := by have := HSZ.out; omega
      go_wp2_with fail
      refine (As.told_nil _).mono ?_
      rintro e w2 ⟨rfl, hC2⟩
      go_wp2_with fail
      go_ret2
      exact ⟨rfl, hA.nob hC2, hC.trans (hC2.mono (fun _ _ h => h.elim))⟩

/-- number of no bytes: what next refuses. -/
theorem number_no (w : World) (p : Value) (n e : Int) (hg : As.Laid w)
    (hnext : Calls Tryd.prog 57 #[p, .int .i64 n] w fun r w' => r = .returned (.tuple #[.string ⟨#[]⟩, .iface 140 (.agg #[.int .i64 e])]) ∧ Chg Nob w w') :
    Calls Tryd.prog 56 #[p, .int .i64 n] w fun r w' => r = .returned (.tuple #[.int .u32 0, .int .i64 e]) ∧ Chg Nob w w' := by
  have HN := Lib.hid hnext
  clear hnext
  go_enter Tryd.func56, Tryd.ntmps56
  go_wp2_with fail
  refine HN.out.mono ?_
  rintro r w1 ⟨rfl, hC⟩
  go_wp2_with fail
  refine wp_loop_rounds 1 ?_
  rw [rounds_succ]
  go_wp2_with fail
  refine (As.told_wrong e w1 (hg.nob hC)).mono ?_
  rintro r w2 ⟨rfl, hC2⟩
  go_wp2_with fail
  go_ret2
  exact ⟨rfl, hC.trans hC2⟩

/-! Two: what is there, and what is not. -/


/-! Take. -/
theorem take_ok (w : World) (b : Nat) (s : ByteArray) (k n : Nat) (h : At w b s k) (hn : k + n ≤ s.size) :
    Calls Tryd.prog 43 #[.pointer (some ⟨b, 0, none⟩), .int .i64 (n : Int)] w fun e w' => e = .returned (.tuple #[.string (s.extract k (k + n)), .int .i64 0]) ∧ At w' b s (k + n) ∧ Chg (Only b) w w' := by
  have HN := Lib.hid (next_ok w b s k n h hn)
  generalize s.extract k (k + n) = u at *
  go_enter Tryd.func43, Tryd.ntmps43
  go_wp2_with fail
  refine HN.out.mono ?_
  rintro e w1 ⟨rfl, hA, hC⟩
  go_wp2_with fail
  refine (As.told_nil w1).mono ?_
  rintro e w2 ⟨rfl, hC2⟩
  go_wp2_with fail
  go_ret2
  exact ⟨rfl, hA.nob hC2, hC.trans (hC2.mono (fun _ _ h => h.elim))⟩
theorem take_no (w : World) (p : Value) (n e : Int) (hg : As.Laid w)
    (hnext : Calls Tryd.prog 57 #[p, .int .i64 n] w fun r w' => r = .returned (.tuple #[.string ⟨#[]⟩, .iface 140 (.agg #[.int .i64 e])]) ∧ Chg Nob w w') :
    Calls Tryd.prog 43 #[p, .int .i64 n] w fun r w' => r = .returned (.tuple #[.string ⟨#[]⟩, .int .i64 e]) ∧ Chg Nob w w' := by
  have HN := Lib.hid hnext
  clear hnext
  go_enter Tryd.func43, Tryd.ntmps43
  go_wp2_with fail
  refine HN.out.mono ?_
  rintro r w1 ⟨rfl, hC⟩
  go_wp2_with fail
  refine (As.told_wrong e w1 (hg.nob hC)).mono ?_
  rintro r w2 ⟨rfl, hC2⟩
  go_wp2_with fail
  go_ret2
  exact ⟨rfl, hC.trans hC2⟩

/-! Left. -/
theorem left_any (w : World) (b : Nat) (s : ByteArray) (k : Nat) (h : At w b s k) :
    Calls Tryd.prog 62 #[.pointer (some ⟨b, 0, none⟩)] w fun e w' => e = .returned (.int .i64 ((s.size : Int) - (k : Int))) ∧ ∃ n, w' = w.drewN n := by
  have h0 := h.c0
  have h1 := h.c1
  have hm := h.max
  have hl := h.le
  have g0 : (0 : Int) ≤ (s.size : Int) - (k : Int) := by omega
  have g1 : (s.size : Int) ≤ 9223372036854775807 := by omega
  have g2 : (0 : Int) ≤ (k : Int) := by omega
  go_enter Tryd.func62, Tryd.ntmps62
  go_wp2_with fail
  go_quiet (fail)
  go_wp2_with fail
  go_ret
  exact ⟨rfl, _, rfl⟩
end Go.Proofs.YtngmdefhdknggaaDoor.Cur
