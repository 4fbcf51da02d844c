/- HeadCut, walked. -/
import Derived.Test.YtgfgmaiddmohaaaDoorHeadReads
namespace Go.Proofs.YtgfgmaiddmohaaaDoor.Hd
open Go.RowKit Go.Proofs.YtgfgmaiddmohaaaDoor.Cur

theorem byteAt_append (s t : ByteArray) (i : Nat) (h : i < s.size) : byteAt (s ++ t) i = byteAt s i := by
  unfold byteAt
  rw [ByteArray.data_append, Array.toList_append, List.getD, List.getD, List.getElem?_append_left (by simpa using h)]
theorem be_append (s t : ByteArray) (k : Nat) (h : k + 2 ≤ s.size) : be (s ++ t) k 2 = be s k 2 := by
  rw [be_two, be_two, byteAt_append s t k (by omega), byteAt_append s t (k + 1) (by omega)]
theorem be_cut (s : ByteArray) (k n : Nat) (h : k + 2 ≤ n) (hn : n ≤ s.size) : be (s.extract 0 n) k 2 = be s k 2 := by
  have h1 := byteAt_extract s 0 n k (by omega) (by omega)
  have h2 := byteAt_extract s 0 n (k + 1) (by omega) (by omega)
  rw [Nat.zero_add] at h1 h2
  rw [be_two, be_two, h1, h2, Nat.zero_add, Nat.zero_add]

set_option maxRecDepth 100000 in
set_option maxHeartbeats 4000000 in
theorem cut_short (s t : ByteArray) (w : World) (hs : s.size < 12) (hb : Bits w) :
    Calls Tryd.prog 5 #[.string s, .string t] w fun e w' => e = .returned (.bool true) ∧ Chg Nob w w' := by
  have q1 : ∀ W : World, (binOp .eql 24 (.agg #[.int .u16 0, .bool false, .int .u8 0, .bool false, .bool false, .bool false, .bool false, .bool false, .bool false, .bool false, .int .u8 0]) (.agg #[.int .u16 0, .bool false, .int .u8 0, .bool false, .bool false, .bool false, .bool false, .bool false, .bool false, .bool false, .int .u8 0])).run Tryd.prog W = .ok (.bool true) W := fun W => by kernel_rfl
  have q2 : ∀ W : World, (binOp .eql 26 (.agg #[.int .i64 0, .int .i64 0, .int .i64 0, .int .i64 0]) (.agg #[.int .i64 0, .int .i64 0, .int .i64 0, .int .i64 0])).run Tryd.prog W = .ok (.bool true) W := fun W => by kernel_rfl
  have HR := Lib.hid (show Calls Tryd.prog 15 #[.string s] w fun e w' => e = .returned (.tuple #[.agg #[.int .u16 0, .bool false, .int .u8 0, .bool false, .bool false, .bool false, .bool false, .bool false, .bool false, .bool false, .int .u8 0], .agg #[.int .i64 0, .int .i64 0, .int .i64 0, .int .i64 0], .int .i64 4]) ∧ Chg Nob w w' from read_short s w hs)
  have h1 : (s.size : Int) < 12 := by omega
  have HB := Lib.hid hb
  clear hb
  go_enter Tryd.func5, Tryd.ntmps5
  go_wp2_with fail
  refine HR.out.mono ?_
  rintro e w1 ⟨rfl, hC1⟩
  go_wp2_with fail
  refine (awake_any _ (HB.out.nob ((hC1.alloc _).alloc _))).mono ?_
  rintro e w3 ⟨rfl, hC3⟩
  go_wp2_with fail
  go_ret
  exact ⟨rfl, ((hC1.alloc _).alloc _).trans hC3⟩

set_option maxRecDepth 100000 in
set_option maxHeartbeats 4000000 in
theorem cut_long (s t : ByteArray) (w : World) (hs : 12 ≤ s.size) (hm : s.size ≤ 140737488351232) (ht : t.size ≤ 140737488351232) (hb : Bits w) :
    Calls Tryd.prog 5 #[.string s, .string t] w fun e w' => e = .returned (.bool true) ∧ Chg Nob w w' := by
  have r1 : ∀ W, Bits W → _ := fun W hB => read_ok s W hs (by omega) hB
  have r2 : ∀ W, Bits W → _ := fun W hB => read_ok (s ++ t) W (by rw [ByteArray.size_append]; omega) (by rw [ByteArray.size_append]; omega) hB
  have r3 : ∀ W, Bits W → _ := fun W hB => read_ok (s.extract 0 12) W (by rw [ByteArray.size_extract]; omega) (by rw [ByteArray.size_extract]; omega) hB
  simp only [be_append s t 0 (by omega), be_append s t 2 (by omega), be_append s t 4 (by omega), be_append s t 6 (by omega), be_append s t 8 (by omega), be_append s t 10 (by omega)] at r2
  simp only [be_cut s 0 12 (by omega) hs, be_cut s 2 12 (by omega) hs, be_cut s 4 12 (by omega) hs, be_cut s 6 12 (by omega) hs, be_cut s 8 12 (by omega) hs, be_cut s 10 12 (by omega) hs] at r3
  generalize H.of (be s 0 2) (be s 2 2) = h at *
  generalize (be s 4 2 : Int) = x at *
  generalize (be s 6 2 : Int) = y at *
  generalize (be s 8 2 : Int) = z at *
  generalize (be s 10 2 : Int) = u at *
  have q1 := eqHc h
  have q2 := eqC x y z u
  unfold H.cells at r1 r2 r3
  have R1 := Lib.hid r1
  have R2 := Lib.hid r2
  have R3 := Lib.hid r3
  have HB := Lib.hid hb
  clear r1 r2 r3 hb
  have h1 : ¬ (s.size : Int) < 12 := by omega
  have h2 : (12 : Int) ≤ (s.size : Int) := by omega
  go_enter Tryd.func5, Tryd.ntmps5
  go_wp2_with fail
  refine (R1.out w HB.out).mono ?_
  rintro e w1 ⟨rfl, hC1⟩
  have hC0 := hC1.trans (((Chg.refl Nob w1).alloc (.cells #[.int .u16 (h.id : Int), .bool h.qr, .int .u8 (h.op : Int), .bool h.aa, .bool h.tc, .bool h.rd, .bool h.ra, .bool h.z, .bool h.ad, .bool h.cd, .int .u8 (h.code : Int)] 24)).alloc (.cells #[.int .i64 x, .int .i64 y, .int .i64 z, .int .i64 u] 26))
  have b1 := alloc_blk (alloc_new w1 (.cells #[.int .u16 (h.id : Int), .bool h.qr, .int .u8 (h.op : Int), .bool h.aa, .bool h.tc, .bool h.rd, .bool h.ra, .bool h.z, .bool h.ad, .bool h.cd, .int .u8 (h.code : Int)] 24)) (.cells #[.int .i64 x, .int .i64 y, .int .i64 z, .int .i64 u] 26)
  have b2 := alloc_new1 w1 (.cells #[.int .u16 (h.id : Int), .bool h.qr, .int .u8 (h.op : Int), .bool h.aa, .bool h.tc, .bool h.rd, .bool h.ra, .bool h.z, .bool h.ad, .bool h.cd, .int .u8 (h.code : Int)] 24) (.cells #[.int .i64 x, .int .i64 y, .int .i64 z, .int .i64 u] 26)
  clear hC1
  go_wp2_with fail
  generalize World.alloc (World.alloc w1 _) _ = W1 at *
  refine (R2.out W1 (HB.out.nob hC0)).mono ?_
  rintro e w2 ⟨rfl, hC2⟩
  have b3 := hC2.heap b1 id
  have b4 := hC2.heap b2 id
  have hC3 := hC0.trans (hC2.trans (((Chg.refl Nob w2).alloc (.cells #[.int .u16 (h.id : Int), .bool h.qr, .int .u8 (h.op : Int), .bool h.aa, .bool h.tc, .bool h.rd, .bool h.ra, .bool h.z, .bool h.ad, .bool h.cd, .int .u8 (h.code : Int)] 24)).alloc (.cells #[.int .i64 x, .int .i64 y, .int .i64 z, .int .i64 u] 26)))
  have b5 := alloc_blk (alloc_blk b3 (.cells #[.int .u16 (h.id : Int), .bool h.qr, .int .u8 (h.op : Int), .bool h.aa, .bool h.tc, .bool h.rd, .bool h.ra, .bool h.z, .bool h.ad, .bool h.cd, .int .u8 (h.code : Int)] 24)) (.cells #[.int .i64 x, .int .i64 y, .int .i64 z, .int .i64 u] 26)
  have b6 := alloc_blk (alloc_blk b4 (.cells #[.int .u16 (h.id : Int), .bool h.qr, .int .u8 (h.op : Int), .bool h.aa, .bool h.tc, .bool h.rd, .bool h.ra, .bool h.z, .bool h.ad, .bool h.cd, .int .u8 (h.code : Int)] 24)) (.cells #[.int .i64 x, .int .i64 y, .int .i64 z, .int .i64 u] 26)
  have b7 := alloc_blk (alloc_new w2 (.cells #[.int .u16 (h.id : Int), .bool h.qr, .int .u8 (h.op : Int), .bool h.aa, .bool h.tc, .bool h.rd, .bool h.ra, .bool h.z, .bool h.ad, .bool h.cd, .int .u8 (h.code : Int)] 24)) (.cells #[.int .i64 x, .int .i64 y, .int .i64 z, .int .i64 u] 26)
  have b8 := alloc_new1 w2 (.cells #[.int .u16 (h.id : Int), .bool h.qr, .int .u8 (h.op : Int), .bool h.aa, .bool h.tc, .bool h.rd, .bool h.ra, .bool h.z, .bool h.ad, .bool h.cd, .int .u8 (h.code : Int)] 24) (.cells #[.int .i64 x, .int .i64 y, .int .i64 z, .int .i64 u] 26)
  clear b1 b2 b3 b4 hC0 hC2
  go_wp2_with fail
  generalize World.alloc (World.alloc w2 _) _ = W2 at *
  refine (R3.out W2 (HB.out.nob hC3)).mono ?_
  rintro e w3 ⟨rfl, hC4⟩
  have d1 := cell_blk (hC4.heap b5 id)
  have d2 := cell_blk (hC4.heap b6 id)
  have d3 := cell_blk (hC4.heap b7 id)
  have d4 := cell_blk (hC4.heap b8 id)
  have l1 := lt_of_block (hC4.heap b5 id)
  have l2 := lt_of_block (hC4.heap b6 id)
  have l3 := lt_of_block (hC4.heap b7 id)
  have l4 := lt_of_block (hC4.heap b8 id)
  have hC5 := hC3.trans hC4
  clear b5 b6 b7 b8 hC3 hC4
  go_wp2_with fail
  refine (awake_any _ (HB.out.nob ((hC5.alloc _).alloc _))).mono ?_
  rintro e w4 ⟨rfl, hC6⟩
  go_wp2_with fail
  go_ret
  exact ⟨rfl, ((hC5.alloc _).alloc _).trans hC6⟩
end Go.Proofs.YtgfgmaiddmohaaaDoor.Hd
