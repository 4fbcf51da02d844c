/- HeadReads, walked. -/
import Derived.Test.YtgfgmaiddmohaaaDoorHeadAwake
namespace Go.Proofs.YtgfgmaiddmohaaaDoor.Hd
open Go.RowKit Go.Proofs.YtgfgmaiddmohaaaDoor.Cur

theorem eqHc (h : H) (W : World) : (binOp .eql 24 (.agg #[.int .u16 (h.id : Int), .bool h.qr, .int .u8 (h.op : Int), .bool h.aa, .bool h.tc, .bool h.rd, .bool h.ra, .bool h.z, .bool h.ad, .bool h.cd, .int .u8 (h.code : Int)]) (.agg #[.int .u16 (h.id : Int), .bool h.qr, .int .u8 (h.op : Int), .bool h.aa, .bool h.tc, .bool h.rd, .bool h.ra, .bool h.z, .bool h.ad, .bool h.cd, .int .u8 (h.code : Int)])).run Tryd.prog W = .ok (.bool true) W := eqH h W

/-- What both answer of any bytes. -/
theorem both (s : ByteArray) (hm : s.size ≤ 9223372036854775807) : ∃ (h : H) (x y z u e : Int),
    (∀ w : World, Bits w → Calls Tryd.prog 15 #[.string s] w fun r w' => r = .returned (.tuple #[.agg h.cells, .agg #[.int .i64 x, .int .i64 y, .int .i64 z, .int .i64 u], .int .i64 e]) ∧ Chg Nob w w') ∧
    (∀ w : World, Calls Tryd.prog 16 #[.string s] w fun r w' => r = .returned (.tuple #[.agg h.cells, .agg #[.int .i64 x, .int .i64 y, .int .i64 z, .int .i64 u], .int .i64 e]) ∧ Chg Nob w w') := by
  by_cases hs : s.size < 12
  · exact ⟨H.zero, 0, 0, 0, 0, 4, fun w _ => read_short s w hs, fun w => rread_short s w hs⟩
  · exact ⟨_, _, _, _, _, _, fun w hb => read_ok s w (by omega) hm hb, fun w => rread_ok s w (by omega) hm⟩

set_option maxRecDepth 100000 in
set_option maxHeartbeats 4000000 in
theorem reads_any (s : ByteArray) (w : World) (hm : s.size ≤ 9223372036854775807) (hb : Bits w) :
    Calls Tryd.prog 3 #[.string s] w fun e w' => e = .returned (.bool true) ∧ Chg Nob w w' := by
  obtain ⟨h, x, y, z, u, er, h1, h2⟩ := both s hm
  have q1 := eqHc h
  have q2 := eqC x y z u
  unfold H.cells at h1 h2
  have H1 := Lib.hid h1
  have H2 := Lib.hid h2
  have HB := Lib.hid hb
  clear h1 h2 hb
  go_enter Tryd.func3, Tryd.ntmps3
  go_wp2_with fail
  refine (H1.out w HB.out).mono ?_
  rintro e w1 ⟨rfl, hC1⟩
  go_wp2_with fail
  refine (H2.out _).mono ?_
  rintro e w2 ⟨rfl, hC2⟩
  have b1 := hC2.heap (alloc_blk (alloc_new w1 _) _) id
  have b2 := hC2.heap (alloc_new1 w1 _ _) id
  have c1 := cell_blk b1
  have c2 := cell_blk b2
  have l1 := lt_of_block b1
  have l2 := lt_of_block b2
  have hC := ((hC1.alloc _).alloc _).trans hC2
  clear b1 b2 hC1 hC2
  go_wp2_with fail
  refine (awake_any _ (HB.out.nob ((hC.alloc _).alloc _))).mono ?_
  rintro e w3 ⟨rfl, hC3⟩
  go_wp2_with fail
  go_ret
  exact ⟨rfl, ((hC.alloc _).alloc _).trans hC3⟩
end Go.Proofs.YtgfgmaiddmohaaaDoor.Hd
