/- HeadWrites, walked. -/
import Derived.Test.YtgfgmaiddmohaaaDoorHeadWW
import Derived.Test.YtgfgmaiddmohaaaDoorHeadReads
namespace Go.Proofs.YtgfgmaiddmohaaaDoor.Hd
open Go.RowKit Go.Proofs.YtgfgmaiddmohaaaDoor.Cur Go.Proofs.YtgfgmaiddmohaaaDoor.Put

/-- What Write and Flags answer of anything. -/
theorem bothW (h : H) (x y z u : Int) (hid : h.id < 65536) : ∃ (t : ByteArray) (e : Int),
    (∀ w : World, Bits w → Calls Tryd.prog 24 #[.agg h.cells, .agg #[.int .i64 x, .int .i64 y, .int .i64 z, .int .i64 u]] w fun r w' => r = .returned (.tuple #[.string t, .int .i64 e]) ∧ Chg Nob w w') ∧
    (∀ w : World, Calls Tryd.prog 25 #[.agg h.cells, .agg #[.int .i64 x, .int .i64 y, .int .i64 z, .int .i64 u]] w fun r w' => r = .returned (.tuple #[.string t, .int .i64 e]) ∧ Chg Nob w w') := by
  by_cases ho : h.op < 16 ∧ h.code < 16
  · exact ⟨_, _, fun w hb => write_ok w h x y z u hb ho.1 ho.2 hid, fun w => rwrite_ok w h x y z u ho.1 ho.2 hid⟩
  · exact ⟨_, _, fun w _ => write_no w h x y z u ho, fun w => rwrite_no w h x y z u ho⟩
theorem bothF (h : H) : ∃ n e : Int,
    (∀ w : World, Bits w → Calls Tryd.prog 23 #[.agg h.cells] w fun r w' => r = .returned (.tuple #[.int .u16 n, .int .i64 e]) ∧ Chg Nob w w') ∧
    (∀ w : World, Calls Tryd.prog 26 #[.agg h.cells] w fun r w' => r = .returned (.tuple #[.int .u16 n, .int .i64 e]) ∧ Chg Nob w w') := by
  by_cases ho : h.op < 16 ∧ h.code < 16
  · exact ⟨_, _, fun w hb => flags_ok w h hb ho.1 ho.2, fun w => rflags_ok w h ho.1 ho.2⟩
  · exact ⟨_, _, fun w _ => flags_no w h ho, fun w => rflags_no w h ho⟩

set_option maxRecDepth 100000 in
set_option maxHeartbeats 4000000 in
theorem writes_any (h : H) (x y z u : Int) (f : Nat) (w : World) (hid : h.id < 65536) (hf : f < 65536) (hb : Bits w) :
    Calls Tryd.prog 8 #[.agg h.cells, .agg #[.int .i64 x, .int .i64 y, .int .i64 z, .int .i64 u], .int .u16 (f : Int)] w fun e w' => e = .returned (.bool true) ∧ Chg Nob w w' := by
  obtain ⟨t, er, hw1, hw2⟩ := bothW h x y z u hid
  obtain ⟨n, en, hf1, hf2⟩ := bothF h
  have H1 := Lib.hid hw1
  have H2 := Lib.hid hw2
  have H3 := Lib.hid hf1
  have H4 := Lib.hid hf2
  have H5 := Lib.hid (fun W (hb : Bits W) => from_any W f hf hb)
  have H6 := Lib.hid (fun W => rfrom_any W f hf)
  have q1 := eqHc (H.of 0 f)
  have HB := Lib.hid hb
  clear hw1 hw2 hf1 hf2 hb hf hid
  obtain ⟨id, qr, op, aa, tc, rd, ra, z', ad, cd, code⟩ := h
  obtain ⟨g, hg⟩ : ∃ g, g = H.of 0 f := ⟨_, rfl⟩
  rw [← hg] at H5 H6 q1
  clear hg
  unfold H.cells at *
  dsimp only at *
  go_enter Tryd.func8, Tryd.ntmps8
  have hA : Chg Nob w ((w.alloc (.cells #[.int .u16 (id : Int), .bool qr, .int .u8 (op : Int), .bool aa, .bool tc, .bool rd, .bool ra, .bool z', .bool ad, .bool cd, .int .u8 (code : Int)] 24)).alloc (.cells #[.int .i64 x, .int .i64 y, .int .i64 z, .int .i64 u] 25)) := ((Chg.refl Nob w).alloc _).alloc _
  have r1 := alloc_blk (alloc_new w (.cells #[.int .u16 (id : Int), .bool qr, .int .u8 (op : Int), .bool aa, .bool tc, .bool rd, .bool ra, .bool z', .bool ad, .bool cd, .int .u8 (code : Int)] 24)) (.cells #[.int .i64 x, .int .i64 y, .int .i64 z, .int .i64 u] 25)
  have r2 := alloc_new1 w (.cells #[.int .u16 (id : Int), .bool qr, .int .u8 (op : Int), .bool aa, .bool tc, .bool rd, .bool ra, .bool z', .bool ad, .bool cd, .int .u8 (code : Int)] 24) (.cells #[.int .i64 x, .int .i64 y, .int .i64 z, .int .i64 u] 25)
  go_wp2_with fail
  refine (H1.out _ (HB.out.nob hA)).mono ?_
  rintro e w1 ⟨rfl, hC1⟩
  have r1 := hC1.heap r1 (fun h => h)
  have r2 := hC1.heap r2 (fun h => h)
  have hD1 := hA.trans hC1
  clear hC1 hA
  have c1 := fun i => cell_blk r1 i
  have c2 := fun i => cell_blk r2 i
  go_wp2_with fail
  refine (H2.out _).mono ?_
  rintro e w2 ⟨rfl, hC2⟩
  have r1 := hC2.heap r1 (fun h => h)
  have r2 := hC2.heap r2 (fun h => h)
  have hD2 := hD1.trans hC2
  clear hC2 hD1 c1 c2
  have c1 := fun i => cell_blk r1 i
  have c2 := fun i => cell_blk r2 i
  go_wp2_with fail
  refine (H3.out _ (HB.out.nob hD2)).mono ?_
  rintro e w3 ⟨rfl, hC3⟩
  have r1 := hC3.heap r1 (fun h => h)
  have hD3 := hD2.trans hC3
  clear hC3 hD2 c1 c2 r2
  have c1 := fun i => cell_blk r1 i
  go_wp2_with fail
  refine (H4.out _).mono ?_
  rintro e w4 ⟨rfl, hC4⟩
  have hD4 := hD3.trans hC4
  clear hC4 hD3 c1 r1
  go_wp2_with fail
  refine (H5.out _ (HB.out.nob hD4)).mono ?_
  rintro e w5 ⟨rfl, hC5⟩
  have hD5 := hD4.trans hC5
  clear hC5 hD4
  go_wp2_with fail
  refine (H6.out _).mono ?_
  rintro e w6 ⟨rfl, rfl⟩
  have hD6 := hD5.alloc (.cells #[.int .u16 (g.id : Int), .bool g.qr, .int .u8 (g.op : Int), .bool g.aa, .bool g.tc, .bool g.rd, .bool g.ra, .bool g.z, .bool g.ad, .bool g.cd, .int .u8 (g.code : Int)] 24)
  go_wp2_with fail
  refine (awake_any _ (HB.out.nob hD6)).mono ?_
  rintro e w7 ⟨rfl, hC7⟩
  go_wp2_with fail
  go_ret
  exact ⟨rfl, hD6.trans hC7⟩
end Go.Proofs.YtgfgmaiddmohaaaDoor.Hd
