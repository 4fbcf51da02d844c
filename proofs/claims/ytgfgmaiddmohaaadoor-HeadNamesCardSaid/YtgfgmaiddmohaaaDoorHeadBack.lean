/- HeadBack, walked. -/
import Derived.Test.YtgfgmaiddmohaaaDoorHeadBackP
import Derived.Test.YtgfgmaiddmohaaaDoorHeadReads
namespace Go.Proofs.YtgfgmaiddmohaaaDoor.Hd
open Go.RowKit Go.Proofs.YtgfgmaiddmohaaaDoor.Put Go.Proofs.YtgfgmaiddmohaaaDoor.Cur

/-- What Write answers of anything: twelve bytes, or it refuses. -/
theorem write_cases (h : H) (x y z u : Int) (hid : h.id < 65536) :
    (∃ a b c d : Nat, a < 65536 ∧ b < 65536 ∧ c < 65536 ∧ d < 65536 ∧ x = a ∧ y = b ∧ z = c ∧ u = d ∧ h.op < 16 ∧ h.code < 16 ∧
      ∀ w : World, Bits w → Calls Tryd.prog 24 #[.agg h.cells, .agg #[.int .i64 x, .int .i64 y, .int .i64 z, .int .i64 u]] w fun r w' => r = .returned (.tuple #[.string ⟨(two h.id ++ two h.flags ++ two a ++ two b ++ two c ++ two d).toArray⟩, .int .i64 0]) ∧ Chg Nob w w') ∨
    (∀ w : World, Bits w → Calls Tryd.prog 24 #[.agg h.cells, .agg #[.int .i64 x, .int .i64 y, .int .i64 z, .int .i64 u]] w fun r w' => r = .returned (.tuple #[.string ⟨#[]⟩, .int .i64 1]) ∧ Chg Nob w w') := by
  by_cases ho : h.op < 16 ∧ h.code < 16
  · by_cases hx : (∃ c ∈ [x, y, z, u], c < 0 ∨ 65535 < c)
    · refine .inr fun w hb => (write_ok w h x y z u hb ho.1 ho.2 hid).mono fun r w' ⟨h1, h2⟩ => ⟨?_, h2⟩
      rw [h1, wr_bad hx]
    · have hin : ∀ c ∈ [x, y, z, u], 0 ≤ c ∧ c ≤ 65535 := fun c hc => by
        by_cases h1 : c < 0 ∨ 65535 < c
        · exact absurd ⟨c, hc, h1⟩ hx
        · omega
      have hx0 := hin x (by simp)
      have hx1 := hin y (by simp)
      have hx2 := hin z (by simp)
      have hx3 := hin u (by simp)
      clear hin hx
      obtain ⟨a, rfl⟩ := Int.eq_ofNat_of_zero_le hx0.1
      obtain ⟨b, rfl⟩ := Int.eq_ofNat_of_zero_le hx1.1
      obtain ⟨c, rfl⟩ := Int.eq_ofNat_of_zero_le hx2.1
      obtain ⟨d, rfl⟩ := Int.eq_ofNat_of_zero_le hx3.1
      refine .inl ⟨a, b, c, d, by omega, by omega, by omega, by omega, rfl, rfl, rfl, rfl, ho.1, ho.2, fun w hb => (write_ok w h a b c d hb ho.1 ho.2 hid).mono fun r w' ⟨h1, h2⟩ => ⟨?_, h2⟩⟩
      rw [h1, wr_ok (by omega), wr_ok (by omega), wr_ok (by omega), wr_ok (by omega)]
      rfl
  · exact .inr fun w _ => write_no w h x y z u ho

theorem neC (x y z u : Int) (w : World) : (binOp .neq 26 (.agg #[.int .i64 x, .int .i64 y, .int .i64 z, .int .i64 u]) (.agg #[.int .i64 x, .int .i64 y, .int .i64 z, .int .i64 u])).run Tryd.prog w = .ok (.bool false) w := by
  have h := eqInC 9998 x y z u w
  simp only [binOp]
  simp [Op.equal, Op.maxDepth, h]
theorem neH (h : H) (w : World) : (binOp .neq 24 (.agg h.cells) (.agg h.cells)).run Tryd.prog w = .ok (.bool false) w := by
  have h1 := eqH h w
  simp only [binOp] at h1 ⊢
  generalize Op.equal _ _ _ = o at *
  simp only [Sem.run_bind] at h1 ⊢
  generalize Sem.run _ o w = r at *
  cases r with
  | ok b w' => cases b <;> simp_all [Result.andThen]
  | halt a b => simp_all [Result.andThen]

set_option maxRecDepth 100000 in
set_option maxHeartbeats 4000000 in
theorem back_any (h : H) (x y z u : Int) (s : ByteArray) (f : Nat) (w : World) (hid : h.id < 65536) (hf : f < 65536) (hm : s.size ≤ 9223372036854775807) (hb : Bits w) :
    Calls Tryd.prog 9 #[.agg h.cells, .agg #[.int .i64 x, .int .i64 y, .int .i64 z, .int .i64 u], .string s, .int .u16 (f : Int)] w fun e w' => e = .returned (.bool true) ∧ Chg Nob w w' := by
  have HB := Lib.hid hb
  clear hb
  -- what comes behind, as facts
  have H5 := Lib.hid (fun W (hb : Bits W) => from_any W f hf hb)
  have H6 := Lib.hid (fun W (hb : Bits W) => flags_ok W (H.of 0 f) hb (Nat.mod_lt _ (by omega)) (Nat.mod_lt _ (by omega)))
  rw [flags_of 0 f hf] at H6
  obtain ⟨g, hg⟩ : ∃ g, g = H.of 0 f := ⟨_, rfl⟩
  rw [← hg] at H5 H6
  clear hg
  have HR : Hid ((s.size < 12 ∧ ∀ W, Calls Tryd.prog 15 #[.string s] W fun e w' => e = .returned (.tuple #[.agg H.zero.cells, .agg #[.int .i64 0, .int .i64 0, .int .i64 0, .int .i64 0], .int .i64 4]) ∧ Chg Nob W w') ∨
      (12 ≤ s.size ∧ ∃ (p : H) (a b c d : Int), (∀ W, Bits W → Calls Tryd.prog 15 #[.string s] W fun e w' => e = .returned (.tuple #[.agg p.cells, .agg #[.int .i64 a, .int .i64 b, .int .i64 c, .int .i64 d], .int .i64 0]) ∧ Chg Nob W w') ∧
        ∀ W, Bits W → Calls Tryd.prog 24 #[.agg p.cells, .agg #[.int .i64 a, .int .i64 b, .int .i64 c, .int .i64 d]] W fun e w' => e = .returned (.tuple #[.string (s.extract 0 12), .int .i64 0]) ∧ Chg Nob W w')) := by
    apply Lib.hid
    by_cases hs : s.size < 12
    · exact .inl ⟨hs, fun W => read_short s W hs⟩
    · have b0 := be_lt s 0 2
      have b2 := be_lt s 2 2
      have b4 := be_lt s 4 2
      have b6 := be_lt s 6 2
      have b8 := be_lt s 8 2
      have b10 := be_lt s 10 2
      refine .inr ⟨by omega, _, _, _, _, _, fun W hb => read_ok s W (by omega) hm hb, fun W hb => (write_ok W (H.of (be s 0 2) (be s 2 2)) _ _ _ _ hb (Nat.mod_lt _ (by omega)) (Nat.mod_lt _ (by omega)) (show be s 0 2 < 65536 by omega)).mono fun e w' ⟨h1, h2⟩ => ⟨?_, h2⟩⟩
      rw [h1, flags_of _ _ (by omega), wr_ok (by omega), wr_ok (by omega), wr_ok (by omega), wr_ok (by omega), ← first12 s (by omega)]
      rfl
  clear hf
  rcases write_cases h x y z u hid with ⟨a, b, c, d, ha, hb, hc, hd, rfl, rfl, rfl, rfl, ho, hcd, hw⟩ | hw
  · have hfl := h.flags_lt ho hcd
    obtain ⟨t, ht⟩ : ∃ t : ByteArray, t = ⟨(two h.id ++ two h.flags ++ two a ++ two b ++ two c ++ two d).toArray⟩ := ⟨_, rfl⟩
    rw [← ht] at hw
    obtain ⟨z12, t0, t2, t4, t6, t8, t10⟩ := back12 _ _ a b c d hid hfl ha hb hc hd t ht
    clear ht
    have hR := fun W (hb : Bits W) => read_ok t W (by omega) (by omega) hb
    rw [t0, t2, t4, t6, t8, t10, of_flags h h.id ho hcd] at hR
    have hF := fun W (hb : Bits W) => flags_ok W h hb ho hcd
    have hG := fun W (hb : Bits W) => from_any W h.flags hfl hb
    rw [of_flags h 0 ho hcd] at hG
    have q1 := neH h
    have q2 := neC a b c d
    have q3 := neH { h with id := 0 }
    clear t0 t2 t4 t6 t8 t10
    have z12' : (t.size : Int) = 12 := by omega
    clear z12 ha hb hc hd ho hcd hfl
    generalize h.flags = fl at *
    have H1 := Lib.hid hw
    have H2 := Lib.hid hR
    have H3 := Lib.hid hF
    have H4 := Lib.hid hG
    clear hw hR hF hG
    obtain ⟨id, qr, op, aa, tc, rd, ra, z', ad, cd, code⟩ := h
    unfold H.cells at *
    dsimp only at *
    rw [show ((0 : Nat) : Int) = 0 from rfl] at q3 H4
    go_enter Tryd.func9, Tryd.ntmps9
    go_wp2_with fail
    refine (H1.out _ (HB.out.nob (((Chg.refl Nob w).alloc _).alloc _))).mono ?_
    rintro e w1 ⟨rfl, hC1⟩
    have r1 := hC1.heap (alloc_blk (alloc_new w _) _) (fun h => h)
    have r2 := hC1.heap (alloc_new1 w _ _) (fun h => h)
    have hD1 : Chg Nob w w1 := (((Chg.refl Nob w).alloc _).alloc _).trans hC1
    clear hC1
    go_wp2_with fail
    refine (H2.out _ (HB.out.nob hD1)).mono ?_
    rintro e w2 ⟨rfl, hC⟩
    have r1 := hC.heap r1 (fun h => h)
    have r2 := hC.heap r2 (fun h => h)
    have hD2 := hD1.trans hC
    clear hC hD1
    have c1 := fun i => cell_blk r1 i
    have c2 := fun i => cell_blk r2 i
    have l1 := lt_of_block r1
    have l2 := lt_of_block r2
    go_wp2_with fail
    clear c1 c2 l1 l2
    refine (H3.out _ (HB.out.nob ((hD2.alloc _).alloc _))).mono ?_
    rintro e w3 ⟨rfl, hC⟩
    have r3 := hC.heap (alloc_blk (alloc_new w2 _) _) (fun h => h)
    have r4 := hC.heap (alloc_new1 w2 _ _) (fun h => h)
    have r1 := hC.heap (alloc_blk (alloc_blk r1 _) _) (fun h => h)
    have r2 := hC.heap (alloc_blk (alloc_blk r2 _) _) (fun h => h)
    have hD3 := ((hD2.alloc _).alloc _).trans hC
    clear hC hD2
    have c1 := fun i => cell_blk r1 i
    have c2 := fun i => cell_blk r2 i
    have c3 := fun i => cell_blk r3 i
    have c4 := fun i => cell_blk r4 i
    have l1 := lt_of_block r1
    have l2 := lt_of_block r2
    have l3 := lt_of_block r3
    have l4 := lt_of_block r4
    go_wp2_with fail
    clear c1 c2 c3 c4 l1 l2 l3 l4
    have r5 := alloc_new w3 (.cells #[.int .u16 0, .bool qr, .int .u8 (op : Int), .bool aa, .bool tc, .bool rd, .bool ra, .bool z', .bool ad, .bool cd, .int .u8 (code : Int)] 24)
    have r1 := alloc_blk r1 (.cells #[.int .u16 0, .bool qr, .int .u8 (op : Int), .bool aa, .bool tc, .bool rd, .bool ra, .bool z', .bool ad, .bool cd, .int .u8 (code : Int)] 24)
    have r2 := alloc_blk r2 (.cells #[.int .u16 0, .bool qr, .int .u8 (op : Int), .bool aa, .bool tc, .bool rd, .bool ra, .bool z', .bool ad, .bool cd, .int .u8 (code : Int)] 24)
    have r3 := alloc_blk r3 (.cells #[.int .u16 0, .bool qr, .int .u8 (op : Int), .bool aa, .bool tc, .bool rd, .bool ra, .bool z', .bool ad, .bool cd, .int .u8 (code : Int)] 24)
    have r4 := alloc_blk r4 (.cells #[.int .u16 0, .bool qr, .int .u8 (op : Int), .bool aa, .bool tc, .bool rd, .bool ra, .bool z', .bool ad, .bool cd, .int .u8 (code : Int)] 24)
    have hD4 := hD3.alloc (.cells #[.int .u16 0, .bool qr, .int .u8 (op : Int), .bool aa, .bool tc, .bool rd, .bool ra, .bool z', .bool ad, .bool cd, .int .u8 (code : Int)] 24)
    clear hD3
    generalize World.alloc w3 _ = W0 at *
    generalize w3.heap.size = n3 at *
    have c1 := fun i => cell_blk r1 i
    have c2 := fun i => cell_blk r2 i
    have c3 := fun i => cell_blk r3 i
    have c4 := fun i => cell_blk r4 i
    have c5 := fun i => cell_blk r5 i
    go_region_held3 (fun w' => Chg Nob W0 w' ∧ (∀ i, w'.cell? ⟨w.heap.size, i, none⟩ = (#[.int .u16 (id : Int), .bool qr, .int .u8 (op : Int), .bool aa, .bool tc, .bool rd, .bool ra, .bool z', .bool ad, .bool cd, .int .u8 (code : Int)] : Array Value)[i]?) ∧ (∀ i, w'.cell? ⟨w.heap.size + 1, i, none⟩ = (#[.int .i64 (a : Int), .int .i64 (b : Int), .int .i64 (c : Int), .int .i64 (d : Int)] : Array Value)[i]?) ∧ (∀ i, w'.cell? ⟨w2.heap.size, i, none⟩ = (#[.int .u16 (id : Int), .bool qr, .int .u8 (op : Int), .bool aa, .bool tc, .bool rd, .bool ra, .bool z', .bool ad, .bool cd, .int .u8 (code : Int)] : Array Value)[i]?) ∧ (∀ i, w'.cell? ⟨w2.heap.size + 1, i, none⟩ = (#[.int .i64 (a : Int), .int .i64 (b : Int), .int .i64 (c : Int), .int .i64 (d : Int)] : Array Value)[i]?) ∧ (∀ i, w'.cell? ⟨n3, i, none⟩ = (#[.int .u16 0, .bool qr, .int .u8 (op : Int), .bool aa, .bool tc, .bool rd, .bool ra, .bool z', .bool ad, .bool cd, .int .u8 (code : Int)] : Array Value)[i]?))
      (first | exact ⟨(Chg.refl Nob W0).drew, c1, c2, c3, c4, c5⟩ | (have hD := (‹Chg Nob W0 _ ∧ _›).1.trans hC; exact ⟨hD, fun i => cell_blk (hD.heap r1 (fun h => h)) i, fun i => cell_blk (hD.heap r2 (fun h => h)) i, fun i => cell_blk (hD.heap r3 (fun h => h)) i, fun i => cell_blk (hD.heap r4 (fun h => h)) i, fun i => cell_blk (hD.heap r5 (fun h => h)) i⟩) | go_keep | ((try dsimp only); (repeat' apply And.intro) <;> (first | exact (Chg.refl Nob W0).drew | exact c1 | exact c2 | exact c3 | exact c4 | exact c5 | exact fun i => cell_blk r1 i | exact fun i => cell_blk r2 i | exact fun i => cell_blk r3 i | exact fun i => cell_blk r4 i | exact fun i => cell_blk r5 i)))
      (first | (go_at_call_of 19 (Value.int IntKind.u16 (fl : Int)); refine (H4.out _ (HB.out.nob (hD4.trans (‹Chg Nob W0 _ ∧ _›).1))).mono ?_; rintro e w' ⟨rfl, hC⟩))
    have hE := (‹Chg Nob W0 _ ∧ _›).1
    have hD5 := hD4.trans hE
    clear r1 r2 r3 r4 r5 c1 c2 c3 c4 c5 hD4 hE
    go_wp2_with fail
    rcases HR.out with ⟨hs, hr⟩ | ⟨hs, p, pa, pb, pc, pd, hr, hq⟩
    · have R1 := Lib.hid hr
      try unfold H.zero at *
      try unfold H.cells at *
      try dsimp only at *
      clear hr HR
      refine (R1.out _).mono ?_
      rintro e w6 ⟨rfl, hC⟩
      have hD6 := hD5.trans hC
      clear hC hD5
      go_wp2_with fail
      refine (H5.out _ (HB.out.nob ((hD6.alloc _).alloc _))).mono ?_
      rintro e w7 ⟨rfl, hC⟩
      have hD7 := ((hD6.alloc _).alloc _).trans hC
      clear hC hD6
      go_wp2_with fail
      refine (H6.out _ (HB.out.nob hD7)).mono ?_
      rintro e w8 ⟨rfl, hC⟩
      have hD8 := hD7.trans hC
      clear hC hD7
      go_wp2_with fail
      refine (awake_any _ (HB.out.nob hD8)).mono ?_
      rintro e w9 ⟨rfl, hC⟩
      have hD9 := hD8.trans hC
      go_wp2_with fail
      go_ret
      exact ⟨rfl, hD9⟩
    · have R1 := Lib.hid hr
      have R2 := Lib.hid hq
      have hs2 : (12 : Int) ≤ (s.size : Int) := by omega
      try unfold H.cells at *
      try dsimp only at *
      clear hr hq HR
      refine (R1.out _ (HB.out.nob hD5)).mono ?_
      rintro e w6 ⟨rfl, hC⟩
      have hD6 := hD5.trans hC
      clear hC hD5
      go_wp2_with fail
      refine (R2.out _ (HB.out.nob ((hD6.alloc _).alloc _))).mono ?_
      rintro e w7 ⟨rfl, hC⟩
      have hD7 := ((hD6.alloc _).alloc _).trans hC
      clear hC hD6
      go_wp2_with fail
      refine (H5.out _ (HB.out.nob hD7)).mono ?_
      rintro e w8 ⟨rfl, hC⟩
      have hD8 := hD7.trans hC
      clear hC hD7
      go_wp2_with fail
      refine (H6.out _ (HB.out.nob hD8)).mono ?_
      rintro e w9 ⟨rfl, hC⟩
      have hD9 := hD8.trans hC
      clear hC hD8
      go_wp2_with fail
      refine (awake_any _ (HB.out.nob hD9)).mono ?_
      rintro e w10 ⟨rfl, hC⟩
      have hD10 := hD9.trans hC
      go_wp2_with fail
      go_ret
      exact ⟨rfl, hD10⟩
  · have H1 := Lib.hid hw
    clear hw
    obtain ⟨id, qr, op, aa, tc, rd, ra, z', ad, cd, code⟩ := h
    unfold H.cells at *
    dsimp only at *
    go_enter Tryd.func9, Tryd.ntmps9
    go_wp2_with fail
    refine (H1.out _ (HB.out.nob (((Chg.refl Nob w).alloc _).alloc _))).mono ?_
    rintro e w1 ⟨rfl, hC1⟩
    have hD1 : Chg Nob w w1 := (((Chg.refl Nob w).alloc _).alloc _).trans hC1
    clear hC1
    go_wp2_with fail
    rcases HR.out with ⟨hs, hr⟩ | ⟨hs, p, pa, pb, pc, pd, hr, hq⟩
    · have R1 := Lib.hid hr
      try unfold H.zero at *
      try unfold H.cells at *
      try dsimp only at *
      clear hr HR
      refine (R1.out _).mono ?_
      rintro e w2 ⟨rfl, hC⟩
      have hD2 := hD1.trans hC
      clear hC hD1
      go_wp2_with fail
      refine (H5.out _ (HB.out.nob ((hD2.alloc _).alloc _))).mono ?_
      rintro e w3 ⟨rfl, hC⟩
      have hD3 := ((hD2.alloc _).alloc _).trans hC
      clear hC hD2
      go_wp2_with fail
      refine (H6.out _ (HB.out.nob hD3)).mono ?_
      rintro e w4 ⟨rfl, hC⟩
      have hD4 := hD3.trans hC
      clear hC hD3
      go_wp2_with fail
      refine (awake_any _ (HB.out.nob hD4)).mono ?_
      rintro e w5 ⟨rfl, hC⟩
      have hD5 := hD4.trans hC
      go_wp2_with fail
      go_ret
      exact ⟨rfl, hD5⟩
    · have R1 := Lib.hid hr
      have R2 := Lib.hid hq
      have hs2 : (12 : Int) ≤ (s.size : Int) := by omega
      try unfold H.cells at *
      try dsimp only at *
      clear hr hq HR
      refine (R1.out _ (HB.out.nob hD1)).mono ?_
      rintro e w2 ⟨rfl, hC⟩
      have hD2 := hD1.trans hC
      clear hC hD1
      go_wp2_with fail
      refine (R2.out _ (HB.out.nob ((hD2.alloc _).alloc _))).mono ?_
      rintro e w3 ⟨rfl, hC⟩
      have hD3 := ((hD2.alloc _).alloc _).trans hC
      clear hC hD2
      go_wp2_with fail
      refine (H5.out _ (HB.out.nob hD3)).mono ?_
      rintro e w4 ⟨rfl, hC⟩
      have hD4 := hD3.trans hC
      clear hC hD3
      go_wp2_with fail
      refine (H6.out _ (HB.out.nob hD4)).mono ?_
      rintro e w5 ⟨rfl, hC⟩
      have hD5 := hD4.trans hC
      clear hC hD4
      go_wp2_with fail
      refine (awake_any _ (HB.out.nob hD5)).mono ?_
      rintro e w6 ⟨rfl, hC⟩
      have hD6 := hD5.trans hC
      go_wp2_with fail
      go_ret
      exact ⟨rfl, hD6⟩
end Go.Proofs.YtgfgmaiddmohaaaDoor.Hd
