/- head.Write, walked. -/
import Derived.Test.YtgfgmaiddmohaaaDoorHeadR
import Derived.Test.YtgfgmaiddmohaaaDoorHeadF
import Derived.Test.YtgfgmaiddmohaaaDoorPuts
import Derived.Laws.IdiomStrings
import Derived.Lib.BufferRead
namespace Go.Proofs.YtgfgmaiddmohaaaDoor.Hd
open Go.RowKit Go.Proofs.YtgfgmaiddmohaaaDoor.Put

theorem conv_bytes {w : World} {v : Value} {l : List UInt8} (h : BytesAt w v l) : (convert 49 9 v).run Tryd.prog w = .ok (.string ⟨l.toArray⟩) w := by
  obtain ⟨a, c, rfl, _, h⟩ := h
  rcases a with _ | a
  · have hl : l = [] := by
      rcases h with h | ⟨b, off, e, _⟩
      · exact h
      · cases e
    subst hl
    exact Lib.run_convert_nil_bytes w 49 9 5 c Tryd.underlying49 Tryd.underlying5 Tryd.underlying9
  · refine run_convert_bytes_back w 49 9 5 a c l Tryd.underlying49 Tryd.underlying5 Tryd.underlying9 (fun j hj => ?_)
    rcases h with h | ⟨b, off, e, _, h⟩
    · subst h
      cases hj
    · injection e with e
      subst e
      rw [show ((⟨b, off, none⟩ : Addr).add j) = ⟨b, off + j, none⟩ by unfold Addr.add; split <;> simp_all]
      exact h j _ (List.getElem?_eq_getElem hj)

theorem idxc0 (x y z u : Int) (w : World) : (Instr.index 26 (.agg #[.int .i64 x, .int .i64 y, .int .i64 z, .int .i64 u]) (.int .i64 0)).run Tryd.prog w = .ok (.int .i64 x) w := by kernel_rfl
theorem idxc1 (x y z u : Int) (w : World) : (Instr.index 26 (.agg #[.int .i64 x, .int .i64 y, .int .i64 z, .int .i64 u]) (.int .i64 1)).run Tryd.prog w = .ok (.int .i64 y) w := by kernel_rfl
theorem idxc2 (x y z u : Int) (w : World) : (Instr.index 26 (.agg #[.int .i64 x, .int .i64 y, .int .i64 z, .int .i64 u]) (.int .i64 2)).run Tryd.prog w = .ok (.int .i64 z) w := by kernel_rfl
theorem idxc3 (x y z u : Int) (w : World) : (Instr.index 26 (.agg #[.int .i64 x, .int .i64 y, .int .i64 z, .int .i64 u]) (.int .i64 3)).run Tryd.prog w = .ok (.int .i64 u) w := by kernel_rfl

/-- What four counts are written as, behind bytes. -/
def wr : List Int → List UInt8 → ByteArray × Int
  | [], l => (⟨l.toArray⟩, 0)
  | c :: cs, l => if 0 ≤ c ∧ c ≤ 65535 then wr cs (l ++ two c.toNat) else (⟨#[]⟩, 1)
theorem wr_no {c : Int} {cs : List Int} {l : List UInt8} (h : c < 0 ∨ 65535 < c) : wr (c :: cs) l = (⟨#[]⟩, 1) := by
  unfold wr
  rw [if_neg (by omega)]
theorem wr_ok {n : Nat} {cs : List Int} {l : List UInt8} (h : n < 65536) : wr ((n : Int) :: cs) l = wr cs (l ++ two n) := by
  conv => lhs; unfold wr
  rw [if_pos (by omega), Int.toNat_natCast]

theorem write_no (w : World) (h : H) (x y z u : Int) (ho : ¬ (h.op < 16 ∧ h.code < 16)) :
    Calls Tryd.prog 24 #[.agg h.cells, .agg #[.int .i64 x, .int .i64 y, .int .i64 z, .int .i64 u]] w fun e w' => e = .returned (.tuple #[.string ⟨#[]⟩, .int .i64 1]) ∧ Chg Nob w w' := by
  have HF := Lib.hid (fun w => flags_no w h ho)
  clear ho
  obtain ⟨id, qr, op, aa, tc, rd, ra, z', ad, cd, code⟩ := h
  unfold H.cells at *
  go_enter Tryd.func24, Tryd.ntmps24
  go_wp2_with fail
  refine (HF.out _).mono ?_
  rintro e w1 ⟨rfl, hC⟩
  go_wp2_with fail
  go_ret2
  exact ⟨rfl, (((Chg.refl Nob w).alloc _).alloc _).trans hC⟩

set_option maxRecDepth 100000 in
set_option maxHeartbeats 4000000 in
theorem write_ok (w : World) (h : H) (x y z u : Int) (hb : Bits w) (ho : h.op < 16) (hc : h.code < 16) (hid : h.id < 65536) :
    Calls Tryd.prog 24 #[.agg h.cells, .agg #[.int .i64 x, .int .i64 y, .int .i64 z, .int .i64 u]] w fun e w' => e = .returned (.tuple #[.string (wr [x, y, z, u] (two h.id ++ two h.flags)).1, .int .i64 (wr [x, y, z, u] (two h.id ++ two h.flags)).2]) ∧ Chg Nob w w' := by
  have HF := Lib.hid (fun w (hb : Bits w) => flags_ok w h hb ho hc)
  have hfl := h.flags_lt ho hc
  have HB := Lib.hid hb
  have HI := Lib.hid hid
  have HL := Lib.hid hfl
  generalize h.flags = fl at *
  clear hb ho hc hid hfl
  obtain ⟨id, qr, op, aa, tc, rd, ra, z', ad, cd, code⟩ := h
  unfold H.cells at *
  dsimp only at *
  have HW : Hid (wr [x, y, z, u] (two id ++ two fl) = wr [x, y, z, u] ([] ++ two id ++ two fl)) := by rw [List.nil_append]; exact Lib.hid rfl
  generalize wr [x, y, z, u] (two id ++ two fl) = out at *
  obtain ⟨t, er⟩ := out
  dsimp only
  go_enter Tryd.func24, Tryd.ntmps24
  go_wp2_with fail
  refine (HF.out _ (HB.out.nob ((((Chg.refl Nob w).alloc _).alloc _)))).mono ?_
  rintro e w1 ⟨rfl, hC1⟩
  have r1 := hC1.heap (alloc_blk (alloc_new w _) _) (fun h => h)
  have r2 := hC1.heap (alloc_new1 w _ _) (fun h => h)
  have hC1' : Chg Nob w w1 := (((Chg.refl Nob w).alloc _).alloc _).trans hC1
  clear hC1 HF
  have c1 := cell_blk r1 0
  go_wp2_with fail
  clear c1 r1
  refine (put2_any _ [] id w1 HI.out (BytesAt.nil w1) (by decide)).mono ?_
  rintro e w2 ⟨v2, rfl, hown, hC2⟩
  have hB2 := BytesAt.of_own hown
  have hD2 := hC1'.trans hC2
  have r2 := hC2.heap r2 (fun h => h)
  clear hown hC1' hC2
  go_wp2_with fail
  refine (put2_any _ _ fl w2 HL.out hB2 (by simp [two])).mono ?_
  rintro e w3 ⟨v3, rfl, hown, hC3⟩
  have hB3 := BytesAt.of_own hown
  have hD3 := hD2.trans hC3
  have r3 := hC3.heap r2 (fun h => h)
  have c3 := fun i => cell_blk r3 i
  clear hown hD2 hC3 r2 hB2
  go_wp2_with fail
  clear c3 r3
  have i0 := idxc0
  have i1 := idxc1
  have i2 := idxc2
  have i3 := idxc3
  refine wp_loop_rounds 5 ?_
  rw [rounds_succ]
  by_cases hneg0 : x < 0
  · have hneg' : (x < 0) := hneg0
    go_wp2_with fail
    go_ret2
    have hw := HW.out.trans (wr_no (.inl hneg0))
    injection hw with q1 q2
    subst q1 q2
    exact ⟨rfl, hD3⟩
  by_cases hbig0 : 65535 < x
  · have hneg' : ¬ (x < 0) := hneg0
    go_wp2_with fail
    go_ret2
    have hw := HW.out.trans (wr_no (.inr hbig0))
    injection hw with q1 q2
    subst q1 q2
    exact ⟨rfl, hD3⟩
  obtain ⟨n0, rfl⟩ := Int.eq_ofNat_of_zero_le (show 0 ≤ x by omega)
  have g00 : (0 : Int) ≤ (n0 : Int) := by omega
  have g10 : (n0 : Int) ≤ 65535 := by omega
  go_wp2_with fail
  refine (put2_any _ _ n0 w3 (by omega) hB3 (by simp [two])).mono ?_
  rintro e w4 ⟨v4, rfl, hown, hC4⟩
  have hB4 := BytesAt.of_own hown
  have hD4 := hD3.trans hC4
  replace HW := Lib.hid (HW.out.trans (wr_ok (n := n0) (by omega)))
  clear hown hC4 hB3 hD3 hneg0 hbig0 g00 g10
  go_wp2_with fail
  rw [rounds_succ]
  by_cases hneg1 : y < 0
  · have hneg' : (y < 0) := hneg1
    go_wp2_with fail
    go_ret2
    have hw := HW.out.trans (wr_no (.inl hneg1))
    injection hw with q1 q2
    subst q1 q2
    exact ⟨rfl, hD4⟩
  by_cases hbig1 : 65535 < y
  · have hneg' : ¬ (y < 0) := hneg1
    go_wp2_with fail
    go_ret2
    have hw := HW.out.trans (wr_no (.inr hbig1))
    injection hw with q1 q2
    subst q1 q2
    exact ⟨rfl, hD4⟩
  obtain ⟨n1, rfl⟩ := Int.eq_ofNat_of_zero_le (show 0 ≤ y by omega)
  have g01 : (0 : Int) ≤ (n1 : Int) := by omega
  have g11 : (n1 : Int) ≤ 65535 := by omega
  go_wp2_with fail
  refine (put2_any _ _ n1 w4 (by omega) hB4 (by simp [two])).mono ?_
  rintro e w5 ⟨v5, rfl, hown, hC5⟩
  have hB5 := BytesAt.of_own hown
  have hD5 := hD4.trans hC5
  replace HW := Lib.hid (HW.out.trans (wr_ok (n := n1) (by omega)))
  clear hown hC5 hB4 hD4 hneg1 hbig1 g01 g11
  go_wp2_with fail
  rw [rounds_succ]
  by_cases hneg2 : z < 0
  · have hneg' : (z < 0) := hneg2
    go_wp2_with fail
    go_ret2
    have hw := HW.out.trans (wr_no (.inl hneg2))
    injection hw with q1 q2
    subst q1 q2
    exact ⟨rfl, hD5⟩
  by_cases hbig2 : 65535 < z
  · have hneg' : ¬ (z < 0) := hneg2
    go_wp2_with fail
    go_ret2
    have hw := HW.out.trans (wr_no (.inr hbig2))
    injection hw with q1 q2
    subst q1 q2
    exact ⟨rfl, hD5⟩
  obtain ⟨n2, rfl⟩ := Int.eq_ofNat_of_zero_le (show 0 ≤ z by omega)
  have g02 : (0 : Int) ≤ (n2 : Int) := by omega
  have g12 : (n2 : Int) ≤ 65535 := by omega
  go_wp2_with fail
  refine (put2_any _ _ n2 w5 (by omega) hB5 (by simp [two])).mono ?_
  rintro e w6 ⟨v6, rfl, hown, hC6⟩
  have hB6 := BytesAt.of_own hown
  have hD6 := hD5.trans hC6
  replace HW := Lib.hid (HW.out.trans (wr_ok (n := n2) (by omega)))
  clear hown hC6 hB5 hD5 hneg2 hbig2 g02 g12
  go_wp2_with fail
  rw [rounds_succ]
  by_cases hneg3 : u < 0
  · have hneg' : (u < 0) := hneg3
    go_wp2_with fail
    go_ret2
    have hw := HW.out.trans (wr_no (.inl hneg3))
    injection hw with q1 q2
    subst q1 q2
    exact ⟨rfl, hD6⟩
  by_cases hbig3 : 65535 < u
  · have hneg' : ¬ (u < 0) := hneg3
    go_wp2_with fail
    go_ret2
    have hw := HW.out.trans (wr_no (.inr hbig3))
    injection hw with q1 q2
    subst q1 q2
    exact ⟨rfl, hD6⟩
  obtain ⟨n3, rfl⟩ := Int.eq_ofNat_of_zero_le (show 0 ≤ u by omega)
  have g03 : (0 : Int) ≤ (n3 : Int) := by omega
  have g13 : (n3 : Int) ≤ 65535 := by omega
  go_wp2_with fail
  refine (put2_any _ _ n3 w6 (by omega) hB6 (by simp [two])).mono ?_
  rintro e w7 ⟨v7, rfl, hown, hC7⟩
  have hB7 := BytesAt.of_own hown
  have hD7 := hD6.trans hC7
  replace HW := Lib.hid (HW.out.trans (wr_ok (n := n3) (by omega)))
  clear hown hC7 hB6 hD6 hneg3 hbig3 g03 g13
  go_wp2_with fail
  rw [rounds_succ]
  have hcv := conv_bytes hB7
  go_wp2_with fail
  go_ret2
  have hw := HW.out
  injection hw with q1 q2
  subst q1 q2
  exact ⟨rfl, hD7⟩
end Go.Proofs.YtgfgmaiddmohaaaDoor.Hd
