/- hustingsref03.Write, walked. -/
import Derived.Test.YtgfgmaiddmohaaaDoorHeadWR
namespace Go.Proofs.YtgfgmaiddmohaaaDoor.Hd
open Go.RowKit Go.Proofs.YtgfgmaiddmohaaaDoor.Put

set_option maxRecDepth 100000 in
theorem rwrite_no (w : World) (h : H) (x y z u : Int) (ho : ¬ (h.op < 16 ∧ h.code < 16)) :
    Calls Tryd.prog 25 #[.agg h.cells, .agg #[.int .i64 x, .int .i64 y, .int .i64 z, .int .i64 u]] w fun e w' => e = .returned (.tuple #[.string ⟨#[]⟩, .int .i64 1]) ∧ Chg Nob w w' := by
  have HF := Lib.hid (fun w => rflags_no w h ho)
  clear ho
  obtain ⟨id, qr, op, aa, tc, rd, ra, z', ad, cd, code⟩ := h
  unfold H.cells at *
  go_enter Tryd.func25, Tryd.ntmps25
  go_wp2_with fail
  refine (HF.out _).mono ?_
  rintro e w1 ⟨rfl, hC⟩
  go_wp2_with fail
  go_ret2
  exact ⟨rfl, (((Chg.refl Nob w).alloc _).alloc _).trans hC⟩

theorem rtwo_s (w : World) (n : Nat) (hn : n < 65536) :
    Calls Tryd.prog 41 #[.int .i64 (n : Int)] w fun e w' => ∃ s : ByteArray, e = .returned (.string s) ∧ s = ⟨(two n).toArray⟩ ∧ s.size = 2 ∧ Chg Nob w w' :=
  (rtwo_any w n hn).mono fun _ _ ⟨h1, h2⟩ => ⟨_, h1, rfl, rfl, h2⟩

theorem str_app (l m : List UInt8) : (⟨l.toArray⟩ : ByteArray) ++ ⟨m.toArray⟩ = ⟨(l ++ m).toArray⟩ := by
  apply ByteArray.ext
  simp [ByteArray.data_append]

set_option maxRecDepth 100000 in
set_option maxHeartbeats 4000000 in
theorem rwrite_ok (w : World) (h : H) (x y z u : Int) (ho : h.op < 16) (hc : h.code < 16) (hid : h.id < 65536) :
    Calls Tryd.prog 25 #[.agg h.cells, .agg #[.int .i64 x, .int .i64 y, .int .i64 z, .int .i64 u]] w fun e w' => e = .returned (.tuple #[.string (wr [x, y, z, u] (two h.id ++ two h.flags)).1, .int .i64 (wr [x, y, z, u] (two h.id ++ two h.flags)).2]) ∧ Chg Nob w w' := by
  have HF := Lib.hid (fun w => rflags_ok w h ho hc)
  have hfl := h.flags_lt ho hc
  have HI := Lib.hid hid
  have HL := Lib.hid hfl
  generalize h.flags = fl at *
  clear ho hc
  obtain ⟨id, qr, op, aa, tc, rd, ra, z', ad, cd, code⟩ := h
  unfold H.cells at *
  dsimp only at *
  have f0 : (0 : Int) ≤ (id : Int) := by omega
  have f1 : (id : Int) ≤ 65535 := by omega
  have f2 : (0 : Int) ≤ (fl : Int) := by omega
  have f3 : (fl : Int) ≤ 65535 := by omega
  clear hid hfl
  generalize hout : wr [x, y, z, u] (two id ++ two fl) = out at *
  have HW := Lib.hid hout
  clear hout
  obtain ⟨t, er⟩ := out
  dsimp only
  go_enter Tryd.func25, Tryd.ntmps25
  go_wp2_with fail
  refine (HF.out _).mono ?_
  rintro e w1 ⟨rfl, hC1⟩
  have r1 := hC1.heap (alloc_blk (alloc_new w _) _) (fun h => h)
  have r2 := hC1.heap (alloc_new1 w _ _) (fun h => h)
  have hC1' : Chg Nob w w1 := (((Chg.refl Nob w).alloc _).alloc _).trans hC1
  clear hC1 HF
  have c1 := fun i => cell_blk r1 i
  go_wp2_with fail
  refine (rtwo_s w1 id HI.out).mono ?_
  rintro e w2 ⟨s1, rfl, hs1, hz1, hC2⟩
  have r2 := hC2.heap r2 (fun h => h)
  have hD2 := hC1'.trans hC2
  clear hC2 hC1' c1 r1
  go_wp2_with fail
  refine (rtwo_s w2 fl HL.out).mono ?_
  rintro e w3 ⟨s2, rfl, hs2, hz2, hC3⟩
  have r3 := hC3.heap r2 (fun h => h)
  have hD3 := hD2.trans hC3
  have hg : ¬ 9223372036854775807 < s1.size + s2.size := by omega
  clear hC3 r2 hD2
  go_wp2_with fail
  have hS3 : s1 ++ s2 = ⟨(two id ++ two fl).toArray⟩ := by rw [hs1, hs2, str_app]
  have hZ3 : (s1 ++ s2).size = 4 := by rw [ByteArray.size_append, hz1, hz2]
  generalize s1 ++ s2 = S3 at *
  clear hs1 hs2 hz1 hz2 hg
  refine wp_loop_rounds 5 ?_
  rw [rounds_succ]
  have c3 := cell_blk r3 0
  by_cases hneg0 : x < 0
  · have hneg' : (x < 0) := hneg0
    go_wp2_with fail
    go_ret2
    have hw := HW.out.symm.trans (wr_no (.inl hneg0))
    injection hw with q1 q2
    subst q1 q2
    exact ⟨rfl, hD3⟩
  by_cases hbig0 : 65535 < x
  · have hneg' : ¬ (x < 0) := hneg0
    go_wp2_with fail
    go_ret2
    have hw := HW.out.symm.trans (wr_no (.inr hbig0))
    injection hw with q1 q2
    subst q1 q2
    exact ⟨rfl, hD3⟩
  obtain ⟨n0, rfl⟩ := Int.eq_ofNat_of_zero_le (show 0 ≤ x by omega)
  have g00 : (0 : Int) ≤ (n0 : Int) := by omega
  have g10 : (n0 : Int) ≤ 65535 := by omega
  go_wp2_with fail
  refine (rtwo_s w3 n0 (by omega)).mono ?_
  rintro e w4 ⟨s, rfl, hs, hz, hC4⟩
  have r4 := hC4.heap r3 (fun h => h)
  have hD4 := hD3.trans hC4
  replace HW := Lib.hid ((wr_ok (n := n0) (by omega)).symm.trans HW.out)
  have hg : ¬ 9223372036854775807 < S3.size + s.size := by omega
  clear hC4 r3 hD3 hneg0 hbig0 g00 g10 c3
  go_wp2_with fail
  have hS4 := congrArg (· ++ s) hS3
  simp only [hs, str_app] at hS4
  rw [← hs] at hS4
  have hZ4 : (S3 ++ s).size = 6 := by rw [ByteArray.size_append, hz, hZ3]
  generalize S3 ++ s = S4 at *
  clear hs hz hg hS3 hZ3
  rw [rounds_succ]
  have c4 := cell_blk r4 1
  by_cases hneg1 : y < 0
  · have hneg' : (y < 0) := hneg1
    go_wp2_with fail
    go_ret2
    have hw := HW.out.symm.trans (wr_no (.inl hneg1))
    injection hw with q1 q2
    subst q1 q2
    exact ⟨rfl, hD4⟩
  by_cases hbig1 : 65535 < y
  · have hneg' : ¬ (y < 0) := hneg1
    go_wp2_with fail
    go_ret2
    have hw := HW.out.symm.trans (wr_no (.inr hbig1))
    injection hw with q1 q2
    subst q1 q2
    exact ⟨rfl, hD4⟩
  obtain ⟨n1, rfl⟩ := Int.eq_ofNat_of_zero_le (show 0 ≤ y by omega)
  have g01 : (0 : Int) ≤ (n1 : Int) := by omega
  have g11 : (n1 : Int) ≤ 65535 := by omega
  go_wp2_with fail
  refine (rtwo_s w4 n1 (by omega)).mono ?_
  rintro e w5 ⟨s, rfl, hs, hz, hC5⟩
  have r5 := hC5.heap r4 (fun h => h)
  have hD5 := hD4.trans hC5
  replace HW := Lib.hid ((wr_ok (n := n1) (by omega)).symm.trans HW.out)
  have hg : ¬ 9223372036854775807 < S4.size + s.size := by omega
  clear hC5 r4 hD4 hneg1 hbig1 g01 g11 c4
  go_wp2_with fail
  have hS5 := congrArg (· ++ s) hS4
  simp only [hs, str_app] at hS5
  rw [← hs] at hS5
  have hZ5 : (S4 ++ s).size = 8 := by rw [ByteArray.size_append, hz, hZ4]
  generalize S4 ++ s = S5 at *
  clear hs hz hg hS4 hZ4
  rw [rounds_succ]
  have c5 := cell_blk r5 2
  by_cases hneg2 : z < 0
  · have hneg' : (z < 0) := hneg2
    go_wp2_with fail
    go_ret2
    have hw := HW.out.symm.trans (wr_no (.inl hneg2))
    injection hw with q1 q2
    subst q1 q2
    exact ⟨rfl, hD5⟩
  by_cases hbig2 : 65535 < z
  · have hneg' : ¬ (z < 0) := hneg2
    go_wp2_with fail
    go_ret2
    have hw := HW.out.symm.trans (wr_no (.inr hbig2))
    injection hw with q1 q2
    subst q1 q2
    exact ⟨rfl, hD5⟩
  obtain ⟨n2, rfl⟩ := Int.eq_ofNat_of_zero_le (show 0 ≤ z by omega)
  have g02 : (0 : Int) ≤ (n2 : Int) := by omega
  have g12 : (n2 : Int) ≤ 65535 := by omega
  go_wp2_with fail
  refine (rtwo_s w5 n2 (by omega)).mono ?_
  rintro e w6 ⟨s, rfl, hs, hz, hC6⟩
  have r6 := hC6.heap r5 (fun h => h)
  have hD6 := hD5.trans hC6
  replace HW := Lib.hid ((wr_ok (n := n2) (by omega)).symm.trans HW.out)
  have hg : ¬ 9223372036854775807 < S5.size + s.size := by omega
  clear hC6 r5 hD5 hneg2 hbig2 g02 g12 c5
  go_wp2_with fail
  have hS6 := congrArg (· ++ s) hS5
  simp only [hs, str_app] at hS6
  rw [← hs] at hS6
  have hZ6 : (S5 ++ s).size = 10 := by rw [ByteArray.size_append, hz, hZ5]
  generalize S5 ++ s = S6 at *
  clear hs hz hg hS5 hZ5
  rw [rounds_succ]
  have c6 := cell_blk r6 3
  by_cases hneg3 : u < 0
  · have hneg' : (u < 0) := hneg3
    go_wp2_with fail
    go_ret2
    have hw := HW.out.symm.trans (wr_no (.inl hneg3))
    injection hw with q1 q2
    subst q1 q2
    exact ⟨rfl, hD6⟩
  by_cases hbig3 : 65535 < u
  · have hneg' : ¬ (u < 0) := hneg3
    go_wp2_with fail
    go_ret2
    have hw := HW.out.symm.trans (wr_no (.inr hbig3))
    injection hw with q1 q2
    subst q1 q2
    exact ⟨rfl, hD6⟩
  obtain ⟨n3, rfl⟩ := Int.eq_ofNat_of_zero_le (show 0 ≤ u by omega)
  have g03 : (0 : Int) ≤ (n3 : Int) := by omega
  have g13 : (n3 : Int) ≤ 65535 := by omega
  go_wp2_with fail
  refine (rtwo_s w6 n3 (by omega)).mono ?_
  rintro e w7 ⟨s, rfl, hs, hz, hC7⟩
  have r7 := hC7.heap r6 (fun h => h)
  have hD7 := hD6.trans hC7
  replace HW := Lib.hid ((wr_ok (n := n3) (by omega)).symm.trans HW.out)
  have hg : ¬ 9223372036854775807 < S6.size + s.size := by omega
  clear hC7 r6 hD6 hneg3 hbig3 g03 g13 c6
  go_wp2_with fail
  have hS7 := congrArg (· ++ s) hS6
  simp only [hs, str_app] at hS7
  rw [← hs] at hS7
  have hZ7 : (S6 ++ s).size = 12 := by rw [ByteArray.size_append, hz, hZ6]
  generalize S6 ++ s = S7 at *
  clear hs hz hg hS6 hZ6
  rw [rounds_succ]
  go_wp2_with fail
  go_ret2
  have hw := HW.out
  injection hw with q1 q2
  subst q1 q2
  refine ⟨congrArg (fun s => Ending.returned (.tuple #[.string s, .int .i64 0])) (?_ : (⟨(two id).toArray⟩ ++ ⟨(two fl).toArray⟩ ++ ⟨(two n0).toArray⟩ ++ ⟨(two n1).toArray⟩ ++ ⟨(two n2).toArray⟩ ++ ⟨(two n3).toArray⟩ : ByteArray) = _), hD7⟩
  simp only [str_app]
end Go.Proofs.YtgfgmaiddmohaaaDoor.Hd
