/- CursorParts, walked. -/
import Derived.Test.YtnbehagdionhmaaDoorCurAny
import Derived.Deep.CutBlock
namespace Go.Proofs.YtnbehagdionhmaaDoor.Cur
open Go.RowKit Go.Proofs.YtnbehagdionhmaaDoor.Put

theorem rem_nat (x : Int) (m : Nat) (h : 0 < m) (h2 : m ≤ 100000) : ∃ p : Nat, wrap64 ((IntKind.u64.wrap x).tmod (m : Int)) = (p : Int) ∧ p < m := by
  have h0 : 0 ≤ IntKind.u64.wrap x := by simp only [IntKind.wrap_u64]; omega
  have e : (IntKind.u64.wrap x).tmod (m : Int) = (IntKind.u64.wrap x) % (m : Int) := Int.tmod_eq_emod_of_nonneg h0
  have h3 := Int.emod_nonneg (IntKind.u64.wrap x) (show (m : Int) ≠ 0 by omega)
  have h4 := Int.emod_lt_of_pos (IntKind.u64.wrap x) (show (0 : Int) < (m : Int) by omega)
  rw [e, IntWalk.wrap64_in _ ⟨by omega, by omega⟩]
  obtain ⟨p, hp⟩ := Int.eq_ofNat_of_zero_le h3
  exact ⟨p, hp, by omega⟩

theorem extract_two (s : ByteArray) (k n m : Nat) (_h : k + n + m ≤ s.size) : s.extract k (k + n) ++ s.extract (k + n) (k + n + m) = s.extract k (k + n + m) := by
  rw [ByteArray.extract_append_extract]
  congr 1 <;> omega
theorem be_four (s : ByteArray) (k : Nat) : be s k 4 = 16777216 * byteAt s k + 65536 * byteAt s (k + 1) + 256 * byteAt s (k + 2) + byteAt s (k + 3) := by
  simp only [be, Nat.add_zero]
  omega

set_option maxRecDepth 100000 in
set_option maxHeartbeats 8000000 in
theorem parts_any (s : ByteArray) (at_ n m : Int) (w : World) (hg : As.Laid w) (hm : s.size ≤ 9223372036854775807) :
    Calls Tryd.prog 3 #[.string s, .int .i64 at_, .int .i64 n, .int .i64 m] w fun e w' => e = .returned (.bool true) ∧ Chg Nob w w' := by
  have HG := Lib.hid hg
  clear hg
  by_cases hbig : s.size ≤ 20000
  · have d1 : ¬ (20000 : Int) < (s.size : Int) := by omega
    have d2 : (s.size : Int) ≤ 20000 := by omega
    have d3 : decide ((20000 : Int) < (s.size : Int)) = false := by simp; omega
    go_enter Tryd.func3, Tryd.ntmps3
    go_wp2_with fail
    refine (awake_any w HG.out).mono ?_
    rintro e w0 ⟨rfl, hC0⟩
    go_wp2_with fail
    refine (new_any s w0 hm).mono ?_
    rintro e w1 ⟨a, rfl, ha, hA1, hC1⟩
    go_wp2_with fail
    refine (new_any s w1 hm).mono ?_
    rintro e w2 ⟨b, rfl, hb, hB2, hC2⟩
    have hA2 := hA1.nob hC2
    have hl1 := hA1.lt
    have hD2 := (hC0.trans hC1).trans hC2
    have hw0 := hC0.size
    have hab : a ≠ b := by omega
    have hwa : w.heap.size ≤ a := by omega
    have hwb : w.heap.size ≤ b := by omega
    clear hC0 hC1 hC2 hA1 hl1 ha hb hw0
    go_wp2_with fail
    obtain ⟨p, hp, hps⟩ := rem_nat at_ (s.size + 1) (by omega) (by omega)
    rw [show (((s.size + 1 : Nat)) : Int) = (s.size : Int) + 1 from by omega] at hp
    rw [hp]
    have hps : p ≤ s.size := by omega
    clear hp
    refine (seek_ok w2 a s 0 p hA2 hps).mono ?_
    rintro e w3 ⟨rfl, hA3, hC3⟩
    have hB3 := hB2.chg hC3 (fun e => hab (show b = a from e).symm)
    have hD3 := hD2.trans' hC3 (fun i hi => .inr (by have e2 : i = a := hi; omega))
    clear hA2 hB2 hC3 hD2
    go_wp2_with fail
    refine (seek_ok w3 b s 0 p hB3 hps).mono ?_
    rintro e w4 ⟨rfl, hB4, hC4⟩
    have hA4 := hA3.chg hC4 (fun e => hab (show a = b from e))
    have hD4 := hD3.trans' hC4 (fun i hi => .inr (by have e2 : i = b := hi; omega))
    clear hA3 hB3 hC4 hD3
    go_wp2_with fail
    refine (four_any w4 a s p (HG.out.nob hD4) hA4).mono ?_
    rintro e w5 ⟨x, ex, kx, rfl, gx, hA5, hC5⟩
    have hB5 := hB4.chg hC5 (fun e => hab (show b = a from e).symm)
    have hD5 := hD4.trans' hC5 (fun i hi => .inr (by have e2 : i = a := hi; omega))
    clear hA4 hB4 hC5 hD4
    go_wp2_with fail
    refine (two_any w5 b s p (HG.out.nob hD5) hB5).mono ?_
    rintro e w6 ⟨y, ey, ky, rfl, gy, hB6, hC6⟩
    have hA6 := hA5.chg hC6 (fun e => hab (show a = b from e))
    have hD6 := hD5.trans' hC6 (fun i hi => .inr (by have e2 : i = b := hi; omega))
    clear hA5 hB5 hC6 hD5
    go_wp2_with fail
    refine (two_any w6 b s ky (HG.out.nob hD6) hB6).mono ?_
    rintro e w7 ⟨z, ez, kz, rfl, gz, hB7, hC7⟩
    have hA7 := hA6.chg hC7 (fun e => hab (show a = b from e))
    have hD7 := hD6.trans' hC7 (fun i hi => .inr (by have e2 : i = b := hi; omega))
    clear hA6 hB6 hC7 hD6
    have GX := Lib.hid gx
    have GY := Lib.hid gy
    have GZ := Lib.hid gz
    have bx := gx.lt
    have bY := gy.lt
    have bz := gz.lt
    clear gx gy gz
    go_upto_region 10 with fail
    go_cut [90] (fun t wx => t = .bool false ∧ w7 = wx)
    case first =>
      have hxy : (ex = 0 ∧ ey = 0 ∧ ez = 0 ∧ x = 65536 * y + z) ∨ (ex = 4 ∧ ey = 0 ∧ ez = 4) ∨ (ex = 4 ∧ ey = 4) := by
        rcases GX.out with ⟨h1, h2, h3, h4⟩ | ⟨h1, h2, h3, h4⟩
        · rcases GY.out with ⟨i1, i2, i3, i4⟩ | ⟨i1, i2, i3, i4⟩
          · rcases GZ.out with ⟨j1, j2, j3, j4⟩ | ⟨j1, j2, j3, j4⟩
            · refine .inl ⟨h3, i3, j3, ?_⟩
              rw [h2, i2, j2, i4, be_four, be_two, be_two, show p + 2 + 1 = p + 3 from rfl]
              omega
            · omega
          · omega
        · rcases GY.out with ⟨i1, i2, i3, i4⟩ | ⟨i1, i2, i3, i4⟩
          · rcases GZ.out with ⟨j1, j2, j3, j4⟩ | ⟨j1, j2, j3, j4⟩
            · omega
            · exact .inr (.inl ⟨h3, i3, j3⟩)
          · exact .inr (.inr ⟨h3, i3⟩)
      have x0 : (0 : Int) ≤ (x : Int) := by omega
      have y0 : (0 : Int) ≤ (y : Int) := by omega
      have y1 : (y : Int) ≤ 65535 := by omega
      have z0 : (0 : Int) ≤ (z : Int) := by omega
      have z1 : (z : Int) ≤ 65535 := by omega
      rcases hxy with ⟨rfl, rfl, rfl, hx⟩ | ⟨rfl, rfl, rfl⟩ | ⟨rfl, rfl⟩
      · have hx1 : (x : Int) = (y : Int) * 65536 + (z : Int) := by omega
        have HX := Lib.hid hx1
        have hb : (y : Int) * 65536 ≤ 4294901760 := by omega
        clear hx hx1 GX GY GZ
        go_wp2_with fail
        go_meet
        case rel => exact ⟨by rw [HX.out]; simp, rfl⟩
      · clear GX GY GZ
        go_wp2_with fail
        go_meet
        case rel => exact ⟨by simp, rfl⟩
      · clear GX GY GZ
        go_wp2_with fail
        go_meet
        case rel => exact ⟨by simp, rfl⟩
    case rest =>
      obtain ⟨rfl, rfl⟩ := hcut
      clear GX GY GZ bx bY bz
      go_wp2_with fail
      refine (seek_ok w7 a s kx p hA7 hps).mono ?_
      rintro e w8 ⟨rfl, hA8, hC8⟩
      have hB8 := hB7.chg hC8 (fun e => hab (show b = a from e).symm)
      have hD8 := hD7.trans' hC8 (fun i hi => .inr (by have e2 : i = a := hi; omega))
      clear hA7 hB7 hC8 hD7
      go_wp2_with fail
      refine (seek_ok w8 b s kz p hB8 hps).mono ?_
      rintro e w9 ⟨rfl, hB9, hC9⟩
      have hA9 := hA8.chg hC9 (fun e => hab (show a = b from e))
      have hD9 := hD8.trans' hC9 (fun i hi => .inr (by have e2 : i = b := hi; omega))
      clear hA8 hB8 hC9 hD8
      go_wp2_with fail
      refine (two_any w9 a s p (HG.out.nob hD9) hA9).mono ?_
      rintro e w10 ⟨x, ex, kx, rfl, gx, hA10, hC10⟩
      have hB10 := hB9.chg hC10 (fun e => hab (show b = a from e).symm)
      have hD10 := hD9.trans' hC10 (fun i hi => .inr (by have e2 : i = a := hi; omega))
      clear hA9 hB9 hC10 hD9
      go_wp2_with fail
      refine (byte_any w10 b s p (HG.out.nob hD10) hB10).mono ?_
      rintro e w11 ⟨y, ey, ky, rfl, gy, hB11, hC11⟩
      have hA11 := hA10.chg hC11 (fun e => hab (show a = b from e))
      have hD11 := hD10.trans' hC11 (fun i hi => .inr (by have e2 : i = b := hi; omega))
      clear hA10 hB10 hC11 hD10
      go_wp2_with fail
      refine (byte_any w11 b s ky (HG.out.nob hD11) hB11).mono ?_
      rintro e w12 ⟨z, ez, kz, rfl, gz, hB12, hC12⟩
      have hA12 := hA11.chg hC12 (fun e => hab (show a = b from e))
      have hD12 := hD11.trans' hC12 (fun i hi => .inr (by have e2 : i = b := hi; omega))
      clear hA11 hB11 hC12 hD11
      have GX := Lib.hid gx
      have GY := Lib.hid gy
      have GZ := Lib.hid gz
      have bx := gx.lt
      have bY := gy.lt
      have bz := gz.lt
      clear gx gy gz
      go_upto_region 17 with fail
      go_cut [134] (fun t wx => t = .bool false ∧ w12 = wx)
      case first =>
        have hxy : (ex = 0 ∧ ey = 0 ∧ ez = 0 ∧ x = 256 * y + z) ∨ (ex = 4 ∧ ey = 0 ∧ ez = 4) ∨ (ex = 4 ∧ ey = 4) := by
          rcases GX.out with ⟨h1, h2, h3, h4⟩ | ⟨h1, h2, h3, h4⟩
          · rcases GY.out with ⟨i1, i2, i3, i4⟩ | ⟨i1, i2, i3, i4⟩
            · rcases GZ.out with ⟨j1, j2, j3, j4⟩ | ⟨j1, j2, j3, j4⟩
              · refine .inl ⟨h3, i3, j3, ?_⟩
                rw [h2, i2, j2, i4, be_two, be_one, be_one]
              · omega
            · omega
          · rcases GY.out with ⟨i1, i2, i3, i4⟩ | ⟨i1, i2, i3, i4⟩
            · rcases GZ.out with ⟨j1, j2, j3, j4⟩ | ⟨j1, j2, j3, j4⟩
              · omega
              · exact .inr (.inl ⟨h3, i3, j3⟩)
            · exact .inr (.inr ⟨h3, i3⟩)
        have x0 : (0 : Int) ≤ (x : Int) := by omega
        have y0 : (0 : Int) ≤ (y : Int) := by omega
        have y1 : (y : Int) ≤ 255 := by omega
        have z0 : (0 : Int) ≤ (z : Int) := by omega
        have z1 : (z : Int) ≤ 255 := by omega
        rcases hxy with ⟨rfl, rfl, rfl, hx⟩ | ⟨rfl, rfl, rfl⟩ | ⟨rfl, rfl⟩
        · have hx1 : (x : Int) = (y : Int) * 256 + (z : Int) := by omega
          have HX := Lib.hid hx1
          have hb : (y : Int) * 256 ≤ 65280 := by omega
          clear hx hx1 GX GY GZ
          go_wp2_with fail
          go_meet
          case rel => exact ⟨by rw [HX.out]; simp, rfl⟩
        · clear GX GY GZ
          go_wp2_with fail
          go_meet
          case rel => exact ⟨by simp, rfl⟩
        · clear GX GY GZ
          go_wp2_with fail
          go_meet
          case rel => exact ⟨by simp, rfl⟩
      case rest =>
        obtain ⟨rfl, rfl⟩ := hcut
        clear GX GY GZ bx bY bz
        go_wp2_with fail
        obtain ⟨nn, hn, hn50⟩ := rem_nat n 50 (by omega) (by omega)
        obtain ⟨mm, hmn, hm50⟩ := rem_nat m 50 (by omega) (by omega)
        rw [show (((50 : Nat)) : Int) = 50 from rfl] at hn hmn
        rw [hn, hmn]
        clear hn hmn
        refine (seek_ok w12 a s kx p hA12 hps).mono ?_
        rintro e w13 ⟨rfl, hA13, hC13⟩
        have hB13 := hB12.chg hC13 (fun e => hab (show b = a from e).symm)
        have hD13 := hD12.trans' hC13 (fun i hi => .inr (by have e2 : i = a := hi; omega))
        clear hA12 hB12 hC13 hD12
        go_wp2_with fail
        refine (seek_ok w13 b s kz p hB13 hps).mono ?_
        rintro e w14 ⟨rfl, hB14, hC14⟩
        have hA14 := hA13.chg hC14 (fun e => hab (show a = b from e))
        have hD14 := hD13.trans' hC14 (fun i hi => .inr (by have e2 : i = b := hi; omega))
        clear hA13 hB13 hC14 hD13
        have k0 : (0 : Int) ≤ (nn : Int) := by omega
        have k1 : (nn : Int) < 50 := by omega
        have k2 : (0 : Int) ≤ (mm : Int) := by omega
        have k3 : (mm : Int) < 50 := by omega
        go_wp2_with fail
        refine (take_any w14 a s p _ (HG.out.nob hD14) hA14).mono ?_
        rintro e w15 ⟨x, ex, kx, rfl, gx, hA15, hC15⟩
        have hB15 := hB14.chg hC15 (fun e => hab (show b = a from e).symm)
        have hD15 := hD14.trans' hC15 (fun i hi => .inr (by have e2 : i = a := hi; omega))
        clear hA14 hB14 hC15 hD14
        go_wp2_with fail
        refine (take_any w15 b s p _ (HG.out.nob hD15) hB15).mono ?_
        rintro e w16 ⟨y, ey, ky, rfl, gy, hB16, hC16⟩
        have hD16 := hD15.trans' hC16 (fun i hi => .inr (by have e2 : i = b := hi; omega))
        clear hA15 hB15 hC16 hD15
        go_wp2_with fail
        refine (take_any w16 b s ky _ (HG.out.nob hD16) hB16).mono ?_
        rintro e w17 ⟨z, ez, kz, rfl, gz, hB17, hC17⟩
        have hD17 := hD16.trans' hC17 (fun i hi => .inr (by have e2 : i = b := hi; omega))
        clear hB16 hC17 hD16 hB17
        have hxy : (ex = 0 ∧ ey = 0 ∧ ez = 0 ∧ x = y ++ z ∧ x = s.extract p (p + nn + mm) ∧ p + nn + mm ≤ s.size) ∨ (ex = 4 ∧ ey = 0 ∧ ez = 4) ∨ (ex = 4 ∧ ey = 4) := by
          unfold Took at gx gy gz
          simp only [Int.toNat_natCast] at gy gz
          rw [show ((nn : Int) + (mm : Int)).toNat = nn + mm from by omega] at gx
          rcases gx with gx | ⟨_, h1, h2, h3, h4⟩ | ⟨_, h1, h2, h3, h4⟩
          · omega
          · rcases gy with gy | ⟨_, i1, i2, i3, i4⟩ | ⟨_, i1, i2, i3, i4⟩
            · omega
            · subst i4
              rcases gz with gz | ⟨_, j1, j2, j3, j4⟩ | ⟨_, j1, j2, j3, j4⟩
              · omega
              · refine .inl ⟨h3, i3, j3, ?_, by rw [h2, Nat.add_assoc], by omega⟩
                rw [h2, i2, j2, ← Nat.add_assoc]
                exact (extract_two s p nn mm (by omega)).symm
              · omega
            · omega
          · rcases gy with gy | ⟨_, i1, i2, i3, i4⟩ | ⟨_, i1, i2, i3, i4⟩
            · omega
            · subst i4
              rcases gz with gz | ⟨_, j1, j2, j3, j4⟩ | ⟨_, j1, j2, j3, j4⟩
              · omega
              · omega
              · exact .inr (.inl ⟨h3, i3, j3⟩)
            · exact .inr (.inr ⟨h3, i3⟩)
        clear gx gy gz
        rcases hxy with ⟨rfl, rfl, rfl, h1, h2, h3⟩ | ⟨rfl, rfl, rfl⟩ | ⟨rfl, rfl⟩
        · have h3' : (p : Int) + (nn : Int) + (mm : Int) ≤ (s.size : Int) := by omega
          have h1' : (x.toList == (y ++ z).toList) = true := by rw [h1]; simp
          have h2' : (x.toList == (s.extract p (p + nn + mm)).toList) = true := by rw [h2]; simp
          have hyz : ¬ 9223372036854775807 < y.size + z.size := by
            have e1 : (y ++ z).size = (s.extract p (p + nn + mm)).size := by rw [← h1, ← h2]
            rw [ByteArray.size_append, ByteArray.size_extract] at e1
            omega
          have H1 := Lib.hid h1
          have H2 := Lib.hid h2
          clear h1 h2
          go_wp2_with fail
          go_ret
          exact ⟨rfl, hD17⟩
        · go_wp2_with fail
          go_ret
          exact ⟨rfl, hD17⟩
        · go_wp2_with fail
          go_ret
          exact ⟨rfl, hD17⟩
  · have d1 : (20000 : Int) < (s.size : Int) := by omega
    have d3 : decide ((20000 : Int) < (s.size : Int)) = true := by simp; omega
    go_enter Tryd.func3, Tryd.ntmps3
    go_wp2_with fail
    refine (awake_any w HG.out).mono ?_
    rintro e w0 ⟨rfl, hC0⟩
    go_wp2_with fail
    go_ret
    exact ⟨rfl, hC0⟩
end Go.Proofs.YtnbehagdionhmaaDoor.Cur
