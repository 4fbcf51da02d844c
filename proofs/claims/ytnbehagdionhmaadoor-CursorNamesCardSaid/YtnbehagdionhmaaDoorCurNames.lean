/- hustingslaw02.CursorNames, walked. -/
import Derived.Test.YtnbehagdionhmaaDoorCurNil
import Derived.Test.YtnbehagdionhmaaDoorCurAny
import Derived.Lib.SlBytesConst
namespace Go.Proofs.YtnbehagdionhmaaDoor.Cur
open Go.RowKit Go.Proofs.YtnbehagdionhmaaDoor.Put

/-- The text of the numbers at their ends. -/
def sF : ByteArray := ⟨#[255, 255, 255, 255, 255, 255, 255]⟩
def sE : ByteArray := ⟨#[]⟩

theorem bytes_mark (w : World) (f : Nat × Nat) : BytesAt (w.alloc (.cells #[.int .u8 97] 5 f)) (.slice (some ⟨w.heap.size, 0, none⟩) 1 1) [97] := by
  refine ⟨_, 1, rfl, by decide, .inr ⟨w.heap.size, 0, rfl, by rw [World.size_alloc]; omega, fun i x hx => ?_⟩⟩
  rw [Nat.zero_add, cell_blk (alloc_new w _)]
  match i, hx with
  | 0, hx => injection hx with hx; subst hx; rfl
  | i + 1, hx => simp at hx

set_option maxRecDepth 100000 in
set_option maxHeartbeats 8000000 in
theorem names_any (w : World) (hg : As.Laid w) : Calls Tryd.prog 8 #[] w fun e w' => e = .returned (.bool true) ∧ Chg Nob w w' := by
  have HG := Lib.hid hg
  clear hg
  have kc := fun (w : World) (C : Array Value) (n c : Nat) => Lib.run_convert_bytes_const (P := Tryd.prog) w 39 5 C n c Tryd.underlying39 Tryd.underlying5
  go_enter Tryd.func8, Tryd.ntmps8
  go_wp2_with fail
  refine (awake_any w HG.out).mono ?_
  rintro e w0 ⟨rfl, hD0⟩
  go_wp2_with fail
  refine (new_any sF w0 (by decide)).mono ?_
  rintro e w1 ⟨b, rfl, hb', hA1, hC1⟩
  have hb : w.heap.size ≤ b := Nat.le_trans hD0.size hb'
  have hD1 := hD0.trans hC1
  clear hb' hD0 hC1
  go_wp2_with fail
  refine (four_ok w1 b sF 0 hA1 (by decide)).mono ?_
  rintro e w2 ⟨rfl, hA2, hC2⟩
  rw [show (be sF 0 4 : Int) = 4294967295 by decide]
  have hD2 := hD1.trans' hC2 (fun i hi => .inr (by have e2 : i = b := hi; omega))
  clear hA1 hD1 hC2
  go_wp2_with fail
  refine (two_ok w2 b sF (0 + 4) hA2 (by decide)).mono ?_
  rintro e w3 ⟨rfl, hA3, hC3⟩
  rw [show (be sF (0 + 4) 2 : Int) = 65535 by decide]
  have hD3 := hD2.trans' hC3 (fun i hi => .inr (by have e2 : i = b := hi; omega))
  clear hA2 hD2 hC3
  go_wp2_with fail
  refine (byte_ok w3 b sF (0 + 4 + 2) hA3 (by decide)).mono ?_
  rintro e w4 ⟨rfl, hA4, hC4⟩
  rw [show (be sF (0 + 4 + 2) 1 : Int) = 255 by decide]
  have hD4 := hD3.trans' hC4 (fun i hi => .inr (by have e2 : i = b := hi; omega))
  clear hA3 hD3 hC4
  go_wp2_with fail
  refine (take_ok w4 b sF (0 + 4 + 2 + 1) 0 hA4 (by decide)).mono ?_
  rintro e w5 ⟨rfl, hA5, hC5⟩
  rw [show sF.extract (0 + 4 + 2 + 1) ((0 + 4 + 2 + 1) + 0) = ⟨#[]⟩ by rfl]
  have hD5 := hD4.trans' hC5 (fun i hi => .inr (by have e2 : i = b := hi; omega))
  clear hA4 hD4 hC5
  go_wp2_with fail
  refine (take_no w5 _ 1 4 (HG.out.nob hD5) (next_short w5 b sF (0 + 4 + 2 + 1 + 0) 1 hA5 (by decide) (by decide))).mono ?_
  rintro e w6 ⟨rfl, hC6⟩
  have hD6 := hD5.trans hC6
  have hA6 := hA5.nob hC6
  clear hA5
  clear hD5 hC6
  go_wp2_with fail
  refine (take_no w6 _ (-1) 1 (HG.out.nob hD6) (next_neg w6 b (-1) (by decide))).mono ?_
  rintro e w7 ⟨rfl, hC7⟩
  have hD7 := hD6.trans hC7
  have hA7 := hA6.nob hC7
  clear hA6
  clear hD6 hC7
  go_wp2_with fail
  refine (take_no w7 _ 9223372036854775807 4 (HG.out.nob hD7) (next_short w7 b sF (0 + 4 + 2 + 1 + 0) 9223372036854775807 hA7 (by decide) (by decide))).mono ?_
  rintro e w8 ⟨rfl, hC8⟩
  have hD8 := hD7.trans hC8
  have hA8 := hA7.nob hC8
  clear hA7
  clear hD7 hC8
  go_wp2_with fail
  refine (at_any w8 b sF (0 + 4 + 2 + 1 + 0) hA8).mono ?_
  rintro e w9 ⟨rfl, rfl⟩
  go_wp2_with fail
  refine (left_any w8 b sF (0 + 4 + 2 + 1 + 0) hA8).mono ?_
  rintro e w9 ⟨rfl, n9, rfl⟩
  rw [show ((sF.size : Int) - (((0 + 4 + 2 + 1 + 0) : Nat) : Int)) = 0 by decide]
  have hC9 := (Chg.refl Nob w8).drewN n9
  have hD9 := hD8.trans hC9
  have hA9 := hA8.nob hC9
  clear hA8 hD8 hC9
  generalize w8.drewN n9 = w9 at *
  go_wp2_with fail
  refine (seek_no w9 b sF (0 + 4 + 2 + 1 + 0) (-1) hA9 (.inl (by decide))).mono ?_
  rintro e w10 ⟨rfl, rfl⟩
  go_wp2_with fail
  refine (seek_ok w9 b sF (0 + 4 + 2 + 1 + 0) 0 hA9 (by decide)).mono ?_
  rintro e w10 ⟨rfl, hA10, hC10⟩
  have hD10 := hD9.trans' hC10 (fun i hi => .inr (by have e2 : i = b := hi; omega))
  clear hA9 hD9 hC10
  go_wp2_with fail
  refine (at_any w10 b sF 0 hA10).mono ?_
  rintro e w11 ⟨rfl, rfl⟩
  go_wp2_with fail
  refine (left_any w10 b sF 0 hA10).mono ?_
  rintro e w11 ⟨rfl, n11, rfl⟩
  rw [show ((sF.size : Int) - ((0 : Nat) : Int)) = 7 by decide]
  have hC11 := (Chg.refl Nob w10).drewN n11
  have hD11 := hD10.trans hC11
  have hA11 := hA10.nob hC11
  clear hA10 hD10 hC11
  generalize w10.drewN n11 = w11 at *
  go_wp2_with fail
  clear hA11
  refine (new_any sE w11 (by decide)).mono ?_
  rintro e w12 ⟨c, rfl, hc', hA12, hC12⟩
  have hc : w.heap.size ≤ c := Nat.le_trans hD11.size hc'
  have hD12 := hD11.trans hC12
  clear hc' hD11 hC12
  go_wp2_with fail
  refine (byte_no w12 c sE 0 (HG.out.nob hD12) hA12 (by decide)).mono ?_
  rintro e w13 ⟨rfl, hC13⟩
  have hD13 := hD12.trans hC13
  have hA13 := hA12.nob hC13
  clear hA12
  clear hD12 hC13
  go_wp2_with fail
  refine (take_ok w13 c sE 0 0 hA13 (by decide)).mono ?_
  rintro e w14 ⟨rfl, hA14, hC14⟩
  rw [show sE.extract 0 (0 + 0) = ⟨#[]⟩ by rfl]
  have hD14 := hD13.trans' hC14 (fun i hi => .inr (by have e2 : i = c := hi; omega))
  clear hA13 hD13 hC14
  clear hA14
  go_wp2_with fail
  refine (byte_nil w14 (HG.out.nob hD14)).mono ?_
  rintro e w15 ⟨rfl, hC15⟩
  have hD15 := hD14.trans hC15
  clear hD14 hC15
  go_wp2_with fail
  refine (two_nil w15 (HG.out.nob hD15)).mono ?_
  rintro e w16 ⟨rfl, hC16⟩
  have hD16 := hD15.trans hC16
  clear hD15 hC16
  go_wp2_with fail
  refine (four_nil w16 (HG.out.nob hD16)).mono ?_
  rintro e w17 ⟨rfl, hC17⟩
  have hD17 := hD16.trans hC17
  clear hD16 hC17
  go_wp2_with fail
  refine (take_no w17 _ 0 2 (HG.out.nob hD17) (next_nil w17 0)).mono ?_
  rintro e w18 ⟨rfl, hC18⟩
  have hD18 := hD17.trans hC18
  clear hD17 hC18
  go_wp2_with fail
  refine (seek_nil w18 0).mono ?_
  rintro e w19 ⟨rfl, rfl⟩
  go_wp2_with fail
  refine (at_nil w18).mono ?_
  rintro e w19 ⟨rfl, rfl⟩
  go_wp2_with fail
  refine (left_nil w18).mono ?_
  rintro e w19 ⟨rfl, rfl⟩
  go_wp2_with fail
  have hC19 := (Chg.refl Nob w18).alloc (.cells #[.int .u8 97] 5 (1, 2))
  refine (put1_any _ [97] 0 (w18.alloc (.cells #[.int .u8 97] 5 (1, 2))) (by decide) (bytes_mark w18 (1, 2)) (by decide)).mono ?_
  rintro e w20 ⟨v20, rfl, hown, hC20⟩
  have hcv20 := conv_bytes (BytesAt.of_own hown)
  rw [show ([97] ++ one 0) = [97, 0] by decide] at hcv20
  have hD20 := (hD18.trans hC19).trans hC20
  clear hown hC19 hC20 hD18
  go_wp2_with fail
  clear hcv20
  refine (put2_any _ [] 65535 w20 (by decide) (BytesAt.nil w20) (by decide)).mono ?_
  rintro e w21 ⟨v21, rfl, hown, hC21⟩
  have hcv21 := conv_bytes (BytesAt.of_own hown)
  rw [show ([] ++ two 65535) = [255, 255] by decide] at hcv21
  have hD21 := hD20.trans hC21
  clear hown hC21 hD20
  go_wp2_with fail
  clear hcv21
  refine (put4_any _ [] 2147483648 w21 (by decide) (BytesAt.nil w21) (by decide)).mono ?_
  rintro e w22 ⟨v22, rfl, hown, hC22⟩
  have hcv22 := conv_bytes (BytesAt.of_own hown)
  rw [show ([] ++ four 2147483648) = [128, 0, 0, 0] by decide] at hcv22
  have hD22 := hD21.trans hC22
  clear hown hC22 hD21
  go_wp2_with fail
  go_ret
  exact ⟨rfl, hD22⟩
end Go.Proofs.YtnbehagdionhmaaDoor.Cur
