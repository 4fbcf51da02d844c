/- EdnsNames, walked. -/
import Derived.Test.YtgfgmaiddmohaaaDoorEdBehind
import Derived.Test.YtgfgmaiddmohaaaDoorEdAw
import Derived.Test.YtgfgmaiddmohaaaDoorMake
namespace Go.Proofs.YtgfgmaiddmohaaaDoor.Ed
open Go.RowKit Go.Proofs.YtgfgmaiddmohaaaDoor.Cur Go.Proofs.YtgfgmaiddmohaaaDoor.Put Go.Proofs.YtgfgmaiddmohaaaDoor.Hd

theorem parse_d : parse ⟨#[0, 0, 0, 0, 255, 255, 0, 0]⟩ = some [⟨0, ⟨#[]⟩⟩, ⟨65535, ⟨#[]⟩⟩] := by rfl
theorem parse_e : parse ⟨#[]⟩ = some [] := by rfl
theorem parse_f : parse ⟨#[0]⟩ = none := by rfl

/-- What edns.Write says of options that are too long. -/
theorem write_long (w : World) (v : Value) (l : List Opt) (hv : OptsAt w v l) (h : 65535 < (total l).length) :
    Calls Tryd.prog 30 #[.agg #[.int .u16 0, .int .u8 0, .int .u8 0, .int .u16 0, v]] w fun r w' => r = .returned (.tuple #[.int .u16 0, .int .u32 0, .string ⟨#[]⟩, .int .i64 5]) ∧ Chg Nob w w' := by
  refine write_none w ⟨0, 0, 0, 0, l⟩ v ⟨by simp, by simp, by simp, by simp⟩ hv ?_
  rw [wro_nil, if_neg (by simp only; omega)]
theorem write_fits (w : World) (v : Value) (l : List Opt) (hv : OptsAt w v l) (h : (total l).length ≤ 65535) :
    Calls Tryd.prog 30 #[.agg #[.int .u16 0, .int .u8 0, .int .u8 0, .int .u16 0, v]] w fun r w' => r = .returned (.tuple #[.int .u16 0, .int .u32 0, .string ⟨(total l).toArray⟩, .int .i64 0]) ∧ Chg Nob w w' :=
  write_some w ⟨0, 0, 0, 0, l⟩ v ⟨by simp, by simp, by simp, by simp⟩ hv _ (by rw [wro_nil, if_pos h])

theorem total_one (o : Opt) : (total [o]).length = 4 + o.data.size := by
  rw [total, total, List.append_nil, Opt.bytes_len]
theorem total_two (o p : Opt) : (total [o, p]).length = 4 + o.data.size + (4 + p.data.size) := by
  rw [total, total, total, List.append_nil, List.length_append, Opt.bytes_len, Opt.bytes_len]

/-- A literal of options, at a world's next block. -/
theorem opt_lit (w : World) (o : Opt) (ho : o.Ok) : OptsAt (w.alloc (.cells #[.int .u16 (o.code : Int), .string o.data] 61)) (.slice (some ⟨w.heap.size, 0, none⟩) 1 1) [o] :=
  OptsAt.of_blk (l := [o]) (alloc_new w _) rfl 1 (by simp) (by
    intro p hp
    rw [List.mem_singleton.1 hp]
    exact ho)
theorem opt_lit2 (w : World) (o p : Opt) (ho : o.Ok) (hp : p.Ok) : OptsAt (w.alloc (.cells #[.int .u16 (o.code : Int), .string o.data, .int .u16 (p.code : Int), .string p.data] 61)) (.slice (some ⟨w.heap.size, 0, none⟩) 2 2) [o, p] :=
  OptsAt.of_blk (l := [o, p]) (alloc_new w _) rfl 2 (by simp) (by
    intro q hq
    rcases List.mem_cons.1 hq with rfl | hq
    · exact ho
    · rw [List.mem_singleton.1 hq]
      exact hp)

set_option maxRecDepth 100000 in
set_option maxHeartbeats 4000000 in
theorem names_any (w : World) (hg : As.Laid w) : Calls Tryd.prog 10 #[] w fun e w' => e = .returned (.bool true) ∧ Chg Nob w w' := by
  have HG := Lib.hid hg
  clear hg
  have HS1 := Lib.hid (fun W => split_ok W 4095 (by omega))
  have HS2 := Lib.hid (fun W => split_no W (-1) (by omega))
  have HS3 := Lib.hid (fun W => split_ok W 0 (by omega))
  have HC1 := Lib.hid (fun W => code_any W 255 255 (by omega) (by omega))
  have HC2 := Lib.hid (fun W => code_any W 16 0 (by omega) (by omega))
  have HR1 := Lib.hid (fun W hg => read_e W 65535 4294967295 ⟨#[0, 0, 0, 0, 255, 255, 0, 0]⟩ _ ⟨65535, 255, 255, 65535, [⟨0, ⟨#[]⟩⟩, ⟨65535, ⟨#[]⟩⟩]⟩ rfl (by omega) (by omega) (by decide) hg parse_d)
  have HR2 := Lib.hid (fun W hg => read_e W 0 0 ⟨#[]⟩ _ ⟨0, 0, 0, 0, []⟩ rfl (by omega) (by omega) (by decide) hg parse_e)
  have HR3 := Lib.hid (fun W hg => read_none W 0 0 ⟨#[0]⟩ (by omega) (by omega) (by decide) hg parse_f)
  go_enter Tryd.func10, Tryd.ntmps10
  go_wp2_with fail
  refine (awake_any w HG.out).mono ?_
  rintro r w0 ⟨rfl, hC0⟩
  go_wp2_with fail
  refine (HR1.out w0 (HG.out.nob hC0)).mono ?_
  rintro r w1 ⟨v1, rfl, hO1, hC1⟩
  obtain ⟨a1, c1, rfl, hl1, hk1, hu1⟩ := hO1
  have HO1 := Lib.hid (show OptsAt w1 (.slice a1 2 c1) [⟨0, ⟨#[]⟩⟩, ⟨65535, ⟨#[]⟩⟩] from ⟨a1, c1, rfl, hl1, hk1, hu1⟩)
  have hD1 := hC0.trans hC1
  clear hl1 hk1 hu1 hC0 hC1
  have r1 := alloc_new w1 (.cells #[.int .u16 65535, .int .u8 255, .int .u8 255, .int .u16 65535, .slice a1 2 c1] 55)
  have hA1 := (Chg.refl Nob w1).alloc (.cells #[.int .u16 65535, .int .u8 255, .int .u8 255, .int .u16 65535, .slice a1 2 c1] 55)
  obtain ⟨m1, hm1⟩ : ∃ m, m = w1.heap.size := ⟨_, rfl⟩
  rw [← hm1] at r1
  go_wp2_with fail
  rw [← hm1]
  generalize World.alloc w1 _ = W1 at *
  have hD2 := hD1.trans hA1
  have HO2 := Lib.hid (HO1.out.nob hA1)
  clear hm1 hA1 HO1 hD1
  refine (HR2.out W1 (HG.out.nob hD2)).mono ?_
  rintro r w2 ⟨v2, rfl, hO2, hC2⟩
  obtain ⟨a2, c2, rfl, _⟩ := hO2
  have r1 := alloc_blk (hC2.heap r1 (fun h => h)) (.cells #[.int .u16 0, .int .u8 0, .int .u8 0, .int .u16 0, .slice a2 0 c2] 55)
  have r2 := alloc_new w2 (.cells #[.int .u16 0, .int .u8 0, .int .u8 0, .int .u16 0, .slice a2 0 c2] 55)
  have hA2 := hC2.alloc (.cells #[.int .u16 0, .int .u8 0, .int .u8 0, .int .u16 0, .slice a2 0 c2] 55)
  obtain ⟨m2, hm2⟩ : ∃ m, m = w2.heap.size := ⟨_, rfl⟩
  rw [← hm2] at r2
  go_wp2_with fail
  rw [← hm2]
  generalize World.alloc w2 _ = W2 at *
  have hD3 := hD2.trans hA2
  have HO3 := Lib.hid (HO2.out.nob hA2)
  clear hm2 hA2 HO2 hD2 hC2
  refine (HR3.out W2 (HG.out.nob hD3)).mono ?_
  rintro r w3 ⟨rfl, hC3⟩
  have r1 := alloc_blk (hC3.heap r1 (fun h => h)) (.cells #[.int .u16 0, .int .u8 0, .int .u8 0, .int .u16 0, .slice none 0 0] 55)
  have r2 := alloc_blk (hC3.heap r2 (fun h => h)) (.cells #[.int .u16 0, .int .u8 0, .int .u8 0, .int .u16 0, .slice none 0 0] 55)
  have hA3 := hC3.alloc (.cells #[.int .u16 0, .int .u8 0, .int .u8 0, .int .u16 0, .slice none 0 0] 55)
  have q1 := fun i => cell_blk r1 i
  have q2 := fun i => cell_blk r2 i
  have hz3 : (World.alloc w3 (.cells #[.int .u16 0, .int .u8 0, .int .u8 0, .int .u16 0, .slice none 0 0] 55)).heap.size = w3.heap.size + 1 := World.size_alloc ..
  go_wp2_with fail
  rw [← hz3]
  generalize World.alloc w3 _ = W3 at *
  have hD4 := hD3.trans hA3
  have hO4 : OptsAt (W3.alloc (.cells #[.int .u16 0, .string ⟨#[]⟩, .int .u16 65535, .string ⟨#[]⟩] 61)) (.slice (some ⟨W3.heap.size, 0, none⟩) 2 2) [⟨0, ⟨#[]⟩⟩, ⟨65535, ⟨#[]⟩⟩] :=
    OptsAt.of_blk (l := [⟨0, ⟨#[]⟩⟩, ⟨65535, ⟨#[]⟩⟩]) (alloc_new W3 (.cells #[.int .u16 0, .string ⟨#[]⟩, .int .u16 65535, .string ⟨#[]⟩] 61)) rfl 2 (by simp) (by
      intro o ho
      rcases List.mem_cons.1 ho with rfl | ho
      · exact ⟨by decide, by decide⟩
      · rw [List.mem_singleton.1 ho]
        exact ⟨by decide, by decide⟩)
  have hA4 := (Chg.refl Nob W3).alloc (.cells #[.int .u16 0, .string ⟨#[]⟩, .int .u16 65535, .string ⟨#[]⟩] 61)
  have hV4 := (HO3.out.nob hA3).nob hA4
  have HO4 := Lib.hid hV4
  have hD5 := hD4.trans hA4
  have r1 := hA4.heap r1 (fun h => h)
  have r2 := hA4.heap r2 (fun h => h)
  clear hz3 hA3 hC3 hD3 hD4 hA4 HO3 q1 q2
  generalize W3.heap.size = m4 at *
  generalize World.alloc W3 _ = W4 at *
  refine (rsame_yes W4 ⟨65535, 255, 255, 65535, [⟨0, ⟨#[]⟩⟩, ⟨65535, ⟨#[]⟩⟩]⟩ ⟨65535, 255, 255, 65535, [⟨0, ⟨#[]⟩⟩, ⟨65535, ⟨#[]⟩⟩]⟩ _ _ hV4 hO4 rfl).mono ?_
  rintro r w5 ⟨rfl, hC5⟩
  have r1 := hC5.heap r1 (fun h => h)
  have r2 := hC5.heap r2 (fun h => h)
  have q1 := fun i => cell_blk r1 i
  have q2 := fun i => cell_blk r2 i
  have hD6 := hD5.trans hC5
  have HO5 := Lib.hid (HO4.out.nob hC5)
  clear hV4 hO4 HO4 hD5 hC5
  go_wp2_with fail
  refine (rsame_yes w5 ⟨0, 0, 0, 0, []⟩ ⟨0, 0, 0, 0, []⟩ _ _ (OptsAt.nil w5 a2 c2) (OptsAt.nil w5 none 0) rfl).mono ?_
  rintro r w6 ⟨rfl, hC6⟩
  have r1 := hC6.heap r1 (fun h => h)
  have q3 := fun i => cell_blk r1 i
  have hD7 := hD6.trans hC6
  have HO6 := Lib.hid (HO5.out.nob hC6)
  clear q1 q2 HO5 hD6 hC6 r2
  go_wp2_with fail
  refine (write_y w6 65535 4294967295 ⟨#[0, 0, 0, 0, 255, 255, 0, 0]⟩ _ ⟨65535, 255, 255, 65535, [⟨0, ⟨#[]⟩⟩, ⟨65535, ⟨#[]⟩⟩]⟩ _ rfl (by omega) (by omega) (by decide) HO6.out parse_d).mono ?_
  rintro r w7 ⟨rfl, hC7⟩
  have hD8 := hD7.trans hC7
  clear q3 r1 hC7 hD7 HO6
  obtain ⟨w8, hmk, _, hB8, hC8⟩ := make_bytes 65531 w7 (by omega) .i64 .i64
  have hmk : (Instr.makeSlice 49 (.int .i64 65531) (.int .i64 65531)).run Tryd.prog w7 = _ := hmk
  have hcv := conv_bytes hB8
  obtain ⟨F, hF⟩ : ∃ F : ByteArray, F = ⟨(List.replicate 65531 0).toArray⟩ := ⟨_, rfl⟩
  rw [← hF] at hcv
  have hFs : F.size = 65531 := by rw [hF]; show (List.replicate 65531 (0 : UInt8)).toArray.size = 65531; rw [List.size_toArray, List.length_replicate]
  have HFS := Lib.hid hFs
  have hD9 := hD8.trans hC8
  have f0 : (F.size : Int) = 65531 := by omega
  have n1 : ¬ 9223372036854775807 < F.size + (⟨#[97]⟩ : ByteArray).size := by rw [hFs]; decide
  have n2 : ¬ 9223372036854775807 < F.size + (⟨#[49, 50, 51, 52, 53]⟩ : ByteArray).size := by rw [hFs]; decide
  have hFs0 := HFS.out
  clear hF hB8 hC8 hD8 hFs
  have g1 : (F ++ (⟨#[97]⟩ : ByteArray)).size = 65532 := by rw [ByteArray.size_append, hFs0]; rfl
  have g2 : (F ++ (⟨#[49, 50, 51, 52, 53]⟩ : ByteArray)).size = 65536 := by rw [ByteArray.size_append, hFs0]; rfl
  have HW1 := Lib.hid (fun W v hv => write_fits W v [⟨0, F⟩] hv (by rw [total_one]; show 4 + F.size ≤ 65535; omega))
  have HW2 := Lib.hid (fun W v hv => write_long W v [⟨0, F ++ ⟨#[97]⟩⟩] hv (by rw [total_one]; show 65535 < 4 + (F ++ ⟨#[97]⟩).size; omega))
  have HW3 := Lib.hid (fun W v hv => write_long W v [⟨0, F⟩, ⟨0, ⟨#[]⟩⟩] hv (by rw [total_two]; show 65535 < 4 + F.size + _; omega))
  have HW4 := Lib.hid (fun W v hv => write_long W v [⟨0, F ++ ⟨#[49, 50, 51, 52, 53]⟩⟩] hv (by rw [total_one]; show 65535 < 4 + (F ++ ⟨#[49, 50, 51, 52, 53]⟩).size; omega))
  have HO1 := Lib.hid (fun W => opt_lit W ⟨0, F⟩ ⟨by simp, by simp only; omega⟩)
  have HO2 := Lib.hid (fun W => opt_lit W ⟨0, F ++ ⟨#[97]⟩⟩ ⟨by simp, by simp only; omega⟩)
  have HO3 := Lib.hid (fun W => opt_lit2 W ⟨0, F⟩ ⟨0, ⟨#[]⟩⟩ ⟨by simp, by simp only; omega⟩ ⟨by simp, by decide⟩)
  have HO4 := Lib.hid (fun W => opt_lit W ⟨0, F ++ ⟨#[49, 50, 51, 52, 53]⟩⟩ ⟨by simp, by simp only; omega⟩)
  obtain ⟨S, hS⟩ : ∃ S : ByteArray, S = ⟨(total [⟨0, F⟩]).toArray⟩ := ⟨_, rfl⟩
  rw [← hS] at HW1
  have hSs : S.size = 65535 := by rw [hS]; show (total [⟨0, F⟩]).toArray.size = 65535; rw [List.size_toArray, total_one]; show 4 + F.size = 65535; omega
  have s0 : (S.size : Int) = 65535 := by omega
  clear hS hSs g1 g2 hFs0
  go_wp2_with fail
  refine (HW1.out _ _ (HO1.out w8)).mono ?_
  rintro r w9 ⟨rfl, hC9⟩
  have hD10 := (hD9.alloc _).trans hC9
  clear hC9 hD9 hcv hmk
  go_wp2_with fail
  refine (HW2.out _ _ (HO2.out w9)).mono ?_
  rintro r w10 ⟨rfl, hC10⟩
  have hD11 := (hD10.alloc _).trans hC10
  clear hC10 hD10
  go_wp2_with fail
  refine (HW3.out _ _ (HO3.out w10)).mono ?_
  rintro r w11 ⟨rfl, hC11⟩
  have hD12 := (hD11.alloc _).trans hC11
  clear hC11 hD11
  go_wp2_with fail
  refine (HW4.out _ _ (HO4.out w11)).mono ?_
  rintro r w12 ⟨rfl, hC12⟩
  have hD13 := (hD12.alloc _).trans hC12
  clear hC12 hD12
  go_wp2_with fail
  refine (HS1.out w12).mono ?_
  rintro r w13 ⟨rfl, rfl⟩
  go_wp2_with fail
  refine (HS2.out w12).mono ?_
  rintro r w13 ⟨rfl, rfl⟩
  go_wp2_with fail
  refine (HS3.out w12).mono ?_
  rintro r w13 ⟨rfl, rfl⟩
  go_wp2_with fail
  refine (HC1.out w12).mono ?_
  rintro r w13 ⟨rfl, rfl⟩
  go_wp2_with fail
  refine (HC2.out w12).mono ?_
  rintro r w13 ⟨rfl, rfl⟩
  go_wp2_with fail
  go_ret
  exact ⟨rfl, hD13⟩
end Go.Proofs.YtgfgmaiddmohaaaDoor.Ed
