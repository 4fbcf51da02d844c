/- hustingslaw06.awake, walked. -/
import Derived.Test.YtgfgmaiddmohaaaDoorEdR
import Derived.Test.YtgfgmaiddmohaaaDoorEdC
import Derived.Test.YtgfgmaiddmohaaaDoorEdS
namespace Go.Proofs.YtgfgmaiddmohaaaDoor.Ed
open Go.RowKit Go.Proofs.YtgfgmaiddmohaaaDoor.Cur Go.Proofs.YtgfgmaiddmohaaaDoor.Put

theorem parse_a : parse ⟨#[0, 10, 0, 2, 97, 98]⟩ = some [⟨10, ⟨#[97, 98]⟩⟩] := by rfl
theorem parse_b : parse ⟨#[0, 10, 0, 3, 97, 98]⟩ = none := by rfl
theorem parse_c : parse ⟨#[0, 10, 0]⟩ = none := by rfl

theorem read_a (w : World) (hg : As.Laid w) : Calls Tryd.prog 28 #[.int .u16 1232, .int .u32 32768, .string ⟨#[0, 10, 0, 2, 97, 98]⟩] w fun r w' =>
    ∃ a c, r = .returned (.tuple #[.agg #[.int .u16 1232, .int .u8 0, .int .u8 0, .int .u16 32768, .slice a 1 c], .int .i64 0]) ∧ OptsAt w' (.slice a 1 c) [⟨10, ⟨#[97, 98]⟩⟩] ∧ Chg Nob w w' :=
  (read_any w 1232 32768 ⟨#[0, 10, 0, 2, 97, 98]⟩ (by omega) (by omega) (by decide) hg).mono fun r w' h => by
    rcases h with ⟨l, v, hp, h1, hO, hC⟩ | ⟨hp, _⟩
    · rw [parse_a] at hp
      obtain rfl := Option.some.inj hp
      obtain ⟨a, c, rfl, h2⟩ := hO
      exact ⟨a, c, h1, ⟨a, c, rfl, h2⟩, hC⟩
    · rw [parse_a] at hp
      cases hp
theorem read_no (w : World) (s : ByteArray) (hp : parse s = none) (hm : s.size ≤ 1000000) (hg : As.Laid w) : Calls Tryd.prog 28 #[.int .u16 0, .int .u32 0, .string s] w fun r w' =>
    r = .returned (.tuple #[.agg #[.int .u16 0, .int .u8 0, .int .u8 0, .int .u16 0, .slice none 0 0], .int .i64 4]) ∧ Chg Nob w w' :=
  (read_any w 0 0 s (by omega) (by omega) hm hg).mono fun r w' h => by
    rcases h with ⟨l, v, hp2, _⟩ | ⟨_, h1, hC⟩
    · rw [hp] at hp2
      cases hp2
    · exact ⟨h1, hC⟩

set_option maxRecDepth 100000 in
set_option maxHeartbeats 4000000 in
theorem awake_any (w : World) (hg : As.Laid w) : Calls Tryd.prog 22 #[] w fun e w' => e = .returned (.bool true) ∧ Chg Nob w w' := by
  have HG := Lib.hid hg
  clear hg
  have HS1 := Lib.hid (fun W => split_ok W 16 (by omega))
  have HS2 := Lib.hid (fun W => split_no W 4096 (by omega))
  have HC := Lib.hid (fun W => code_any W 0 1 (by omega) (by omega))
  go_enter Tryd.func22, Tryd.ntmps22
  go_wp2_with fail
  refine (read_a w HG.out).mono ?_
  rintro r w1 ⟨a, c, rfl, hO, hC1⟩
  have r1 := alloc_new w1 (.cells #[.int .u16 1232, .int .u8 0, .int .u8 0, .int .u16 32768, .slice a 1 c] 55)
  have hD1 := hC1.alloc (.cells #[.int .u16 1232, .int .u8 0, .int .u8 0, .int .u16 32768, .slice a 1 c] 55)
  have hO1 := hO.nob ((Chg.refl Nob w1).alloc (.cells #[.int .u16 1232, .int .u8 0, .int .u8 0, .int .u16 32768, .slice a 1 c] 55))
  have hV := Lib.hid hO1
  clear hO hC1 hO1
  obtain ⟨m1, hm1⟩ : ∃ m, m = w1.heap.size := ⟨_, rfl⟩
  rw [← hm1] at r1
  go_wp2_with fail
  rw [← hm1]
  generalize World.alloc w1 _ = W1 at *
  clear hm1
  refine (read_no W1 ⟨#[0, 10, 0, 3, 97, 98]⟩ parse_b (by decide) (HG.out.nob hD1)).mono ?_
  rintro r w2 ⟨rfl, hC2⟩
  have r2 := alloc_blk (hC2.heap r1 (fun h => h)) (.cells #[.int .u16 0, .int .u8 0, .int .u8 0, .int .u16 0, .slice none 0 0] 55)
  have hD2 := (hD1.trans hC2).alloc (.cells #[.int .u16 0, .int .u8 0, .int .u8 0, .int .u16 0, .slice none 0 0] 55)
  have hV2 := Lib.hid ((hV.out.nob hC2).nob ((Chg.refl Nob w2).alloc (.cells #[.int .u16 0, .int .u8 0, .int .u8 0, .int .u16 0, .slice none 0 0] 55)))
  clear hC2 hD1 r1 hV
  go_wp2_with fail
  generalize World.alloc w2 _ = W2 at *
  refine (read_no W2 ⟨#[0, 10, 0]⟩ parse_c (by decide) (HG.out.nob hD2)).mono ?_
  rintro r w3 ⟨rfl, hC3⟩
  have r3 := alloc_blk (hC3.heap r2 (fun h => h)) (.cells #[.int .u16 0, .int .u8 0, .int .u8 0, .int .u16 0, .slice none 0 0] 55)
  have hD3 := (hD2.trans hC3).alloc (.cells #[.int .u16 0, .int .u8 0, .int .u8 0, .int .u16 0, .slice none 0 0] 55)
  have hV3 := Lib.hid ((hV2.out.nob hC3).nob ((Chg.refl Nob w3).alloc (.cells #[.int .u16 0, .int .u8 0, .int .u8 0, .int .u16 0, .slice none 0 0] 55)))
  clear hC3 hD2 r2 hV2
  go_wp2_with fail
  generalize World.alloc w3 _ = W3 at *
  refine (HS1.out W3).mono ?_
  rintro r w4 ⟨rfl, rfl⟩
  go_wp2_with fail
  refine (HS2.out W3).mono ?_
  rintro r w4 ⟨rfl, rfl⟩
  have c1 := fun i => cell_blk r3 i
  go_wp2_with fail
  have hO4 : OptsAt (W3.alloc (.cells #[.int .u16 10, .string ⟨#[97, 98]⟩] 61)) (.slice (some ⟨W3.heap.size, 0, none⟩) 1 1) [⟨10, ⟨#[97, 98]⟩⟩] :=
    OptsAt.of_blk (l := [⟨10, ⟨#[97, 98]⟩⟩]) (alloc_new W3 (.cells #[.int .u16 10, .string ⟨#[97, 98]⟩] 61)) rfl 1 (by simp) (by
      intro o ho
      rw [List.mem_singleton.1 ho]
      exact ⟨by decide, by decide⟩)
  have hV4 := hV3.out.nob ((Chg.refl Nob W3).alloc (.cells #[.int .u16 10, .string ⟨#[97, 98]⟩] 61))
  have hD4 := hD3.alloc (.cells #[.int .u16 10, .string ⟨#[97, 98]⟩] 61)
  clear c1 r3 hD3 hV3
  generalize W3.heap.size = m4 at *
  generalize World.alloc W3 _ = W4 at *
  refine (rsame_any W4 ⟨1232, 0, 0, 32768, [⟨10, ⟨#[97, 98]⟩⟩]⟩ ⟨1232, 0, 0, 32768, [⟨10, ⟨#[97, 98]⟩⟩]⟩ _ _ hV4 hO4).mono ?_
  rintro r w5 ⟨b, rfl, hb, hC5⟩
  obtain rfl : b = true := hb.2 rfl
  have hD5 := hD4.trans hC5
  clear hb hC5 hD4 hV4 hO4
  go_wp2_with fail
  refine (HC.out w5).mono ?_
  rintro r w6 ⟨rfl, rfl⟩
  go_wp2_with fail
  go_ret
  exact ⟨rfl, hD5⟩
end Go.Proofs.YtgfgmaiddmohaaaDoor.Ed
