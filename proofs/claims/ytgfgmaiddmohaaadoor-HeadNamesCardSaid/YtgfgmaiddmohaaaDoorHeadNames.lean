/- HeadNames, walked. -/
import Derived.Test.YtgfgmaiddmohaaaDoorHeadBack
import Derived.Deep.RegionHeldLaw
namespace Go.Proofs.YtgfgmaiddmohaaaDoor.Hd
open Go.RowKit Go.Proofs.YtgfgmaiddmohaaaDoor.Put Go.Proofs.YtgfgmaiddmohaaaDoor.Cur

/-- The table: headers, and their flags. -/
def tab : List (H × Nat) :=
  [({ H.zero with qr := true }, 32768), ({ H.zero with op := 15 }, 30720), ({ H.zero with op := 1 }, 2048), ({ H.zero with aa := true }, 1024), ({ H.zero with tc := true }, 512), ({ H.zero with rd := true }, 256),
   ({ H.zero with ra := true }, 128), ({ H.zero with z := true }, 64), ({ H.zero with ad := true }, 32), ({ H.zero with cd := true }, 16), ({ H.zero with code := 15 }, 15), (H.zero, 0)]
def tabV : List Value := tab.flatMap fun p => p.1.cells.toList ++ [.int .u16 (p.2 : Int)]
def hAt (k : Nat) : H := (tab.getD k (H.zero, 0)).1
def nAt (k : Nat) : Nat := (tab.getD k (H.zero, 0)).2

theorem tab_ok : ∀ k, k < 12 → (hAt k).flags = nAt k ∧ nAt k < 65536 ∧ (hAt k).op < 16 ∧ (hAt k).code < 16 ∧ (hAt k).id = 0 := by
  intro k hk
  match k, hk with
  | 0, _ => decide
  | 1, _ => decide
  | 2, _ => decide
  | 3, _ => decide
  | 4, _ => decide
  | 5, _ => decide
  | 6, _ => decide
  | 7, _ => decide
  | 8, _ => decide
  | 9, _ => decide
  | 10, _ => decide
  | 11, _ => decide

theorem tab_of (k : Nat) (hk : k < 12) : H.of 0 (nAt k) = hAt k := by
  obtain ⟨h1, _, h3, h4, h5⟩ := tab_ok k hk
  rw [← h1, of_flags _ 0 h3 h4, ← h5]

theorem tab_cell (k : Nat) (hk : k < 12) (j : Nat) (hj : j < 12) : tabV[12 * k + j]? = ((hAt k).cells.toList ++ [.int .u16 (nAt k : Int)])[j]? := by
  match k, hk with
  | 0, _ => match j, hj with | 0, _ => rfl | 1, _ => rfl | 2, _ => rfl | 3, _ => rfl | 4, _ => rfl | 5, _ => rfl | 6, _ => rfl | 7, _ => rfl | 8, _ => rfl | 9, _ => rfl | 10, _ => rfl | 11, _ => rfl
  | 1, _ => match j, hj with | 0, _ => rfl | 1, _ => rfl | 2, _ => rfl | 3, _ => rfl | 4, _ => rfl | 5, _ => rfl | 6, _ => rfl | 7, _ => rfl | 8, _ => rfl | 9, _ => rfl | 10, _ => rfl | 11, _ => rfl
  | 2, _ => match j, hj with | 0, _ => rfl | 1, _ => rfl | 2, _ => rfl | 3, _ => rfl | 4, _ => rfl | 5, _ => rfl | 6, _ => rfl | 7, _ => rfl | 8, _ => rfl | 9, _ => rfl | 10, _ => rfl | 11, _ => rfl
  | 3, _ => match j, hj with | 0, _ => rfl | 1, _ => rfl | 2, _ => rfl | 3, _ => rfl | 4, _ => rfl | 5, _ => rfl | 6, _ => rfl | 7, _ => rfl | 8, _ => rfl | 9, _ => rfl | 10, _ => rfl | 11, _ => rfl
  | 4, _ => match j, hj with | 0, _ => rfl | 1, _ => rfl | 2, _ => rfl | 3, _ => rfl | 4, _ => rfl | 5, _ => rfl | 6, _ => rfl | 7, _ => rfl | 8, _ => rfl | 9, _ => rfl | 10, _ => rfl | 11, _ => rfl
  | 5, _ => match j, hj with | 0, _ => rfl | 1, _ => rfl | 2, _ => rfl | 3, _ => rfl | 4, _ => rfl | 5, _ => rfl | 6, _ => rfl | 7, _ => rfl | 8, _ => rfl | 9, _ => rfl | 10, _ => rfl | 11, _ => rfl
  | 6, _ => match j, hj with | 0, _ => rfl | 1, _ => rfl | 2, _ => rfl | 3, _ => rfl | 4, _ => rfl | 5, _ => rfl | 6, _ => rfl | 7, _ => rfl | 8, _ => rfl | 9, _ => rfl | 10, _ => rfl | 11, _ => rfl
  | 7, _ => match j, hj with | 0, _ => rfl | 1, _ => rfl | 2, _ => rfl | 3, _ => rfl | 4, _ => rfl | 5, _ => rfl | 6, _ => rfl | 7, _ => rfl | 8, _ => rfl | 9, _ => rfl | 10, _ => rfl | 11, _ => rfl
  | 8, _ => match j, hj with | 0, _ => rfl | 1, _ => rfl | 2, _ => rfl | 3, _ => rfl | 4, _ => rfl | 5, _ => rfl | 6, _ => rfl | 7, _ => rfl | 8, _ => rfl | 9, _ => rfl | 10, _ => rfl | 11, _ => rfl
  | 9, _ => match j, hj with | 0, _ => rfl | 1, _ => rfl | 2, _ => rfl | 3, _ => rfl | 4, _ => rfl | 5, _ => rfl | 6, _ => rfl | 7, _ => rfl | 8, _ => rfl | 9, _ => rfl | 10, _ => rfl | 11, _ => rfl
  | 10, _ => match j, hj with | 0, _ => rfl | 1, _ => rfl | 2, _ => rfl | 3, _ => rfl | 4, _ => rfl | 5, _ => rfl | 6, _ => rfl | 7, _ => rfl | 8, _ => rfl | 9, _ => rfl | 10, _ => rfl | 11, _ => rfl
  | 11, _ => match j, hj with | 0, _ => rfl | 1, _ => rfl | 2, _ => rfl | 3, _ => rfl | 4, _ => rfl | 5, _ => rfl | 6, _ => rfl | 7, _ => rfl | 8, _ => rfl | 9, _ => rfl | 10, _ => rfl | 11, _ => rfl

set_option maxRecDepth 100000 in
set_option maxHeartbeats 8000000 in
theorem names_any (w : World) (hb : Bits w) : Calls Tryd.prog 7 #[] w fun e w' => e = .returned (.bool true) ∧ Chg Nob w w' := by
  have HB := Lib.hid hb
  clear hb
  go_enter Tryd.func7, Tryd.ntmps7
  go_wp2_with fail
  refine (awake_any w HB.out).mono ?_
  rintro e w0 ⟨rfl, hC0⟩
  go_wp2_with fail
  go_loopw [48] (fun i wx => ∃ k : Nat, k ≤ 12 ∧ i = .int .i64 (k : Int) ∧ Chg Nob w wx ∧ wx.heap[w0.heap.size]? = some (.cells tabV.toArray 43 (0, 0))) (fun i _ => 12 - (intOf i).toNat)
  case atStart => exact ⟨0, by omega, rfl, hC0.alloc _, (alloc_new w0 _).trans (by kernel_rfl)⟩
  case round =>
    obtain ⟨k, hk, rfl, hC, hblk⟩ := hrel
    by_cases hk12 : k < 12
    · have k1 : (k : Int) < 12 := by omega
      have k0 : (0 : Int) ≤ (k : Int) := by omega
      have hc : ∀ j, j < 12 → wr.cell? ⟨w0.heap.size, 12 * k + j, none⟩ = ((hAt k).cells.toList ++ [.int .u16 (nAt k : Int)])[j]? := fun j hj => by
        rw [cell_blk hblk, List.getElem?_toArray]
        exact tab_cell k hk12 j hj
      obtain ⟨t1, t2, t3, t4, t5⟩ := tab_ok k hk12
      have tof := tab_of k hk12
      have q1 := neH (hAt k)
      generalize hAt k = h at *
      generalize nAt k = n at *
      have e0 := hc 0 (by omega)
      have e1 := hc 1 (by omega)
      have e2 := hc 2 (by omega)
      have e3 := hc 3 (by omega)
      have e4 := hc 4 (by omega)
      have e5 := hc 5 (by omega)
      have e6 := hc 6 (by omega)
      have e7 := hc 7 (by omega)
      have e8 := hc 8 (by omega)
      have e9 := hc 9 (by omega)
      have e10 := hc 10 (by omega)
      have e11 := hc 11 (by omega)
      have HB1 := Lib.hid (HB.out.nob hC)
      have HF := Lib.hid (fun W (hb : Bits W) => flags_ok W h hb t3 t4)
      have HG := Lib.hid (fun W (hb : Bits W) => from_any W n t2 hb)
      have HW := Lib.hid (fun W (hb : Bits W) => write_ok W h 0 65535 256 1 hb t3 t4 (by rw [t5]; decide))
      rw [tof] at HG
      rw [t1] at HF HW
      obtain ⟨t, ht⟩ : ∃ t : ByteArray, t = ⟨(two 0 ++ two n ++ two 0 ++ two 65535 ++ two 256 ++ two 1).toArray⟩ := ⟨_, rfl⟩
      have hwr : Hd.wr [((0 : Nat) : Int), ((65535 : Nat) : Int), ((256 : Nat) : Int), ((1 : Nat) : Int)] (two 0 ++ two n) = (t, 0) := by
        rw [wr_ok (by omega), wr_ok (by omega), wr_ok (by omega), wr_ok (by omega), ht]
        rfl
      rw [show ((0 : Nat) : Int) = 0 from rfl, show ((65535 : Nat) : Int) = 65535 from rfl, show ((256 : Nat) : Int) = 256 from rfl, show ((1 : Nat) : Int) = 1 from rfl] at hwr
      rw [t5, hwr] at HW
      have HT := Lib.hid ht
      clear hwr ht
      have HBL := Lib.hid hblk
      clear hc t1 t3 t4 tof hblk hk
      obtain ⟨id, qr, op, aa, tc, rd, ra, z', ad, cd, code⟩ := h
      dsimp only at t5
      subst t5
      unfold H.cells at *
      simp only [List.cons_append, List.nil_append, List.getElem?_cons_zero, List.getElem?_cons_succ, Nat.mul_comm 12 k, Nat.add_zero] at e0 e1 e2 e3 e4 e5 e6 e7 e8 e9 e10 e11
      dsimp only at *
      rw [show ((0 : Nat) : Int) = 0 from rfl] at e0 HF HG HW q1
      go_wp2_with fail
      refine (HF.out _ (HB1.out.nob ((Chg.refl Nob wr).alloc _))).mono ?_
      rintro e w2 ⟨rfl, hC2⟩
      have r2 := hC2.heap (alloc_new wr _) (fun h => h)
      have hD2 := (hC.alloc _).trans hC2
      have hE2 := ((Chg.refl Nob wr).alloc _).trans hC2
      clear hC2 e0 e1 e2 e3 e4 e5 e6 e7 e8 e9 e10 e11
      have c1 := fun i => cell_blk r2 i
      have l1 := lt_of_block r2
      go_wp2_with fail
      clear c1 l1
      refine (HW.out _ (HB.out.nob hD2)).mono ?_
      rintro e w3 ⟨rfl, hC3⟩
      have r1 := hC3.heap r2 (fun h => h)
      have hD3 := hD2.trans hC3
      have hE3 := hE2.trans hC3
      clear hC3 hD2
      have n0 : (0 : Int) ≤ (n : Int) := by omega
      have n1 : (n : Int) ≤ 65535 := by omega
      have n2 : (n : Int) / 256 ≤ 255 := by omega
      have n3 : (0 : Int) ≤ (n : Int) / 256 := by omega
      have hcv : ∀ W : World, (convert 49 9 (.slice (some ⟨W.heap.size, 0, none⟩) 12 12)).run Tryd.prog (W.alloc (.cells #[.int .u8 0, .int .u8 0, .int .u8 (IntKind.u8.wrap ((n : Int) / 256)), .int .u8 (IntKind.u8.wrap (n : Int)), .int .u8 0, .int .u8 0, .int .u8 255, .int .u8 255, .int .u8 1, .int .u8 0, .int .u8 0, .int .u8 1] 5)) = .ok (.string t) (W.alloc (.cells #[.int .u8 0, .int .u8 0, .int .u8 (IntKind.u8.wrap ((n : Int) / 256)), .int .u8 (IntKind.u8.wrap (n : Int)), .int .u8 0, .int .u8 0, .int .u8 255, .int .u8 255, .int .u8 1, .int .u8 0, .int .u8 0, .int .u8 1] 5)) := by
        intro W
        have e1 := u8_of (n / 256)
        have e2 := u8_of n
        have e3 : ((n / 256 : Nat) : Int) % 256 = (n : Int) / 256 := by omega
        have hcs : (#[.int .u8 0, .int .u8 0, .int .u8 (IntKind.u8.wrap ((n : Int) / 256)), .int .u8 (IntKind.u8.wrap (n : Int)), .int .u8 0, .int .u8 0, .int .u8 255, .int .u8 255, .int .u8 1, .int .u8 0, .int .u8 0, .int .u8 1] : Array Value) = (bytesV (two 0 ++ two n ++ two 0 ++ two 65535 ++ two 256 ++ two 1)).toArray := by
          rw [IntKind.wrap_u8, IntKind.wrap_u8, show (n : Int) / 256 % 256 = (n : Int) / 256 by omega]
          simp only [two, bytesV, List.map_append, List.map_cons, List.map_nil, e1, e2, e3]
          rfl
        rw [HT.out]
        exact conv_bytes (bytes_lit (alloc_new W _) hcs 12 (Nat.le_refl _))
      have c1 := fun i => cell_blk r1 i
      go_upto_region 8 with fail
      go_region_held_law (fun w' => Chg Nob w3 w' ∧ (∀ i, w'.cell? ⟨wr.heap.size, i, none⟩ = (#[.int .u16 0, .bool qr, .int .u8 (op : Int), .bool aa, .bool tc, .bool rd, .bool ra, .bool z', .bool ad, .bool cd, .int .u8 (code : Int), .int .u16 (n : Int)] : Array Value)[i]?))
        (first | exact ⟨(Chg.refl Nob w3).drew, c1⟩ | (have hD := (‹Chg Nob w3 _ ∧ _›).1.trans hC; exact ⟨hD, fun i => cell_blk (hD.heap r1 (fun h => h)) i⟩) | (have hD := (‹Chg Nob w3 _ ∧ _›).1.alloc (.cells #[.int .u8 0, .int .u8 0, .int .u8 (IntKind.u8.wrap ((n : Int) / 256)), .int .u8 (IntKind.u8.wrap (n : Int)), .int .u8 0, .int .u8 0, .int .u8 255, .int .u8 255, .int .u8 1, .int .u8 0, .int .u8 0, .int .u8 1] 5); exact ⟨hD, fun i => cell_blk (hD.heap r1 (fun h => h)) i⟩) | go_keep)
        (first | (go_at_call_of 19 (Value.int IntKind.u16 (n : Int)); refine (HG.out _ (HB.out.nob (hD3.trans (‹Chg Nob w3 _ ∧ _›).1))).mono ?_; rintro e w' ⟨rfl, hC⟩))
      have hH := (‹Chg Nob w3 _ ∧ _›).1
      have hD4 := hD3.trans hH
      have hblk4 := (hE3.trans hH).heap HBL.out (fun h => h)
      clear hH hD3 hE2 hE3 hcv c1 r1 r2
      generalize World.alloc _ _ = W4 at *
      go_wp2_with fail
      exact ⟨⟨k + 1, by omega, rfl, hD4, hblk4⟩, by simp [intOf]; omega⟩
    · obtain rfl : k = 12 := by omega
      have hFn := Lib.hid (fun W => flags_no W { H.zero with op := 16 } (by decide))
      have hFc := Lib.hid (fun W => flags_no W { H.zero with code := 16 } (by decide))
      have hWa := Lib.hid (fun W => write_no W { H.zero with code := 255 } 0 0 0 0 (by decide))
      have hWb := Lib.hid (fun W (hb : Bits W) => write_ok W H.zero 0 0 0 65536 hb (by decide) (by decide) (by decide))
      have hWc := Lib.hid (fun W (hb : Bits W) => write_ok W H.zero (-1) 0 0 0 hb (by decide) (by decide) (by decide))
      have hRd := Lib.hid (fun W => read_short ⟨#[]⟩ W (by decide))
      rw [wr_bad ⟨65536, by simp, by omega⟩] at hWb
      rw [wr_bad ⟨-1, by simp, by omega⟩] at hWc
      have q2 := eqH H.zero
      have q3 := eqC 0 0 0 0
      unfold H.zero H.cells at *
      dsimp only at *
      rw [show ((0 : Nat) : Int) = 0 from rfl] at hFn hFc hWa hWb hWc hRd q2
      rw [show ((16 : Nat) : Int) = 16 from rfl] at hFn hFc
      rw [show ((255 : Nat) : Int) = 255 from rfl] at hWa
      clear hblk
      go_wp2_with fail
      refine (hFn.out _).mono ?_
      rintro e w1 ⟨rfl, h1⟩
      have hC := hC.trans h1
      clear h1
      go_wp2_with fail
      refine (hFc.out _).mono ?_
      rintro e w2 ⟨rfl, h2⟩
      have hC := hC.trans h2
      clear h2
      go_wp2_with fail
      refine (hWa.out _).mono ?_
      rintro e w3 ⟨rfl, h3⟩
      have hC := hC.trans h3
      clear h3
      go_wp2_with fail
      refine (hWb.out _ (HB.out.nob hC)).mono ?_
      rintro e w4 ⟨rfl, h4⟩
      have hC := hC.trans h4
      clear h4
      go_wp2_with fail
      refine (hWc.out _ (HB.out.nob hC)).mono ?_
      rintro e w5 ⟨rfl, h5⟩
      have hC := hC.trans h5
      clear h5
      go_wp2_with fail
      refine (hRd.out _).mono ?_
      rintro e w6 ⟨rfl, h6⟩
      have hC := hC.trans h6
      clear h6
      go_wp2_with fail
      go_ret
      exact ⟨rfl, (hC.alloc _).alloc _⟩
end Go.Proofs.YtgfgmaiddmohaaaDoor.Hd
