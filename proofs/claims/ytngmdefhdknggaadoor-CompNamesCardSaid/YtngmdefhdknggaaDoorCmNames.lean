/- CompNames, walked. -/
import Derived.Test.YtngmdefhdknggaaDoorCmNmP
namespace Go.Proofs.YtngmdefhdknggaaDoor.Cm
open Go.RowKit Go.Proofs.YtngmdefhdknggaaDoor.Cur Go.Proofs.YtngmdefhdknggaaDoor.Put Go.Proofs.YtngmdefhdknggaaDoor.Nm

theorem at_some (w : World) (b N : Nat) (t : Tbl) (s : ByteArray) (a : Nat) (hs : s.size ≤ 9223372036854775807) (hT : TblAt w b N t) (h : t s.data.toList = some a) :
    Calls Tryd.prog 19 #[.pointer (some ⟨b, 0, none⟩), .string s] w fun e w' => e = .returned (.tuple #[.int .i64 (a : Int), .bool true]) ∧ w = w' := by
  have := at_tbl w b N t s hs hT
  rwa [h] at this
theorem at_none (w : World) (b N : Nat) (t : Tbl) (s : ByteArray) (hs : s.size ≤ 9223372036854775807) (hT : TblAt w b N t) (h : t s.data.toList = none) :
    Calls Tryd.prog 19 #[.pointer (some ⟨b, 0, none⟩), .string s] w fun e w' => e = .returned (.tuple #[.int .i64 0, .bool false]) ∧ w = w' := by
  have := at_tbl w b N t s hs hT
  rwa [h] at this
/-- What a table's Put answers, its table known. -/
theorem put_lit (w : World) (b N : Nat) (t : Tbl) (v : Value) (L : List UInt8) (s : ByteArray) (cm kn : Bool) (R : List UInt8) (t' : Tbl) (h : mayB s.data.toList = true) (hv : BytesAt w v L) (hT : TblAt w b N t) (hL : L.length ≤ 1000000000) (hN : N ≤ 1000000000000) (htl : TLow t) (hR : putTop cm kn s.data.toList L t = (R, t')) (hp : 0 < R.length) :
    Calls Tryd.prog 18 #[.pointer (some ⟨b, 0, none⟩), v, .string s, .bool cm, .bool kn] w fun e w' => ∃ g c, e = .returned (.tuple #[.slice (some ⟨g, 0, none⟩) R.length c, .int .i64 0]) ∧
      BytesAt w' (.slice (some ⟨g, 0, none⟩) R.length c) R ∧ TblAt w' b (N + 256) t' ∧ Chg (TblS w b) w w' ∧ TG w w' b := by
  have h2 := put_good w b N t v L s cm kn h hv hT hL hN htl
  rw [hR] at h2
  refine h2.mono ?_
  rintro e w' ⟨a, c, rfl, hown, hT', _, hC, hG⟩
  have hB := BytesAt.of_own hown
  rcases hown.2 with ⟨h3, _⟩ | ⟨g, cap, cur, h3, _⟩
  · injection h3 with h3 h4
    simp only at h4
    omega
  · injection h3 with h3 h4 h5
    subst h3
    exact ⟨g, c, rfl, hB, hT', hC, hG⟩

set_option maxRecDepth 100000 in
set_option maxHeartbeats 4000000 in
theorem names_any (w : World) (hg : As.Laid w) : Calls Tryd.prog 3 #[] w fun e w' => e = .returned (.bool true) ∧ Chg Nob w w' := by
  have HG := Lib.hid hg
  clear hg
  have HM7 := Lib.hid (fun W => (show Calls Tryd.prog 16 #[.int .i64 127] W fun e w' => e = .returned (.string (ba (pre 127 ++ [0]))) ∧ W = w' from many_any W 127 (by omega)))
  have HM8 := Lib.hid (fun W => (show Calls Tryd.prog 16 #[.int .i64 128] W fun e w' => e = .returned (.string (ba (pre 128 ++ [0]))) ∧ W = w' from many_any W 128 (by omega)))
  have HM6 := Lib.hid (fun W => (show Calls Tryd.prog 16 #[.int .i64 126] W fun e w' => e = .returned (.string (ba (pre 126 ++ [0]))) ∧ W = w' from many_any W 126 (by omega)))
  obtain ⟨m7, hm7⟩ : ∃ m, m = ba (pre 127 ++ [0]) := ⟨_, rfl⟩
  obtain ⟨m8, hm8⟩ : ∃ m, m = ba (pre 128 ++ [0]) := ⟨_, rfl⟩
  obtain ⟨m6, hm6⟩ : ∃ m, m = ba (pre 126 ++ [0]) := ⟨_, rfl⟩
  have s7 : m7.size = 255 := by rw [hm7, ba_size, List.length_append, pre_len]; rfl
  have s6 : m6.size = 253 := by rw [hm6, ba_size, List.length_append, pre_len]; rfl
  have e7 : ¬ 9223372036854775807 < m7.size + (⟨#[1, 98, 192, 0]⟩ : ByteArray).size := by rw [s7]; decide
  have e6 : ¬ 9223372036854775807 < m6.size + (⟨#[1, 98, 192, 0]⟩ : ByteArray).size := by rw [s6]; decide
  have e5 : ¬ 9223372036854775807 < (⟨#[1, 98]⟩ : ByteArray).size + m6.size := by rw [s6]; decide
  rw [← hm7] at HM7
  rw [← hm8] at HM8
  rw [← hm6] at HM6
  have H7 := Lib.hid hm7
  have H8 := Lib.hid hm8
  have H6 := Lib.hid hm6
  clear hm7 hm8 hm6 s7 s6
  go_enter Tryd.func3, Tryd.ntmps3
  go_wp2_with fail
  refine (awake_any w HG.out).mono ?_
  rintro r w1 ⟨rfl, hC1⟩
  go_wp2_with fail
  refine (HM7.out w1).mono ?_
  rintro r w2 ⟨rfl, rfl⟩
  go_wp2_with fail
  refine (HM7.out w1).mono ?_
  rintro r w2 ⟨rfl, rfl⟩
  go_wp2_with fail
  refine (HM8.out w1).mono ?_
  rintro r w2 ⟨rfl, rfl⟩
  go_wp2_with fail
  refine (HM6.out w1).mono ?_
  rintro r w2 ⟨rfl, rfl⟩
  go_wp2_with fail
  refine (HM6.out w1).mono ?_
  rintro r w2 ⟨rfl, rfl⟩
  go_wp2_with fail
  refine (HM7.out w1).mono ?_
  rintro r w2 ⟨rfl, rfl⟩
  go_wp2_with fail
  generalize hW2 : World.alloc w1 _ = W2
  have hb : W2.heap[w1.heap.size]? = some (.cells (exs.flatMap Ex.cells).toArray 24 (0, 0)) := by
    rw [← hW2, alloc_new, H7.out, H8.out, H6.out]
    kernel_rfl
  have hD2 : Chg Nob w W2 := by rw [← hW2]; exact hC1.alloc _
  clear hW2 H7 H8 H6 HM7 HM8 HM6 e7 e6 e5 hC1
  have hcell : ∀ (i : Nat) (r : Ex), exs[i]? = some r → ∀ j, j < 5 → W2.cell? ⟨w1.heap.size, i * 5 + j, none⟩ = r.cells[j]? := fun i r hr j hj => by
    rw [cell_blk hb, ← flat_get exs i r hr j hj]
    simp
  have HC := Lib.hid hcell
  generalize w1.heap.size = g at *
  have hlen20 : exs.length = 20 := rfl
  have HL := Lib.hid hlen20
  clear hb hcell hlen20
  go_loopw [68] (fun vi wx => ∃ i : Nat, i ≤ 20 ∧ vi = .int .i64 (i : Int) ∧ Chg Nob W2 wx) (fun vi _ => 20 - (intOf vi).toNat)
  case atStart => exact ⟨0, by omega, rfl, Chg.refl _ _⟩
  case round =>
    obtain ⟨i, hi, rfl, hC⟩ := hrel
    have i0 : (0 : Int) ≤ (i : Int) := by omega
    by_cases hin : i < 20
    · have hi1 : (i : Int) < 20 := by omega
      have hlt : i < exs.length := by rw [HL.out]; exact hin
      have hget := List.getElem?_eq_getElem hlt
      have hgood := ex_good (List.getElem_mem hlt)
      have q0 := hC.cell (HC.out i _ hget 0 (by omega)) (fun h => h)
      have q1 := hC.cell (HC.out i _ hget 1 (by omega)) (fun h => h)
      have q2 := hC.cell (HC.out i _ hget 2 (by omega)) (fun h => h)
      have q3 := hC.cell (HC.out i _ hget 3 (by omega)) (fun h => h)
      have q4 := hC.cell (HC.out i _ hget 4 (by omega)) (fun h => h)
      obtain ⟨r, hr⟩ : ∃ r, r = exs[i] := ⟨_, rfl⟩
      rw [← hr] at q0 q1 q2 q3 q4 hgood
      obtain ⟨hg1, hg2⟩ := hgood
      have HRD := Lib.hid (fun W hg => read_r W r.msg r.pos r.n r.next r.e (by omega) hg hg2)
      have q0 : wr.cell? ⟨g, i * 5, none⟩ = some (.string r.msg) := q0
      have q1 : wr.cell? ⟨g, i * 5 + 1, none⟩ = some (.int .i64 r.pos) := q1
      have q2 : wr.cell? ⟨g, i * 5 + 2, none⟩ = some (.string r.n) := q2
      have q3 : wr.cell? ⟨g, i * 5 + 3, none⟩ = some (.int .i64 (r.next : Int)) := q3
      have q4 : wr.cell? ⟨g, i * 5 + 4, none⟩ = some (.int .i64 (r.e : Int)) := q4
      clear hr hget hg2 hlt
      have hD3 := Lib.hid ((hD2.trans hC).alloc (.cells #[.string r.msg, .int .i64 r.pos, .string r.n, .int .i64 (r.next : Int), .int .i64 (r.e : Int)] 24))
      have hE3 := Lib.hid (hC.alloc (.cells #[.string r.msg, .int .i64 r.pos, .string r.n, .int .i64 (r.next : Int), .int .i64 (r.e : Int)] 24))
      have hb3 := alloc_new wr (.cells #[.string r.msg, .int .i64 r.pos, .string r.n, .int .i64 (r.next : Int), .int .i64 (r.e : Int)] 24)
      have HB3 := Lib.hid hb3
      clear hb3
      go_wp2_with fail
      refine (HRD.out _ (HG.out.nob hD3.out)).mono ?_
      rintro r1 w3 ⟨rfl, hC3⟩
      have c3 := fun i => cell_blk (hC3.heap HB3.out (fun h => h)) i
      have hE4 := hE3.out.trans hC3
      clear q0 q1 q2 q3 q4 hC3 hE3 hD3
      go_wp2_with fail
      exact ⟨⟨i + 1, by omega, by go_num, hE4⟩, by simp [intOf]; omega⟩
    · obtain rfl : i = 20 := by omega
      have hF := hD2.trans hC
      clear hi i0 hin HC HL hC hD2
      have hT1 : TblAt (wr.alloc (.cells #[.map none] 32)) wr.heap.size 0 (fun _ => none) := .inl ⟨alloc_new _ _, rfl⟩
      have hN1 := TNew.made (alloc_new wr (.cells #[.map none] 32))
      have hF1 := hF.alloc (.cells #[.map none] 32)
      obtain ⟨b, hbb⟩ : ∃ b, b = wr.heap.size := ⟨_, rfl⟩
      have hsz : (wr.alloc (.cells #[.map none] 32)).heap.size = b + 1 := by rw [World.size_alloc, hbb]
      have hws : w.heap.size ≤ wr.heap.size := hF.size
      have hN2 : TNew w (wr.alloc (.cells #[.map none] 32)) wr.heap.size := fun k hk => Nat.le_trans hws (hN1 k hk)
      rw [← hbb] at hT1 hN2
      obtain ⟨w4, hmk, _, hB4, hC4⟩ := make_bytes 16381 (wr.alloc (.cells #[.map none] 32)) (by omega) .i64 .i64
      rw [hsz] at hmk hB4
      have hmk : (Instr.makeSlice 33 (.int .i64 16381) (.int .i64 16381)).run Tryd.prog (wr.alloc (.cells #[.map none] 32)) = _ := hmk
      have hT4 := hT1.nob hC4
      have hN4 := hN2.nob hT1.lt hC4
      have hF4 := hF1.trans hC4
      have hs4 := hF4.size
      obtain ⟨L, hL⟩ : ∃ L : List UInt8, L = List.replicate 16381 0 := ⟨_, rfl⟩
      have hLl : L.length = 16381 := by rw [hL, List.length_replicate]
      rw [← hL] at hB4
      have hMl : (L ++ [1, 97, 1, 98, 0]).length = 16386 := by rw [List.length_append, hLl]; rfl
      have HP1 := Lib.hid (put_lit w4 b 0 _ _ L ⟨#[1, 97, 1, 98, 0]⟩ true true _ _ (by kernel_rfl) hB4 hT4 (by omega) (by omega) TLow.nil (end_a L hLl) (by omega))
      obtain ⟨M, hM⟩ : ∃ M, M = L ++ [1, 97, 1, 98, 0] := ⟨_, rfl⟩
      rw [← hM] at HP1 hMl
      rw [hMl] at HP1
      have HBB := Lib.hid hbb
      have HML := Lib.hid hMl
      have HP2 := Lib.hid (fun W N v hv hT hN => put_lit W b N tEnd v M ⟨#[1, 99, 0]⟩ true true _ _ (by kernel_rfl) hv hT (by have := HML.out; omega) hN tEnd_low (end_c M HML.out) (by simp))
      have HP3 := Lib.hid (fun W N v hv hT hN => put_lit W b N tEnd v M ⟨#[1, 98, 0]⟩ true true _ _ (by kernel_rfl) hv hT (by have := HML.out; omega) hN tEnd_low (end_b M) (by simp))
      have HP4 := Lib.hid (fun W N v hv hT hN => put_lit W b N tEnd v M ⟨#[1, 98, 0]⟩ false true _ _ (by kernel_rfl) hv hT (by have := HML.out; omega) hN tEnd_low (end_d M) (by simp))
      have HA1 := Lib.hid (fun W N hT => at_some W b N tEnd ⟨#[1, 97, 1, 98, 0]⟩ 16381 (by decide) hT tEnd_a)
      have HA2 := Lib.hid (fun W N hT => at_some W b N tEnd ⟨#[1, 98, 0]⟩ 16383 (by decide) hT tEnd_b)
      have HA3 := Lib.hid (fun W N hT => at_none W b N tEnd ⟨#[0]⟩ (by decide) hT tEnd_r)
      have HA4 := Lib.hid (fun W N hT => at_none W b N tEnd ⟨#[1, 99, 0]⟩ (by decide) hT tEnd_c)
      have HP5 := Lib.hid (fun W v => put_bad W b v ⟨#[1, 98]⟩ true true (by decide) (by kernel_rfl))
      clear hbb hsz hL hLl hM hMl hB4 hT1 hN1 hF hF1 hC4 hN2 hws
      go_wp2_with fail
      rw [← HBB.out]
      refine HP1.out.mono ?_
      rintro r1 w5 ⟨g5, c5, rfl, hB5, hT5, hC5, hG5⟩
      have hF5 := hF4.trans' hC5 (fun j hj => .inr (hN4 j hj))
      have hN5 := hN4.put hs4 hG5
      have hs5 := hF5.size
      have HB5 := Lib.hid hB5
      have HT5 := Lib.hid hT5
      clear hB5 hT5 hC5 hG5 hT4 hN4 hF4
      go_wp2_with fail
      refine (HA1.out w5 _ HT5.out).mono ?_
      rintro r1 w' ⟨rfl, rfl⟩
      go_wp2_with fail
      refine (HA2.out w5 _ HT5.out).mono ?_
      rintro r1 w' ⟨rfl, rfl⟩
      go_wp2_with fail
      refine (HA3.out w5 _ HT5.out).mono ?_
      rintro r1 w' ⟨rfl, rfl⟩
      go_wp2_with fail
      refine (HP2.out w5 _ _ HB5.out HT5.out (by omega)).mono ?_
      rintro r1 w6 ⟨g6, c6, rfl, _, hT6, hC6, hG6⟩
      have hF6 := hF5.trans' hC6 (fun j hj => .inr (hN5 j hj))
      have hN6 := hN5.put hs5 hG6
      have hs6 := hF6.size
      have HB6 := Lib.hid (bytes_tbl HB5.out HT5.out hC6)
      have HT6 := Lib.hid hT6
      clear hT6 hC6 hG6 hN5 hF5
      go_wp2_with fail
      refine (HA4.out w6 _ HT6.out).mono ?_
      rintro r1 w' ⟨rfl, rfl⟩
      go_wp2_with fail
      refine (HP3.out w6 _ _ HB6.out HT6.out (by omega)).mono ?_
      rintro r1 w7 ⟨g7, c7, rfl, hB7c, hT7, hC7, hG7⟩
      have hF7 := hF6.trans' hC7 (fun j hj => .inr (hN6 j hj))
      have hN7 := hN6.put hs6 hG7
      have hs7 := hF7.size
      have HB7 := Lib.hid (bytes_tbl HB6.out HT6.out hC7)
      have HB7c := Lib.hid hB7c
      have HT7 := Lib.hid hT7
      clear hT7 hC7 hG7 hN6 hF6 hB7c
      go_wp2_with fail
      refine (HP4.out w7 _ _ HB7.out HT7.out (by omega)).mono ?_
      rintro r1 w8 ⟨g8, c8, rfl, hB8d, hT8, hC8, hG8⟩
      have hF8 := hF7.trans' hC8 (fun j hj => .inr (hN7 j hj))
      have HB8c := Lib.hid (bytes_tbl HB7c.out HT7.out hC8)
      have HB8d := Lib.hid hB8d
      clear hT8 hC8 hG8 hN7 hF7 hB8d
      go_wp2_with fail
      refine (HP5.out w8 _).mono ?_
      rintro r1 w9 ⟨rfl, hC9⟩
      have hF9 := hF8.trans hC9
      obtain ⟨_, x1, hBc⟩ := bytes_drop (HB8c.out.nob hC9) (by simp)
      obtain ⟨_, x2, hBd⟩ := bytes_drop (HB8d.out.nob hC9) (by simp)
      rw [HML.out] at x1 x2 hBc hBd
      have hcc : (convert 33 9 (.slice (some ⟨g7, 16386, none⟩) 2 (c7 - 16386))).run Tryd.prog w9 = .ok (.string ⟨#[255, 255]⟩) w9 := by
        have h := conv_bytes hBc
        rw [Nat.zero_add] at h
        exact h
      have hcd : (convert 33 9 (.slice (some ⟨g8, 16386, none⟩) 3 (c8 - 16386))).run Tryd.prog w9 = .ok (.string ⟨#[1, 98, 0]⟩) w9 := by
        have h := conv_bytes hBd
        rw [Nat.zero_add] at h
        exact h
      rw [HML.out]
      clear hBc hBd hF8 hC9
      go_wp2_with fail
      refine (put_nobody w9 _ _ _ _).mono ?_
      rintro r1 w' ⟨rfl, rfl⟩
      go_wp2_with fail
      refine (at_nobody w9 _).mono ?_
      rintro r1 w' ⟨rfl, rfl⟩
      go_wp2_with fail
      go_ret
      exact ⟨rfl, hF9⟩
end Go.Proofs.YtngmdefhdknggaaDoor.Cm
