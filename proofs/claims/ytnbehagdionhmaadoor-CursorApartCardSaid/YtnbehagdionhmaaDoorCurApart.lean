/- CursorApart, walked. -/
import Derived.Test.YtnbehagdionhmaaDoorCurParts
import Derived.Test.YtnbehagdionhmaaDoorCurBackP
import Derived.Lib.BufferWrite
import Derived.Lib.SlBuf
import Derived.Deep.WholeRow
namespace Go.Proofs.YtnbehagdionhmaaDoor.Cur
open Go.RowKit Go.Proofs.YtnbehagdionhmaaDoor.Put

theorem make_bytes (n c : Nat) (hnc : n ≤ c) (hc : c ≤ 1000000) (w : World) :
    (Instr.makeSlice 39 (.int .i64 (n : Int)) (.int .i64 (c : Int))).run Tryd.prog w = .ok (.slice (some ⟨w.heap.size, 0, none⟩) n c) (w.alloc (.cells (madeCells #[.int .u8 0] c) 5)) := by
  obtain ⟨i0, hi, hz0, hz1, hz2⟩ := info_parts infoU8
  have hr := run_make (P := Tryd.prog) w 39 5 i0 _ Tryd.underlying39 hi hz0 .i64 .i64 (n : Int) (c : Int) (by omega) (by omega) (by rw [hz2]; omega) (by omega)
  simp only [Int.toNat_natCast, hz1, Nat.mul_one] at hr
  exact hr

theorem bytes_blk {w : World} {g : Nat} {l : List UInt8} {cs : Array Value} (h : w.heap[g]? = some (.cells cs 5 (0, 0))) (e : cs.toList.take l.length = bytesV l) (c : Nat) (hc : l.length ≤ c) : BytesAt w (.slice (some ⟨g, 0, none⟩) l.length c) l := by
  refine ⟨_, c, rfl, hc, .inr ⟨g, 0, rfl, lt_of_block h, fun i x hx => ?_⟩⟩
  rw [Nat.zero_add, cell_blk h]
  have h1 : (bytesV l)[i]? = some (.int .u8 (x.toNat : Int)) := by rw [bytesV_get, hx]; rfl
  rw [← e, List.getElem?_take] at h1
  split at h1
  · simpa using h1
  · cases h1

/-- copy(b, s), b just made. -/
theorem copy_made (w : World) (s : ByteArray) (c : Nat) (hc : s.size ≤ c) (ty : TypeId) : ∃ w' : World, (Builtin.copy_ #[39, 9] ty #[.slice (some ⟨w.heap.size, 0, none⟩) s.size c, .string s]).run Tryd.prog (w.alloc (.cells (madeCells #[.int .u8 0] c) 5)) = .ok (goInt s.size) w' ∧
    BytesAt w' (.slice (some ⟨w.heap.size, 0, none⟩) s.size c) s.data.toList ∧ Chg Nob w w' ∧ w.heap.size < w'.heap.size := by
  have hsz : (madeCells #[Value.int .u8 0] c).size = c := size_madeCells _ _
  have hb : w.heap.size < (w.alloc (.cells (madeCells #[.int .u8 0] c) 5)).heap.size := by simp
  obtain ⟨i0, hi, hz0, hz1, hz2⟩ := info_parts infoU8
  have hr := Lib.run_copy_row_string (P := Tryd.prog) (w.alloc (.cells (madeCells #[.int .u8 0] c) 5)) 39 9 ty 5 w.heap.size 0 s.size c s _ _ Tryd.underlying39 (by rw [hi]; simp [hz1]) (alloc_new w _) (Nat.le_refl _) (by rw [hsz]; omega)
  rw [World.setRow_alloc_new] at hr
  refine ⟨_, hr, ?_, (Chg.refl Nob w).alloc _, by simp⟩
  have h1 : s.size = s.data.toList.length := by simp
  rw [h1]
  refine bytes_blk (alloc_new w _) ?_ c (by omega)
  simp [Lib.byteCells, bytesV]

theorem BytesAt.pre {w : World} {a : Option Addr} {c n : Nat} {l m : List UInt8} (h : BytesAt w (.slice a n c) (l ++ m)) : BytesAt w (.slice a l.length c) l := by
  obtain ⟨a', c', e, hl, h⟩ := h
  injection e with e1 e2 e3
  subst e1; subst e3
  rw [List.length_append] at hl
  refine ⟨_, _, rfl, by omega, ?_⟩
  rcases h with h | ⟨b, off, rfl, hb, h⟩
  · exact .inl (List.append_eq_nil_iff.1 h).1
  · refine .inr ⟨b, off, rfl, hb, fun i x hx => h i x ?_⟩
    rw [List.getElem?_append_left (by
      have := (List.getElem?_eq_some_iff.1 hx).1
      exact this)]
    exact hx

theorem BytesAt.first {w : World} {g c n : Nat} {s : ByteArray} {m : List UInt8} (h : BytesAt w (.slice (some ⟨g, 0, none⟩) n c) (s.data.toList ++ m)) (hs : 0 < s.size) : w.cell? ⟨g, 0, none⟩ = some (.int .u8 (byteAt s 0 : Int)) := by
  have hl : 0 < s.data.toList.length := by simpa using hs
  obtain ⟨a', c', e, _, h⟩ := h
  rcases h with h | ⟨b, off, e2, _, h⟩
  · rw [(List.append_eq_nil_iff.1 h).1] at hl
    simp at hl
  · injection e with e1 _ _
    rw [← e1] at e2
    injection e2 with e3
    injection e3 with e4 e5
    subst e4; subst e5
    have h0 := h 0 (s.data.toList[0]) (by rw [List.getElem?_append_left hl]; exact List.getElem?_eq_getElem hl)
    rw [show byteAt s 0 = (s.data.toList[0]).toNat by unfold byteAt; rw [List.getD, List.getElem?_eq_getElem hl]; rfl]
    exact h0

theorem own_open {w : World} {base : Nat} {v : Value} {l : List UInt8} (h : w.ownsRow base 5 1 v l.length (bytesV l)) (hl : 0 < l.length) :
    ∃ g cap cur, v = .slice (some ⟨g, 0, none⟩) l.length cap ∧ base ≤ g ∧ g < w.heap.size ∧ w.heap[g]? = some (.cells cur 5 (0, 0)) ∧ l.length ≤ cap ∧ cur.size = cap ∧ BytesAt w v l := by
  have hB := BytesAt.of_own h
  rcases h.2 with ⟨_, h2⟩ | ⟨g, cap, cur, rfl, hb, hg, hcap, _, hsz, _⟩
  · omega
  · exact ⟨g, cap, cur, rfl, hb, lt_of_block hg, hg, hcap, by simpa using hsz, hB⟩

set_option maxRecDepth 100000 in
set_option maxHeartbeats 8000000 in
theorem apart_any (s : ByteArray) (room : Int) (x y : Nat) (w : World) (hx : x < 4294967296) (hy : y < 4294967296) (hg : As.Laid w) (hm : s.size ≤ 9223372036854775807) :
    Calls Tryd.prog 5 #[.string s, .int .i64 room, .int .u32 (x : Int), .int .u32 (y : Int)] w fun e w' => e = .returned (.bool true) ∧ Chg Nob w w' := by
  have HG := Lib.hid hg
  clear hg
  by_cases hbig : s.size ≤ 10000
  · have d1 : ¬ (10000 : Int) < (s.size : Int) := by omega
    have d2 : (s.size : Int) ≤ 10000 := by omega
    obtain ⟨p, hp, hps⟩ := rem_nat room 20 (by omega) (by omega)
    rw [show (((20 : Nat)) : Int) = 20 from rfl] at hp
    have p0 : (0 : Int) ≤ (p : Int) := by omega
    have p1 : (p : Int) < 20 := by omega
    have p2 : (0 : Int) ≤ (s.size : Int) := by omega
    go_enter Tryd.func5, Tryd.ntmps5
    go_wp2_with fail
    refine (awake_any w HG.out).mono ?_
    rintro e w0 ⟨rfl, hC0⟩
    have hmk := make_bytes s.size (s.size + p) (by omega) (by omega)
    rw [Int.natCast_add] at hmk
    obtain ⟨w1, hcp, hB1, hC1, hg0⟩ := copy_made w0 s (s.size + p) (by omega) 3
    have hD1 := hC0.trans hC1
    have hww := hD1.size
    clear hC0
    go_wp2_with (with_reducible refine Lib.wpList_copy_run _ rfl _ _ _ _ rfl _ _ rfl rfl hcp ?_)
    have hln : s.data.toList.length = s.size := by simp
    have HLN := Lib.hid hln
    have HB1 := Lib.hid hB1
    clear hcp hB1 hC1 hp hmk
    -- p
    refine (put4_any _ s.data.toList x w1 hx HB1.out (by omega)).mono ?_
    rintro e w2 ⟨vp, rfl, hown, hC2⟩
    obtain ⟨gp, cp, up, rfl, hgp1, hgp2, hgp3, hgp4, hgp5, hBp⟩ := own_open hown (by simp [four])
    have hlp : (s.data.toList ++ four x).length = s.size + 4 := by simp [four]
    rw [hlp] at hgp4
    rw [hlp]
    have hB2 := HB1.out.nob hC2
    have hD2 := hD1.trans hC2
    have HBp := Lib.hid hBp
    have HP3 := Lib.hid hgp3
    clear hown hC2 hBp hlp hD1 hgp3
    go_wp2_with fail
    -- q
    refine (put4_any _ s.data.toList y w2 hy hB2 (by omega)).mono ?_
    rintro e w3 ⟨vq, rfl, hown, hC3⟩
    obtain ⟨gq, cq, uq, rfl, hgq1, hgq2, hgq3, hgq4, hgq5, hBq⟩ := own_open hown (by simp [four])
    have hlq : (s.data.toList ++ four y).length = s.size + 4 := by simp [four]
    rw [hlq] at hgq4
    rw [hlq]
    have hB3 := hB2.nob hC3
    have hD3 := hD2.trans hC3
    have HBq := Lib.hid hBq
    have HP3 := Lib.hid (hC3.heap HP3.out (fun h => h))
    clear hown hC3 hBq hlq hD2 hgq3 hB2
    go_wp2_with fail
    -- u
    refine (put1_any _ s.data.toList 7 w3 (by omega) hB3 (by omega)).mono ?_
    rintro e w4 ⟨vu, rfl, hown, hC4⟩
    obtain ⟨gu, cu, uu, rfl, hgu1, hgu2, hgu3, hgu4, hgu5, hBu⟩ := own_open hown (by simp [one])
    have hlu : (s.data.toList ++ one 7).length = s.size + 1 := by simp [one]
    rw [hlu] at hgu4
    rw [hlu]
    have hB4 := hB3.nob hC4
    have hD4 := hD3.trans hC4
    have HBq := Lib.hid (HBq.out.nob hC4)
    have HP3 := Lib.hid (hC4.heap HP3.out (fun h => h))
    have HU3 := Lib.hid hgu3
    clear hown hC4 hBu hlu hD3 hgu3 hB3
    go_wp2_with fail
    -- v
    refine (put2_any _ s.data.toList 9 w4 (by omega) hB4 (by omega)).mono ?_
    rintro e w5 ⟨vv, rfl, hown, hC5⟩
    obtain ⟨gv, cv, uv, rfl, hgv1, hgv2, hgv3, hgv4, hgv5, hBv⟩ := own_open hown (by simp [two])
    have hlv : (s.data.toList ++ two 9).length = s.size + 2 := by simp [two]
    rw [hlv] at hgv4
    rw [hlv]
    have hB5 := hB4.nob hC5
    have hD5 := hD4.trans hC5
    have HBq := Lib.hid (HBq.out.nob hC5)
    have HP3 := Lib.hid (hC5.heap HP3.out (fun h => h))
    have HU3 := Lib.hid (hC5.heap HU3.out (fun h => h))
    have HBv := Lib.hid hBv
    have HB5 := Lib.hid hB5
    clear hown hC5 hBv hlv hD4 hgv3 hB4 hB5
    have hcq := conv_bytes HBq.out
    rw [show (s.data.toList ++ four y).length = s.size + 4 by simp [four]] at hcq
    go_wp2_with fail
    go_loopw [15] (fun v wx => ∃ i : Nat, i ≤ s.size + 4 ∧ v = .int .i64 (i : Int) ∧ (∃ cur : Array Value, cur.size = cp ∧ wx.heap[gp]? = some (.cells cur 5 (0, 0))) ∧ Chg (Only gp) w5 wx) (fun v _ => s.size + 4 - (intOf v).toNat)
    case atStart => exact ⟨0, by omega, rfl, ⟨up, hgp5, HP3.out⟩, Chg.refl _ _⟩
    case round =>
      obtain ⟨i, hi, rfl, ⟨cur, hcs, hblk⟩, hC⟩ := hrel
      have i0 : (0 : Int) ≤ (i : Int) := by omega
      by_cases hin : i < s.size + 4
      · have hin1 : (i : Int) < (s.size : Int) + 4 := by omega
        have hcell : wr.cell? ⟨gp, i, none⟩ = some (cur[i]'(by omega)) := by
          rw [cell_blk hblk]
          exact Array.getElem?_eq_getElem (by omega)
        have hfz := frozen_blk hblk i
        have HBLK := Lib.hid hblk
        clear hblk hcq
        go_wp2_with fail
        exact ⟨⟨i + 1, by omega, rfl, ⟨_, by simp [hcs], set_blk HBLK.out i _⟩, hC.setCell (p := ⟨gp, i, none⟩) (.inl rfl) _⟩, by simp [intOf]; omega⟩
      · obtain rfl : i = s.size + 4 := by omega
        have hu3 := hC.heap HU3.out (fun e => by have e2 : gu = gp := e; omega)
        have hcu : wr.cell? ⟨gu, s.size, none⟩ = some (uu[s.size]'(by omega)) := by
          rw [cell_blk hu3]
          exact Array.getElem?_eq_getElem (by omega)
        have hfu := frozen_blk hu3 s.size
        have hC7 : Chg (fun k => k = gp ∨ k = gu) w5 (wr.setCell ⟨gu, s.size, none⟩ (.int .u8 98)) := (hC.mono (fun k _ h => .inl h)).setCell (p := ⟨gu, s.size, none⟩) (.inl (.inr rfl)) _
        have hC7n := fun m => hC7.drewN m
        have ob := fun m => HB5.out.chg (hC7n m) (fun k hk hT => by
          have hk2 : w0.heap.size = k := by simpa [Value.ownBlock] using hk
          omega)
        have hq7 := fun m => HBq.out.chg (hC7n m) (fun k hk hT => by
          have hk2 : gq = k := by simpa [Value.ownBlock] using hk
          omega)
        have ov := fun m => BytesAt.pre (HBv.out.chg (hC7n m) (fun k hk hT => by
          have hk2 : gv = k := by simpa [Value.ownBlock] using hk
          omega))
        have hcb := fun m => conv_bytes (ob m)
        have hcq := fun m => conv_bytes (hq7 m)
        have hcv := fun m => conv_bytes (ov m)
        have hlq : (s.data.toList ++ four y).length = s.size + 4 := by simp [four]
        rw [hlq] at hcq
        rw [hln] at hcv
        have hsb : (⟨s.data.toList.toArray⟩ : ByteArray) = s := by simp
        rw [hsb] at hcb hcv
        by_cases hs0 : s.size = 0
        · have hs1 : ((s.size : Int) == 0) = true := by rw [beq_iff_eq]; omega
          clear hu3 hq7 hsb hs0 ob ov hlq hC7n
          go_wp2_with fail
          go_quiet (fail)
          go_wp2_with fail
          go_ret
          exact ⟨rfl, hD5.trans' (hC7.drewN nq) (fun i hi => .inr (by rcases hi with hi | hi <;> omega))⟩
        · have hq0 := BytesAt.first (HBq.out.chg hC (fun k hk hT => by
            have hk2 : gq = k := by simpa [Value.ownBlock] using hk
            have hk3 : k = gp := hT
            omega)) (by omega)
          have hb0 : s[0].toNat = byteAt s 0 := by
            unfold byteAt
            rw [List.getD, List.getElem?_eq_getElem (by simp; omega)]
            rfl
          generalize byteAt s 0 = z at *
          have hs1 : ((s.size : Int) == 0) = false := by rw [beq_eq_false_iff_ne]; omega
          have hs2 : (0 : Int) < (s.size : Int) := by omega
          clear hu3 hq7 hsb ob ov hC7n
          go_wp2_with fail
          go_quiet (fail)
          go_wp2_with fail
          go_ret
          exact ⟨rfl, hD5.trans' (hC7.drewN nq) (fun i hi => .inr (by rcases hi with hi | hi <;> omega))⟩
  · have d1 : (10000 : Int) < (s.size : Int) := by omega
    go_enter Tryd.func5, Tryd.ntmps5
    go_wp2_with fail
    refine (awake_any w HG.out).mono ?_
    rintro e w0 ⟨rfl, hC0⟩
    go_wp2_with fail
    go_ret
    exact ⟨rfl, hC0⟩
end Go.Proofs.YtnbehagdionhmaaDoor.Cur
