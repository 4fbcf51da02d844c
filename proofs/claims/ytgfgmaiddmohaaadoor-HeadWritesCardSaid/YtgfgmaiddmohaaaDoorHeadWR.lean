/- hustingsref03.two, bit, Flags, Write, walked. -/
import Derived.Test.YtgfgmaiddmohaaaDoorHeadW
import Derived.Test.YtgfgmaiddmohaaaDoorHeadRef
namespace Go.Proofs.YtgfgmaiddmohaaaDoor.Hd
open Go.RowKit Go.Proofs.YtgfgmaiddmohaaaDoor.Put

set_option maxRecDepth 100000 in
theorem rtwo_any (w : World) (n : Nat) (hn : n < 65536) :
    Calls Tryd.prog 41 #[.int .i64 (n : Int)] w fun e w' => e = .returned (.string ⟨(two n).toArray⟩) ∧ Chg Nob w w' := by
  have k0 : (0 : Int) ≤ (n : Int) := by omega
  have k1 : (n : Int) ≤ 65535 := by omega
  have k2 : (n : Int) / 256 ≤ 255 := by omega
  have k3 : (0 : Int) ≤ (n : Int) / 256 := by omega
  have hcs : (#[.int .u8 ((n : Int) / 256), .int .u8 ((n : Int) % 256)] : Array Value) = (bytesV (two n)).toArray := by
    have e1 := u8_of (n / 256)
    have e2 := u8_of n
    have e3 : ((n / 256 : Nat) : Int) % 256 = (n : Int) / 256 := by omega
    simp only [two, bytesV, List.map_cons, List.map_nil, e1, e2, e3]
  have hcv := conv_bytes (bytes_lit (alloc_new w (.cells #[.int .u8 ((n : Int) / 256), .int .u8 ((n : Int) % 256)] 5)) hcs 2 (Nat.le_refl _))
  rw [show (two n).length = 2 from rfl] at hcv
  clear hcs hn
  go_enter Tryd.func41, Tryd.ntmps41
  go_wp2_with fail
  go_ret
  exact ⟨rfl, (Chg.refl Nob w).alloc _⟩

theorem rbit_any (w : World) (b : Bool) (n : Nat) :
    Calls Tryd.prog 42 #[.bool b, .int .i64 (n : Int)] w fun e w' => e = .returned (.int .i64 ((n * b2n b : Nat) : Int)) ∧ ∃ m, w' = w.drewN m := by
  cases b
  · go_enter Tryd.func42, Tryd.ntmps42
    go_wp2_with fail
    go_ret
    exact ⟨rfl, 0, rfl⟩
  · rw [show n * b2n true = n from Nat.mul_one n]
    go_enter Tryd.func42, Tryd.ntmps42
    go_wp2_with fail
    go_ret
    exact ⟨rfl, 0, rfl⟩

theorem rbit_lit (w : World) (b : Bool) (n : Nat) (m : Int) (hm : m = (n : Int)) :
    Calls Tryd.prog 42 #[.bool b, .int .i64 m] w fun e w' => e = .returned (.int .i64 ((n * b2n b : Nat) : Int)) ∧ ∃ m, w' = w.drewN m := by
  subst hm
  exact rbit_any w b n

set_option maxRecDepth 100000 in
theorem rflags_no (w : World) (h : H) (ho : ¬ (h.op < 16 ∧ h.code < 16)) :
    Calls Tryd.prog 26 #[.agg h.cells] w fun e w' => e = .returned (.tuple #[.int .u16 0, .int .i64 1]) ∧ Chg Nob w w' := by
  obtain ⟨id, qr, op, aa, tc, rd, ra, z, ad, cd, code⟩ := h
  unfold H.cells
  simp only at ho
  dsimp only
  by_cases h1 : op < 16
  · have g0 : ¬ (15 : Int) < (op : Int) := by omega
    have g1 : (15 : Int) < (code : Int) := by omega
    clear ho h1
    go_enter Tryd.func26, Tryd.ntmps26
    go_wp2_with fail
    go_ret2
    exact ⟨rfl, (Chg.refl Nob w).alloc _⟩
  · have g1 : (15 : Int) < (op : Int) := by omega
    clear ho h1
    go_enter Tryd.func26, Tryd.ntmps26
    go_wp2_with fail
    go_ret2
    exact ⟨rfl, (Chg.refl Nob w).alloc _⟩

theorem wi64 (z : Int) (h0 : 0 ≤ z) (h1 : z < 65536) : IntKind.i64.wrap z = z := by
  rw [IntKind.wrap_i64]
  omega
theorem wrap_sum (o c x0 x1 x2 x3 x4 x5 x6 x7 : Nat) (h : 2048 * o + c + x0 + x1 + x2 + x3 + x4 + x5 + x6 + x7 < 65536) : IntKind.u16.wrap (IntKind.i64.wrap (IntKind.i64.wrap (IntKind.i64.wrap (IntKind.i64.wrap (IntKind.i64.wrap (IntKind.i64.wrap (IntKind.i64.wrap (IntKind.i64.wrap (IntKind.i64.wrap ((x0 : Int) + IntKind.i64.wrap (IntKind.i64.wrap (o : Int) * 2048)) + (x1 : Int)) + (x2 : Int)) + (x3 : Int)) + (x4 : Int)) + (x5 : Int)) + (x6 : Int)) + (x7 : Int)) + IntKind.i64.wrap (c : Int))) = ((2048 * o + c + x0 + x1 + x2 + x3 + x4 + x5 + x6 + x7 : Nat) : Int) := by
  rw [wi64 (o : Int) (by omega) (by omega), wi64 (c : Int) (by omega) (by omega), wi64 ((o : Int) * 2048) (by omega) (by omega), wi64 ((x0 : Int) + (o : Int) * 2048) (by omega) (by omega), wi64 ((x0 : Int) + (o : Int) * 2048 + (x1 : Int)) (by omega) (by omega), wi64 ((x0 : Int) + (o : Int) * 2048 + (x1 : Int) + (x2 : Int)) (by omega) (by omega), wi64 ((x0 : Int) + (o : Int) * 2048 + (x1 : Int) + (x2 : Int) + (x3 : Int)) (by omega) (by omega), wi64 ((x0 : Int) + (o : Int) * 2048 + (x1 : Int) + (x2 : Int) + (x3 : Int) + (x4 : Int)) (by omega) (by omega), wi64 ((x0 : Int) + (o : Int) * 2048 + (x1 : Int) + (x2 : Int) + (x3 : Int) + (x4 : Int) + (x5 : Int)) (by omega) (by omega), wi64 ((x0 : Int) + (o : Int) * 2048 + (x1 : Int) + (x2 : Int) + (x3 : Int) + (x4 : Int) + (x5 : Int) + (x6 : Int)) (by omega) (by omega), wi64 ((x0 : Int) + (o : Int) * 2048 + (x1 : Int) + (x2 : Int) + (x3 : Int) + (x4 : Int) + (x5 : Int) + (x6 : Int) + (x7 : Int)) (by omega) (by omega), wi64 ((x0 : Int) + (o : Int) * 2048 + (x1 : Int) + (x2 : Int) + (x3 : Int) + (x4 : Int) + (x5 : Int) + (x6 : Int) + (x7 : Int) + (c : Int)) (by omega) (by omega)]
  rw [IntKind.wrap_u16]
  omega

set_option maxRecDepth 100000 in
set_option maxHeartbeats 4000000 in
theorem rflags_ok (w : World) (h : H) (ho : h.op < 16) (hc : h.code < 16) :
    Calls Tryd.prog 26 #[.agg h.cells] w fun e w' => e = .returned (.tuple #[.int .u16 (h.flags : Int), .int .i64 0]) ∧ Chg Nob w w' := by
  have hf := h.flags_eq
  have hl := h.flags_lt ho hc
  obtain ⟨id, qr, op, aa, tc, rd, ra, z, ad, cd, code⟩ := h
  unfold H.cells
  dsimp only at *
  have g0 : ¬ (15 : Int) < (op : Int) := by omega
  have g1 : ¬ (15 : Int) < (code : Int) := by omega
  have g2 : (0 : Int) ≤ (op : Int) := by omega
  have g3 : (op : Int) ≤ 15 := by omega
  have g4 : (0 : Int) ≤ (code : Int) := by omega
  have g5 : (code : Int) ≤ 15 := by omega
  have N0 := Lib.hid (fun X : World => rbit_lit X qr 32768 32768 rfl)
  have q0 := b2n_le qr
  have N1 := Lib.hid (fun X : World => rbit_lit X aa 1024 1024 rfl)
  have q1 := b2n_le aa
  have N2 := Lib.hid (fun X : World => rbit_lit X tc 512 512 rfl)
  have q2 := b2n_le tc
  have N3 := Lib.hid (fun X : World => rbit_lit X rd 256 256 rfl)
  have q3 := b2n_le rd
  have N4 := Lib.hid (fun X : World => rbit_lit X ra 128 128 rfl)
  have q4 := b2n_le ra
  have N5 := Lib.hid (fun X : World => rbit_lit X z 64 64 rfl)
  have q5 := b2n_le z
  have N6 := Lib.hid (fun X : World => rbit_lit X ad 32 32 rfl)
  have q6 := b2n_le ad
  have N7 := Lib.hid (fun X : World => rbit_lit X cd 16 16 rfl)
  have q7 := b2n_le cd
  have u0 : ((32768 * b2n qr : Nat) : Int) ≤ 32768 := by omega
  have u1 : ((1024 * b2n aa : Nat) : Int) ≤ 1024 := by omega
  have u2 : ((512 * b2n tc : Nat) : Int) ≤ 512 := by omega
  have u3 : ((256 * b2n rd : Nat) : Int) ≤ 256 := by omega
  have u4 : ((128 * b2n ra : Nat) : Int) ≤ 128 := by omega
  have u5 : ((64 * b2n z : Nat) : Int) ≤ 64 := by omega
  have u6 : ((32 * b2n ad : Nat) : Int) ≤ 32 := by omega
  have u7 : ((16 * b2n cd : Nat) : Int) ≤ 16 := by omega
  have hf2 : 2048 * op + code + 32768 * b2n qr + 1024 * b2n aa + 512 * b2n tc + 256 * b2n rd + 128 * b2n ra + 64 * b2n z + 32 * b2n ad + 16 * b2n cd < 65536 := by omega
  generalize 32768 * b2n qr = x0 at *
  have l0 : (0 : Int) ≤ (x0 : Int) := by omega
  generalize 1024 * b2n aa = x1 at *
  have l1 : (0 : Int) ≤ (x1 : Int) := by omega
  generalize 512 * b2n tc = x2 at *
  have l2 : (0 : Int) ≤ (x2 : Int) := by omega
  generalize 256 * b2n rd = x3 at *
  have l3 : (0 : Int) ≤ (x3 : Int) := by omega
  generalize 128 * b2n ra = x4 at *
  have l4 : (0 : Int) ≤ (x4 : Int) := by omega
  generalize 64 * b2n z = x5 at *
  have l5 : (0 : Int) ≤ (x5 : Int) := by omega
  generalize 32 * b2n ad = x6 at *
  have l6 : (0 : Int) ≤ (x6 : Int) := by omega
  generalize 16 * b2n cd = x7 at *
  have l7 : (0 : Int) ≤ (x7 : Int) := by omega
  have HF := Lib.hid hf
  have HL := Lib.hid hf2
  clear hf hl ho hc hf2 q0 q1 q2 q3 q4 q5 q6 q7
  go_enter Tryd.func26, Tryd.ntmps26
  go_wp2_with fail
  generalize hW : World.alloc _ _ = W0
  have r0 : W0.heap[w.heap.size]? = some (.cells #[.int .u16 (id : Int), .bool qr, .int .u8 (op : Int), .bool aa, .bool tc, .bool rd, .bool ra, .bool z, .bool ad, .bool cd, .int .u8 (code : Int)] 24 (0, 0)) := by rw [← hW]; exact alloc_new w _
  have hCW : Chg Nob w W0 := by rw [← hW]; exact (Chg.refl Nob w).alloc _
  clear hW
  have c0 := fun i => cell_blk r0 i
  have z0 := fun i => frozen_blk r0 i
  go_region_held3 (fun w' => w'.cell? ⟨w.heap.size, 0, none⟩ = some (.int .u16 (id : Int)) ∧ w'.cell? ⟨w.heap.size, 1, none⟩ = some (.bool qr) ∧ w'.cell? ⟨w.heap.size, 2, none⟩ = some (.int .u8 (op : Int)) ∧ w'.cell? ⟨w.heap.size, 3, none⟩ = some (.bool aa) ∧ w'.cell? ⟨w.heap.size, 4, none⟩ = some (.bool tc) ∧ w'.cell? ⟨w.heap.size, 5, none⟩ = some (.bool rd) ∧ w'.cell? ⟨w.heap.size, 6, none⟩ = some (.bool ra) ∧ w'.cell? ⟨w.heap.size, 7, none⟩ = some (.bool z) ∧ w'.cell? ⟨w.heap.size, 8, none⟩ = some (.bool ad) ∧ w'.cell? ⟨w.heap.size, 9, none⟩ = some (.bool cd) ∧ w'.cell? ⟨w.heap.size, 10, none⟩ = some (.int .u8 (code : Int)))
    (first | go_keep | ((try dsimp only); (repeat' apply And.intro) <;> (rw [c0]; rfl)))
    (first
    | (go_at_call_of 42 (Value.int IntKind.i64 32768); refine (N0.out _).mono ?_; rintro e w' ⟨rfl, nn, rfl⟩)
    | (go_at_call_of 42 (Value.int IntKind.i64 1024); refine (N1.out _).mono ?_; rintro e w' ⟨rfl, nn, rfl⟩)
    | (go_at_call_of 42 (Value.int IntKind.i64 512); refine (N2.out _).mono ?_; rintro e w' ⟨rfl, nn, rfl⟩)
    | (go_at_call_of 42 (Value.int IntKind.i64 256); refine (N3.out _).mono ?_; rintro e w' ⟨rfl, nn, rfl⟩)
    | (go_at_call_of 42 (Value.int IntKind.i64 128); refine (N4.out _).mono ?_; rintro e w' ⟨rfl, nn, rfl⟩)
    | (go_at_call_of 42 (Value.int IntKind.i64 64); refine (N5.out _).mono ?_; rintro e w' ⟨rfl, nn, rfl⟩)
    | (go_at_call_of 42 (Value.int IntKind.i64 32); refine (N6.out _).mono ?_; rintro e w' ⟨rfl, nn, rfl⟩)
    | (go_at_call_of 42 (Value.int IntKind.i64 16); refine (N7.out _).mono ?_; rintro e w' ⟨rfl, nn, rfl⟩))
  go_wp2_with fail
  have hsum := wrap_sum op code x0 x1 x2 x3 x4 x5 x6 x7 HL.out
  rw [← HF.out] at hsum
  go_ret2
  exact ⟨congrArg (fun z => Ending.returned (.tuple #[.int .u16 z, .int .i64 0])) hsum, hCW.drewN _⟩
end Go.Proofs.YtgfgmaiddmohaaaDoor.Hd
