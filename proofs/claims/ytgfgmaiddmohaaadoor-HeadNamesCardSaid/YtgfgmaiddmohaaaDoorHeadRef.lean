/- hustingsref03, walked: number, From, Read. -/
import Derived.Test.YtgfgmaiddmohaaaDoorHeadR
import Derived.Deep.RegionHeld3
import Derived.Deep.CutBlock
namespace Go.Proofs.YtgfgmaiddmohaaaDoor.Hd
open Go.RowKit Go.Proofs.YtgfgmaiddmohaaaDoor.Cur

theorem byte_get (s : ByteArray) (i : Nat) (h : i < s.size) : s[i].toNat = byteAt s i := by
  unfold byteAt
  rw [List.getD, List.getElem?_eq_getElem (by simpa using h)]
  rfl

theorem cell_set_ne (W : World) (b b' i j : Nat) (v : Value) (h : b' ≠ b) : (W.setCell ⟨b', j, none⟩ v).cell? ⟨b, i, none⟩ = W.cell? ⟨b, i, none⟩ :=
  World.cell?_setCell_other W ⟨b', j, none⟩ ⟨b, i, none⟩ v (fun e => h (by injection e))
theorem alloc_new_at (W : World) (o : Obj) (b : Nat) (hb : W.heap.size = b) : (W.alloc o).heap[b]? = some o := by
  rw [← hb]
  exact alloc_new W o
theorem ret_int {k : IntKind} {a b : Int} (h : a = b) : Ending.returned (.int k a) = Ending.returned (.int k b) := by rw [h]
theorem number_any (s : ByteArray) (k : Nat) (w : World) (hk : k + 1 < s.size) (hm : s.size ≤ 9223372036854775807) :
    Calls Tryd.prog 38 #[.string s, .int .i64 (k : Int)] w fun e w' => e = .returned (.int .i64 (be s k 2 : Int)) ∧ ∃ n, w' = w.drewN n := by
  have h1 := byte_get s k (by omega)
  have h2 := byte_get s (k + 1) (by omega)
  have hb := be_two s k
  have l1 := byteAt_lt s k
  have l2 := byteAt_lt s (k + 1)
  have g0 : (0 : Int) ≤ (k : Int) := by omega
  have g1 : (k : Int) + 1 < (s.size : Int) := by omega
  have g2 : (s.size : Int) ≤ 9223372036854775807 := by omega
  generalize be s k 2 = x at *
  generalize byteAt s k = y at *
  generalize byteAt s (k + 1) = z at *
  have HB := Lib.hid hb
  clear hb
  go_enter Tryd.func38, Tryd.ntmps38
  go_wp2_with fail
  go_quiet (fail)
  go_wp2_with fail
  go_ret
  refine ⟨?_, nq, rfl⟩
  rw [HB.out]
  exact ret_int (by omega)

theorem bit_div (f i : Nat) (n : Int) (hn : n = ((2 ^ i : Nat) : Int)) : ((f : Int) / n % 2 == 1) = bitB f i := by
  rw [hn, ← Int.natCast_ediv]
  unfold bitB
  generalize f / 2 ^ i = x
  rw [Bool.eq_iff_iff]
  simp
  omega

set_option maxHeartbeats 1000000 in
theorem rfrom_any (w : World) (f : Nat) (hf : f < 65536) :
    Calls Tryd.prog 27 #[.int .u16 (f : Int)] w fun e w' => e = .returned (.agg (H.of 0 f).cells) ∧ w' = w.alloc (.cells (H.of 0 f).cells 24) := by
  have f0 : (0 : Int) ≤ (f : Int) := by omega
  have f1 : (f : Int) ≤ 65535 := by omega
  have t15 : ((f : Int) / 32768 == 1) = bitB f 15 := by
    rw [← bit_div f 15 32768 rfl]
    congr 1
    omega
  have t10 := bit_div f 10 1024 rfl
  have t9 := bit_div f 9 512 rfl
  have t8 := bit_div f 8 256 rfl
  have t7 := bit_div f 7 128 rfl
  have t6 := bit_div f 6 64 rfl
  have t5 := bit_div f 5 32 rfl
  have t4 := bit_div f 4 16 rfl
  have HF := Lib.hid hf
  clear hf
  go_enter Tryd.func27, Tryd.ntmps27
  go_wp2_with fail
  refine bodyPost_ret (v := .agg (H.of 0 f).cells) (by simp [results, Tryd.results27, go_sem, H.cells, H.of]) rfl ⟨rfl, ?_⟩
  simp [H.cells, H.of]

set_option maxRecDepth 100000 in
set_option maxHeartbeats 4000000 in
theorem rread_ok (s : ByteArray) (w : World) (hs : 12 ≤ s.size) (hm : s.size ≤ 9223372036854775807) :
    Calls Tryd.prog 16 #[.string s] w fun e w' => e = .returned (.tuple #[.agg (H.of (be s 0 2) (be s 2 2)).cells, .agg #[.int .i64 (be s 4 2 : Int), .int .i64 (be s 6 2 : Int), .int .i64 (be s 8 2 : Int), .int .i64 (be s 10 2 : Int)], .int .i64 0]) ∧ Chg Nob w w' := by
  have h1 : ¬ (s.size : Int) < 12 := by omega
  have b0 := be_lt s 0 2
  have b2 := be_lt s 2 2
  have d0 : (0 : Int) ≤ (be s 0 2 : Int) := by omega
  have d1 : (be s 0 2 : Int) ≤ 65535 := by omega
  have d2 : (0 : Int) ≤ (be s 2 2 : Int) := by omega
  have d3 : (be s 2 2 : Int) ≤ 65535 := by omega
  have HN : Hid (∀ (k : Nat) (X : World), k + 1 < s.size → _) := fun k X hk => number_any s k X hk hm
  obtain ⟨v2, hv2⟩ : ∃ v, v = be s 2 2 / 2048 % 16 := ⟨_, rfl⟩
  obtain ⟨v10, hv10⟩ : ∃ v, v = be s 2 2 % 16 := ⟨_, rfl⟩
  have eh0 : (H.of 0 (be s 2 2)).cells = #[.int .u16 0, .bool (bitB (be s 2 2) 15), .int .u8 (v2 : Int), .bool (bitB (be s 2 2) 10), .bool (bitB (be s 2 2) 9), .bool (bitB (be s 2 2) 8), .bool (bitB (be s 2 2) 7), .bool (bitB (be s 2 2) 6), .bool (bitB (be s 2 2) 5), .bool (bitB (be s 2 2) 4), .int .u8 (v10 : Int)] := by rw [hv2, hv10]; rfl
  have eh : (H.of (be s 0 2) (be s 2 2)).cells = #[.int .u16 (be s 0 2 : Int), .bool (bitB (be s 2 2) 15), .int .u8 (v2 : Int), .bool (bitB (be s 2 2) 10), .bool (bitB (be s 2 2) 9), .bool (bitB (be s 2 2) 8), .bool (bitB (be s 2 2) 7), .bool (bitB (be s 2 2) 6), .bool (bitB (be s 2 2) 5), .bool (bitB (be s 2 2) 4), .int .u8 (v10 : Int)] := by rw [hv2, hv10]; rfl
  have EH := Lib.hid eh
  have EH0 := Lib.hid eh0
  clear hv2 hv10 eh0 eh
  go_enter Tryd.func16, Tryd.ntmps16
  go_wp2_with fail
  refine (HN.out 2 _ (by omega)).mono ?_
  rintro e w1 ⟨rfl, n1, rfl⟩
  go_wp2_with fail
  refine (rfrom_any _ (be s 2 2) (by omega)).mono ?_
  rintro e w2 ⟨rfl, rfl⟩
  rw [EH0.out]
  go_wp2_with fail
  refine (HN.out 0 _ (by omega)).mono ?_
  rintro e w1 ⟨rfl, n2, rfl⟩
  go_wp2_with fail
  generalize hW : World.setCell _ _ _ = W0
  have r2 : W0.heap[w.heap.size]? = some (.cells #[.int .u16 0, .bool false, .int .u8 0, .bool false, .bool false, .bool false, .bool false, .bool false, .bool false, .bool false, .int .u8 0] 24 (0, 0)) := by
    rw [← hW]
    exact set_other (alloc_blk (alloc_blk (alloc_blk (alloc_new w _) _) _) _) (by show w.heap.size ≠ w.heap.size + 1 + 1 + 1; omega) _
  have r3 : W0.heap[w.heap.size + 1]? = some (.cells #[.int .i64 0, .int .i64 0, .int .i64 0, .int .i64 0] 25 (0, 0)) := by
    rw [← hW]
    exact set_other (alloc_blk (alloc_blk (alloc_new1 w _ _) _) _) (by show w.heap.size + 1 ≠ w.heap.size + 1 + 1 + 1; omega) _
  have r5 : W0.heap[w.heap.size + 1 + 1 + 1]? = some (.cells #[.int .u16 (be s 0 2 : Int), .bool (bitB (be s 2 2) 15), .int .u8 (v2 : Int), .bool (bitB (be s 2 2) 10), .bool (bitB (be s 2 2) 9), .bool (bitB (be s 2 2) 8), .bool (bitB (be s 2 2) 7), .bool (bitB (be s 2 2) 6), .bool (bitB (be s 2 2) 5), .bool (bitB (be s 2 2) 4), .int .u8 (v10 : Int)] 24 (0, 0)) := by
    rw [← hW]
    refine (set_blk (alloc_new_at _ _ _ ?_) 0 _).trans rfl
    simp only [World.size_alloc]
    show (World.alloc (World.alloc w _) _).heap.size + 1 = _
    simp only [World.size_alloc]
  have hCW : Chg Nob w W0 := by
    rw [← hW]
    exact ((((((Chg.refl Nob w).alloc _).alloc _).drewN _).alloc _).alloc _).drewN _ |>.setCell (p := ⟨w.heap.size + 1 + 1 + 1, 0, none⟩) (.inr (by show w.heap.size ≤ w.heap.size + 1 + 1 + 1; omega)) _
  clear hW
  have c5 := fun i => cell_blk r5 i
  have c2 := fun i => cell_blk r2 i
  have c3 := fun i => cell_blk r3 i
  have z2 := fun i => frozen_blk r2 i
  have z3 := fun i => frozen_blk r3 i
  go_region_held3 (fun w' => w'.cell? ⟨w.heap.size + 1 + 1 + 1, 0, none⟩ = some (.int .u16 (be s 0 2 : Int)) ∧ w'.cell? ⟨w.heap.size + 1 + 1 + 1, 1, none⟩ = some (.bool (bitB (be s 2 2) 15)) ∧ w'.cell? ⟨w.heap.size + 1 + 1 + 1, 2, none⟩ = some (.int .u8 (v2 : Int)) ∧ w'.cell? ⟨w.heap.size + 1 + 1 + 1, 3, none⟩ = some (.bool (bitB (be s 2 2) 10)) ∧ w'.cell? ⟨w.heap.size + 1 + 1 + 1, 4, none⟩ = some (.bool (bitB (be s 2 2) 9)) ∧ w'.cell? ⟨w.heap.size + 1 + 1 + 1, 5, none⟩ = some (.bool (bitB (be s 2 2) 8)) ∧ w'.cell? ⟨w.heap.size + 1 + 1 + 1, 6, none⟩ = some (.bool (bitB (be s 2 2) 7)) ∧ w'.cell? ⟨w.heap.size + 1 + 1 + 1, 7, none⟩ = some (.bool (bitB (be s 2 2) 6)) ∧ w'.cell? ⟨w.heap.size + 1 + 1 + 1, 8, none⟩ = some (.bool (bitB (be s 2 2) 5)) ∧ w'.cell? ⟨w.heap.size + 1 + 1 + 1, 9, none⟩ = some (.bool (bitB (be s 2 2) 4)) ∧ w'.cell? ⟨w.heap.size + 1 + 1 + 1, 10, none⟩ = some (.int .u8 (v10 : Int)))
    (first | go_keep | ((try dsimp only); (repeat' apply And.intro) <;> (first | (rw [c5]; rfl) | ((repeat rw [cell_set_ne _ _ _ _ _ _ (by omega)]); (show W0.cell? _ = _); rw [c5]; rfl))))
    (first
    | (go_at_call_of 38 (Value.int IntKind.i64 4); refine (HN.out 4 _ (by omega)).mono ?_; rintro e w' ⟨rfl, nn, rfl⟩)
    | (go_at_call_of 38 (Value.int IntKind.i64 6); refine (HN.out 6 _ (by omega)).mono ?_; rintro e w' ⟨rfl, nn, rfl⟩)
    | (go_at_call_of 38 (Value.int IntKind.i64 8); refine (HN.out 8 _ (by omega)).mono ?_; rintro e w' ⟨rfl, nn, rfl⟩)
    | (go_at_call_of 38 (Value.int IntKind.i64 10); refine (HN.out 10 _ (by omega)).mono ?_; rintro e w' ⟨rfl, nn, rfl⟩))
  go_wp2_with fail
  refine bodyPost_ret (v := .tuple #[.agg (H.of (be s 0 2) (be s 2 2)).cells, .agg #[.int .i64 (be s 4 2 : Int), .int .i64 (be s 6 2 : Int), .int .i64 (be s 8 2 : Int), .int .i64 (be s 10 2 : Int)], .int .i64 0]) (by rw [EH.out]; simp [results, Tryd.results16, go_sem, c2, c3]) rfl ⟨rfl, ?_⟩
  repeat' (refine Chg.setCell ?_ (.inr (by simp)) _)
  exact hCW.drewN _

theorem rread_short (s : ByteArray) (w : World) (hs : s.size < 12) :
    Calls Tryd.prog 16 #[.string s] w fun e w' => e = .returned (.tuple #[.agg H.zero.cells, .agg #[.int .i64 0, .int .i64 0, .int .i64 0, .int .i64 0], .int .i64 4]) ∧ Chg Nob w w' := by
  have h1 : (s.size : Int) < 12 := by omega
  go_enter Tryd.func16, Tryd.ntmps16
  go_wp2_with fail
  refine bodyPost_ret (v := .tuple #[.agg H.zero.cells, .agg #[.int .i64 0, .int .i64 0, .int .i64 0, .int .i64 0], .int .i64 4]) (by simp [results, Tryd.results16, go_sem, H.cells, H.zero]) rfl ⟨rfl, ?_⟩
  exact ((Chg.refl Nob w).alloc _).alloc _
end Go.Proofs.YtgfgmaiddmohaaaDoor.Hd
