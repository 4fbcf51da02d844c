/- Package head, walked: Read. -/
import Derived.Test.YtgfgmaiddmohaaaDoorHead
namespace Go.Proofs.YtgfgmaiddmohaaaDoor.Hd
open Go.RowKit Go.Proofs.YtgfgmaiddmohaaaDoor.Cur

def ints (l : List Int) : List Value := l.map (Value.int .i64)
theorem arr_set {w : World} {b : Nat} {F : List Int} {t : TypeId} {fz : Nat × Nat} (h : w.heap[b]? = some (.cells (ints F).toArray t fz)) (i : Nat) (x : Int) :
    (w.setCell ⟨b, i, none⟩ (.int .i64 x)).heap[b]? = some (.cells (ints (F.set i x)).toArray t fz) := by
  rw [set_blk h i (.int .i64 x)]
  simp [ints, List.map_set]
theorem arr_cell {w : World} {b : Nat} {F : List Int} {t : TypeId} {fz : Nat × Nat} (h : w.heap[b]? = some (.cells (ints F).toArray t fz)) {n : Nat} (hl : F.length = n) (i : Nat) (hi : i < n) :
    w.cell? ⟨b, i, none⟩ = some (.int .i64 (F.getD i 0)) := by
  rw [cell_blk h]
  simp [ints, List.getD, hl, hi]

theorem alloc_new1 (w : World) (o o' : Obj) : ((w.alloc o).alloc o').heap[w.heap.size + 1]? = some o' := by
  have h := alloc_new (w.alloc o) o'
  rwa [World.size_alloc] at h
theorem read_short (s : ByteArray) (w : World) (hs : s.size < 12) :
    Calls Tryd.prog 15 #[.string s] w fun e w' => e = .returned (.tuple #[.agg H.zero.cells, .agg #[.int .i64 0, .int .i64 0, .int .i64 0, .int .i64 0], .int .i64 4]) ∧ Chg Nob w w' := by
  have h1 : (s.size : Int) < 12 := by omega
  go_enter Tryd.func15, Tryd.ntmps15
  go_wp2_with fail
  refine bodyPost_ret (v := .tuple #[.agg H.zero.cells, .agg #[.int .i64 0, .int .i64 0, .int .i64 0, .int .i64 0], .int .i64 4]) (by simp [results, Tryd.results15, go_sem, H.cells, H.zero]) rfl ⟨rfl, ?_⟩
  exact ((Chg.refl Nob w).alloc _).alloc _

/-- The counts' first k. -/
def cts (s : ByteArray) (k : Nat) : List Int := (List.range 4).map fun j => if j < k then (be s (4 + 2 * j) 2 : Int) else 0
theorem cts_len (s : ByteArray) (k : Nat) : (cts s k).length = 4 := by simp [cts]
theorem cts_succ (s : ByteArray) (k : Nat) (hk : k < 4) : (cts s k).set k (be s (4 + 2 * k) 2 : Int) = cts s (k + 1) := by
  match k, hk with
  | 0, _ => rfl
  | 1, _ => rfl
  | 2, _ => rfl
  | 3, _ => rfl

set_option maxRecDepth 100000 in
set_option maxHeartbeats 4000000 in
theorem read_ok (s : ByteArray) (w : World) (hs : 12 ≤ s.size) (hm : s.size ≤ 9223372036854775807) (hb : Bits w) :
    Calls Tryd.prog 15 #[.string s] w fun e w' => e = .returned (.tuple #[.agg (H.of (be s 0 2) (be s 2 2)).cells, .agg #[.int .i64 (be s 4 2 : Int), .int .i64 (be s 6 2 : Int), .int .i64 (be s 8 2 : Int), .int .i64 (be s 10 2 : Int)], .int .i64 0]) ∧ Chg Nob w w' := by
  have h1 : ¬ (s.size : Int) < 12 := by omega
  have HB := Lib.hid hb
  clear hb
  go_enter Tryd.func15, Tryd.ntmps15
  go_wp2_with fail
  refine (new_any s _ hm).mono ?_
  rintro e w1 ⟨b, rfl, hbl, hA, hC1⟩
  have hr2 := hC1.heap (alloc_blk (alloc_new w _) _) (fun h => h)
  have hr3 := hC1.heap (alloc_new (w.alloc _) _) (fun h => h)
  rw [World.size_alloc] at hr3 hbl
  rw [World.size_alloc] at hbl
  have hC : Chg Nob w w1 := (((Chg.refl Nob w).alloc _).alloc _).trans hC1
  clear hC1
  go_wp2_with fail
  refine (two_ok w1 b s 0 hA (by omega)).mono ?_
  rintro e w2 ⟨rfl, hA2, hC2⟩
  go_wp2_with fail
  refine (two_ok w2 b s (0 + 2) hA2 (by omega)).mono ?_
  rintro e w3 ⟨rfl, hA3, hC3⟩
  have hC23 := hC2.trans hC3
  have hr2' := hC23.heap hr2 (fun e => by have e2 : w.heap.size = b := e; omega)
  have hr3' := hC23.heap hr3 (fun e => by have e2 : w.heap.size + 1 = b := e; omega)
  have hC' : Chg Nob w w3 := hC.trans' hC23 (fun j hj => .inr (by have e2 : j = b := hj; omega))
  clear hC2 hC3 hC23 hr2 hr3 hA hA2 hC
  have hf := be_lt s 2 2
  go_wp2_with fail
  refine (from_any w3 (be s 2 2) (by omega) (HB.out.nob hC')).mono ?_
  rintro e w4 ⟨rfl, hC4⟩
  have hr2 := hC4.heap hr2' (fun h => h)
  have hr3 := hC4.heap hr3' (fun h => h)
  have hA4 := hA3.nob hC4
  have hC := hC'.trans hC4
  clear hC' hC4 hr2' hr3' hA3
  have hf0 : (0 : Int) ≤ (be s 2 2 : Int) := by omega
  obtain ⟨v2, hv2⟩ : ∃ v, v = be s 2 2 / 2048 % 16 := ⟨_, rfl⟩
  obtain ⟨v10, hv10⟩ : ∃ v, v = be s 2 2 % 16 := ⟨_, rfl⟩
  have eh0 : (H.of 0 (be s 2 2)).cells = #[.int .u16 0, .bool (bitB (be s 2 2) 15), .int .u8 (v2 : Int), .bool (bitB (be s 2 2) 10), .bool (bitB (be s 2 2) 9), .bool (bitB (be s 2 2) 8), .bool (bitB (be s 2 2) 7), .bool (bitB (be s 2 2) 6), .bool (bitB (be s 2 2) 5), .bool (bitB (be s 2 2) 4), .int .u8 (v10 : Int)] := by rw [hv2, hv10]; rfl
  have eh : (H.of (be s 0 2) (be s 2 2)).cells = #[.int .u16 (be s 0 2 : Int), .bool (bitB (be s 2 2) 15), .int .u8 (v2 : Int), .bool (bitB (be s 2 2) 10), .bool (bitB (be s 2 2) 9), .bool (bitB (be s 2 2) 8), .bool (bitB (be s 2 2) 7), .bool (bitB (be s 2 2) 6), .bool (bitB (be s 2 2) 5), .bool (bitB (be s 2 2) 4), .int .u8 (v10 : Int)] := by rw [hv2, hv10]; rfl
  have EH := Lib.hid eh
  rw [eh0]
  clear hv2 hv10 eh0 eh
  go_wp2_with fail
  go_loopw [36] (fun iv wx => ∃ k : Nat, k ≤ 4 ∧ iv = .int .i64 k ∧ At wx b s (4 + 2 * k) ∧ HdAt wx w4.heap.size (H.of (be s 0 2) (be s 2 2)) ∧ wx.heap[w4.heap.size + 1]? = some (.cells (ints (cts s k)).toArray 26 (0, 0)) ∧
    wx.heap[w.heap.size]? = some (.cells H.zero.cells 24 (0, 0)) ∧ wx.heap[w.heap.size + 1]? = some (.cells #[.int .i64 0, .int .i64 0, .int .i64 0, .int .i64 0] 26 (0, 0)) ∧ Chg Nob w wx) (fun iv _ => 4 - (intOf iv).toNat)
  case atStart =>
    have hb4 := hA4.lt
    refine ⟨0, by omega, rfl, (hA4.nob ((Chg.refl Nob w4).alloc _)).nob ((Chg.refl Nob _).alloc _), by unfold HdAt; rw [EH.out]; exact alloc_blk (alloc_new w4 _) _, alloc_new1 w4 _ _, alloc_blk (alloc_blk hr2 _) _, alloc_blk (alloc_blk hr3 _) _, (hC.alloc _).alloc _⟩
  case round =>
    have hw4 := hC.size
    have hb4 := hA4.lt
    clear hA4 hr2 hr3 hC
    obtain ⟨k, hk, rfl, hA, hH, hc, hr2, hr3, hC⟩ := hrel
    have hk0 : (0 : Int) ≤ (k : Int) := by omega
    by_cases hk4 : k < 4
    · have hk1 : (k : Int) < 4 := by omega
      have hx := be_lt s (4 + 2 * k) 2
      have hx0 : (0 : Int) ≤ (be s (4 + 2 * k) 2 : Int) := by omega
      have hx1 : (be s (4 + 2 * k) 2 : Int) ≤ 65535 := by omega
      have hcs := Lib.hid (cts_succ s k hk4)
      have HT := Lib.hid (two_ok wr b s (4 + 2 * k) hA (by omega))
      generalize be s (4 + 2 * k) 2 = y at *
      go_wp2_with fail
      refine HT.out.mono ?_
      rintro e w6 ⟨rfl, hA6, hC6⟩
      have hc6 := hC6.heap hc (fun e => by have e2 : w4.heap.size + 1 = b := e; omega)
      have cc := arr_cell hc6 (cts_len s k) k hk4
      have zc := frozen_blk hc6 k
      have hset := arr_set hc6 k (y : Int)
      rw [hcs.out] at hset
      have hCn : Chg (Only (w4.heap.size + 1)) w6 (w6.setCell ⟨w4.heap.size + 1, k, none⟩ (.int .i64 (y : Int))) := Chg.setCell (p := ⟨w4.heap.size + 1, k, none⟩) (Chg.refl _ _) (.inl (Only.self _)) _
      have hH6 := hC6.heap hH (fun e => by have e2 : w4.heap.size = b := e; omega)
      have hr26 := hC6.heap hr2 (fun e => by have e2 : w.heap.size = b := e; omega)
      have hr36 := hC6.heap hr3 (fun e => by have e2 : w.heap.size + 1 = b := e; omega)
      have hCw : Chg Nob w w6 := hC.trans' hC6 (fun j hj => .inr (by have e2 : j = b := hj; omega))
      have hA7 : At _ b s (4 + 2 * (k + 1)) := hA6.chg hCn (fun e => by have e2 : b = w4.heap.size + 1 := e; omega)
      have hH7 : HdAt _ w4.heap.size (H.of (be s 0 2) (be s 2 2)) := hCn.heap hH6 (fun e => by have e2 : w4.heap.size = w4.heap.size + 1 := e; omega)
      have hr27 := hCn.heap hr26 (fun e => by have e2 : w.heap.size = w4.heap.size + 1 := e; omega)
      have hr37 := hCn.heap hr36 (fun e => by have e2 : w.heap.size + 1 = w4.heap.size + 1 := e; omega)
      have hC7 : Chg Nob w _ := hCw.trans' hCn (fun j hj => .inr (by have e2 : j = w4.heap.size + 1 := hj; omega))
      clear hCn hCw hr36 hr26 hH6 hC6 hA6 hA hH hc hr2 hr3 hC hc6
      go_wp2_with fail
      exact ⟨⟨k + 1, by omega, rfl, hA7, hH7, hset, hr27, hr37, hC7⟩, by simp [intOf]; omega⟩
    · obtain rfl : k = 4 := by omega
      have ec : (ints (cts s 4)).toArray = #[.int .i64 (be s 4 2 : Int), .int .i64 (be s 6 2 : Int), .int .i64 (be s 8 2 : Int), .int .i64 (be s 10 2 : Int)] := rfl
      rw [ec] at hc
      unfold HdAt at hH
      rw [EH.out] at hH
      clear ec hk hk4 hk0 hf hf0
      have h1c := fun i => cell_blk hH i
      have h2c := fun i => cell_blk hc i
      have h3c := fun i => cell_blk hr2 i
      have h4c := fun i => cell_blk hr3 i
      have h3z := fun i => frozen_blk hr2 i
      have h4z := fun i => frozen_blk hr3 i
      unfold H.zero H.cells at h3c
      go_wp2_with fail
      go_region
      go_wp2_with fail
      refine bodyPost_ret (v := .tuple #[.agg (H.of (be s 0 2) (be s 2 2)).cells, .agg #[.int .i64 (be s 4 2 : Int), .int .i64 (be s 6 2 : Int), .int .i64 (be s 8 2 : Int), .int .i64 (be s 10 2 : Int)], .int .i64 0]) (by rw [EH.out]; simp [results, Tryd.results15, go_sem, h3c, h4c]) rfl ⟨rfl, ?_⟩
      refine Chg.drew ?_
      repeat' (refine Chg.setCell ?_ (.inr (by simp)) _)
      exact hC
end Go.Proofs.YtgfgmaiddmohaaaDoor.Hd
