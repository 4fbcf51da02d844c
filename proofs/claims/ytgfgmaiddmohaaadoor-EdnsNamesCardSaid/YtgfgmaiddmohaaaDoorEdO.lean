/- edns.option, walked. -/
import Derived.Test.YtgfgmaiddmohaaaDoorEdP
import Derived.Laws.ResultCell
namespace Go.Proofs.YtgfgmaiddmohaaaDoor.Ed
open Go.RowKit Go.Proofs.YtgfgmaiddmohaaaDoor.Cur Go.Proofs.YtgfgmaiddmohaaaDoor.Put

theorem At.set_far {w : World} {b : Nat} {s : ByteArray} {k : Nat} (h : At w b s k) {m : Nat} (hm : b ≠ m) (j : Nat) (v : Value) : At (w.setCell ⟨m, j, none⟩ v) b s k :=
  h.chg ((Chg.refl (Only m) w).setCell (p := ⟨m, j, none⟩) (.inl rfl) v) (fun e => hm e)

/-- A cursor is no place of the variable errors.errorType. -/
theorem laid_ne {w : World} {b : Nat} {s : ByteArray} {k : Nat} (hg : As.Laid w) (h : At w b s k) : ¬ Only b 1 := fun e => by
  have h0 := h.c0
  have e2 : 1 = b := e
  rw [← e2] at h0
  unfold As.Laid at hg
  rw [hg] at h0
  cases h0

set_option maxRecDepth 100000 in
set_option maxHeartbeats 4000000 in
theorem option_ok (w : World) (b : Nat) (s : ByteArray) (k : Nat) (k' : Nat) (o : Opt) (h : At w b s k) (ho : optAt s k = some (o, k')) :
    Calls Tryd.prog 44 #[.pointer (some ⟨b, 0, none⟩)] w fun r w' => r = .returned (.tuple #[.agg #[.int .u16 (o.code : Int), .string o.data], .int .i64 0]) ∧ At w' b s k' ∧ Chg (Only b) w w' := by
  obtain ⟨h1, h2, h3, h4, h5, h6, h7⟩ := optAt_some ho
  have hA0 := h.nob ((Chg.refl Nob w).alloc (.cells #[.int .u16 0, .string ⟨#[]⟩] 61))
  have hC0 := (Chg.refl (Only b) w).alloc (.cells #[.int .u16 0, .string ⟨#[]⟩] 61)
  have r0 := alloc_new w (.cells #[.int .u16 0, .string ⟨#[]⟩] 61)
  have hlt := h.lt
  obtain ⟨m, hm⟩ : ∃ m, m = w.heap.size := ⟨_, rfl⟩
  have hbm : b ≠ m := by omega
  have hmb : ¬ Only b m := fun e => hbm (show m = b from e).symm
  clear h ho
  have H1 := Lib.hid (two_ok _ b s k hA0 (by omega))
  have x0 : (0 : Int) ≤ (be s (k + 2) 2 : Int) := by omega
  have x1 : (be s (k + 2) 2 : Int) ≤ 65535 := by have := be_lt s (k + 2) 2; omega
  have H7 := Lib.hid h7
  have H6 := Lib.hid h6
  have H2 := Lib.hid h2
  rw [h5]
  obtain ⟨x, hx⟩ : ∃ x, x = be s (k + 2) 2 := ⟨_, rfl⟩
  obtain ⟨y, hy⟩ : ∃ y, y = be s k 2 := ⟨_, rfl⟩
  rw [← hx] at x0 x1 H6
  rw [← hy] at H1 ⊢
  have HX := Lib.hid hx
  have HM := Lib.hid hm
  rw [← hm] at r0
  clear hx hy hm h1 h2 h3 h4 h5 h6 h7 hA0 hlt
  go_enter Tryd.func44, Tryd.ntmps44
  go_wp2_with fail
  refine H1.out.mono ?_
  rintro r w1 ⟨rfl, hA1, hC1⟩
  have r1 := hC1.heap r0 hmb
  have c1 := fun i => cell_blk r1 i
  have z1 := fun i => frozen_blk r1 i
  have hD1 := hC0.trans hC1
  rw [← HM.out]
  clear H1 r0 hC0 hC1
  have hA1' := At.set_far hA1 hbm 0 (.int .u16 (y : Int))
  have r1' := set_blk r1 0 (.int .u16 (y : Int))
  have hD1' := hD1.setCell (p := ⟨m, 0, none⟩) (.inr (Nat.le_of_eq HM.out.symm)) (.int .u16 (y : Int))
  have hT := two_ok _ b s (k + 2) hA1' (by have := H2.out; have := H6.out; omega)
  rw [← HX.out] at hT
  have H3 := Lib.hid hT
  clear hA1 hA1' hT r1 hD1
  go_wp2_with fail
  refine H3.out.mono ?_
  rintro r w2 ⟨rfl, hA2, hC2⟩
  have r2 : w2.heap[m]? = some (.cells #[.int .u16 (y : Int), .string ⟨#[]⟩] 61 (0, 0)) := hC2.heap r1' hmb
  have hD2 := hD1'.trans hC2
  have c2 := fun i => cell_blk r2 i
  have z2 := fun i => frozen_blk r2 i
  clear H3 hC2 r1' hD1' c1 z1
  have hT := take_ok w2 b s (k + 2 + 2) x hA2 (by have := H2.out; have := H6.out; omega)
  rw [show k + 2 + 2 + x = k' by have := H6.out; omega, show s.extract (k + 2 + 2) k' = o.data by rw [H7.out]] at hT
  have H4 := Lib.hid hT
  clear hT hA2
  go_wp2_with fail
  refine H4.out.mono ?_
  rintro r w3 ⟨rfl, hA3, hC3⟩
  have r3 := hC3.heap r2 hmb
  have hD3 := hD2.trans hC3
  have c3 := fun i => cell_blk r3 i
  have z3 := fun i => frozen_blk r3 i
  clear H4 hC3 r2 hD2 c2 z2
  have hmm : Only b m ∨ w.heap.size ≤ m := .inr (Nat.le_of_eq HM.out.symm)
  go_wp2_with fail
  (try simp only [Exit.inBlock, Exit.then])
  refine bodyPost_ret (v := .tuple #[.agg #[.int .u16 (y : Int), .string o.data], .int .i64 0]) ?_ rfl ⟨rfl, At.set_far (At.set_far (At.set_far hA3 hbm _ _) hbm _ _) hbm _ _, ((hD3.setCell (p := ⟨m, 1, none⟩) hmm _).setCell (p := ⟨m, 0, none⟩) hmm _).setCell (p := ⟨m, 1, none⟩) hmm _⟩
  rw [results_cell_tmp rfl]
  go_simp

set_option maxRecDepth 100000 in
set_option maxHeartbeats 4000000 in
theorem option_a (w : World) (b : Nat) (s : ByteArray) (k : Nat) (hg : As.Laid w) (h : At w b s k) (hk : s.size < k + 2) :
    Calls Tryd.prog 44 #[.pointer (some ⟨b, 0, none⟩)] w fun r w' => r = .returned (.tuple #[.agg #[.int .u16 0, .string ⟨#[]⟩], .int .i64 4]) ∧ Chg (Only b) w w' := by
  have hA0 := h.nob ((Chg.refl Nob w).alloc (.cells #[.int .u16 0, .string ⟨#[]⟩] 61))
  have hC0 := (Chg.refl (Only b) w).alloc (.cells #[.int .u16 0, .string ⟨#[]⟩] 61)
  have r0 := alloc_new w (.cells #[.int .u16 0, .string ⟨#[]⟩] 61)
  have hlt := h.lt
  obtain ⟨m, hm⟩ : ∃ m, m = w.heap.size := ⟨_, rfl⟩
  have hbm : b ≠ m := by omega
  have hmb : ¬ Only b m := fun e => hbm (show m = b from e).symm
  have H1 := Lib.hid (two_no _ b s k (hg.nob ((Chg.refl Nob w).alloc _)) hA0 hk)
  have HM := Lib.hid hm
  rw [← hm] at r0
  clear h hg hk hA0 hlt hm
  go_enter Tryd.func44, Tryd.ntmps44
  go_wp2_with fail
  refine H1.out.mono ?_
  rintro r w1 ⟨rfl, hC1⟩
  have r1 := hC1.heap r0 (fun h => h)
  have c1 := fun i => cell_blk r1 i
  have z1 := fun i => frozen_blk r1 i
  have hD1 := hC0.trans (hC1.mono (fun _ _ h => h.elim))
  rw [← HM.out]
  clear H1 r0 hC0 hC1
  have hmm : Only b m ∨ w.heap.size ≤ m := .inr (Nat.le_of_eq HM.out.symm)
  go_wp2_with fail
  (try simp only [Exit.inBlock, Exit.then])
  refine bodyPost_ret (v := .tuple #[.agg #[.int .u16 0, .string ⟨#[]⟩], .int .i64 4]) ?_ rfl ⟨rfl, ((hD1.setCell (p := ⟨m, 0, none⟩) hmm _).setCell (p := ⟨m, 0, none⟩) hmm _).setCell (p := ⟨m, 1, none⟩) hmm _⟩
  rw [results_cell_tmp rfl]
  go_simp

set_option maxRecDepth 100000 in
set_option maxHeartbeats 4000000 in
theorem option_b (w : World) (b : Nat) (s : ByteArray) (k : Nat) (hg : As.Laid w) (h : At w b s k) (hk : k + 2 ≤ s.size) (hk2 : s.size < k + 4) :
    Calls Tryd.prog 44 #[.pointer (some ⟨b, 0, none⟩)] w fun r w' => r = .returned (.tuple #[.agg #[.int .u16 0, .string ⟨#[]⟩], .int .i64 4]) ∧ Chg (Only b) w w' := by
  have hA0 := h.nob ((Chg.refl Nob w).alloc (.cells #[.int .u16 0, .string ⟨#[]⟩] 61))
  have hC0 := (Chg.refl (Only b) w).alloc (.cells #[.int .u16 0, .string ⟨#[]⟩] 61)
  have r0 := alloc_new w (.cells #[.int .u16 0, .string ⟨#[]⟩] 61)
  have hlt := h.lt
  obtain ⟨m, hm⟩ : ∃ m, m = w.heap.size := ⟨_, rfl⟩
  have hbm : b ≠ m := by omega
  have hmb : ¬ Only b m := fun e => hbm (show m = b from e).symm
  have H1 := Lib.hid (two_ok _ b s k hA0 hk)
  have HG := Lib.hid (hg.nob ((Chg.refl Nob w).alloc (.cells #[.int .u16 0, .string ⟨#[]⟩] 61)))
  obtain ⟨y, hy⟩ : ∃ y, y = be s k 2 := ⟨_, rfl⟩
  rw [← hy] at H1
  have hne := laid_ne hg h
  have HL := Lib.hid hg
  have HK := Lib.hid hk2
  have HM := Lib.hid hm
  rw [← hm] at r0
  clear hy h hg hk hA0 hlt hm hk2
  go_enter Tryd.func44, Tryd.ntmps44
  go_wp2_with fail
  refine H1.out.mono ?_
  rintro r w1 ⟨rfl, hA1, hC1⟩
  have r1 := hC1.heap r0 hmb
  have c1 := fun i => cell_blk r1 i
  have z1 := fun i => frozen_blk r1 i
  have hD1 := hC0.trans hC1
  rw [← HM.out]
  clear H1 r0 hC0 hC1
  have hA1' := At.set_far hA1 hbm 0 (.int .u16 (y : Int))
  have r1' := set_blk r1 0 (.int .u16 (y : Int))
  have hD1' := hD1.setCell (p := ⟨m, 0, none⟩) (.inr (Nat.le_of_eq HM.out.symm)) (.int .u16 (y : Int))
  have hL1 := HL.out.chg hD1' hne
  have H3 := Lib.hid (two_no _ b s (k + 2) hL1 hA1' (by have := HK.out; omega))
  clear hA1 hA1' r1 hD1 hL1
  go_wp2_with fail
  refine H3.out.mono ?_
  rintro r w2 ⟨rfl, hC2⟩
  have r2 : w2.heap[m]? = some (.cells #[.int .u16 (y : Int), .string ⟨#[]⟩] 61 (0, 0)) := hC2.heap r1' (fun h => h)
  have hD2 := hD1'.trans (hC2.mono (fun _ _ h => h.elim))
  have c2 := fun i => cell_blk r2 i
  have z2 := fun i => frozen_blk r2 i
  clear H3 hC2 r1' hD1' c1 z1
  have hmm : Only b m ∨ w.heap.size ≤ m := .inr (Nat.le_of_eq HM.out.symm)
  go_wp2_with fail
  (try simp only [Exit.inBlock, Exit.then])
  refine bodyPost_ret (v := .tuple #[.agg #[.int .u16 0, .string ⟨#[]⟩], .int .i64 4]) ?_ rfl ⟨rfl, (hD2.setCell (p := ⟨m, 0, none⟩) hmm _).setCell (p := ⟨m, 1, none⟩) hmm _⟩
  rw [results_cell_tmp rfl]
  go_simp

set_option maxRecDepth 100000 in
set_option maxHeartbeats 4000000 in
theorem option_c (w : World) (b : Nat) (s : ByteArray) (k : Nat) (hg : As.Laid w) (h : At w b s k) (hk : k + 4 ≤ s.size) (hk2 : s.size < k + 4 + be s (k + 2) 2) :
    Calls Tryd.prog 44 #[.pointer (some ⟨b, 0, none⟩)] w fun r w' => r = .returned (.tuple #[.agg #[.int .u16 0, .string ⟨#[]⟩], .int .i64 4]) ∧ Chg (Only b) w w' := by
  have hA0 := h.nob ((Chg.refl Nob w).alloc (.cells #[.int .u16 0, .string ⟨#[]⟩] 61))
  have hC0 := (Chg.refl (Only b) w).alloc (.cells #[.int .u16 0, .string ⟨#[]⟩] 61)
  have r0 := alloc_new w (.cells #[.int .u16 0, .string ⟨#[]⟩] 61)
  have hlt := h.lt
  obtain ⟨m, hm⟩ : ∃ m, m = w.heap.size := ⟨_, rfl⟩
  have hbm : b ≠ m := by omega
  have hmb : ¬ Only b m := fun e => hbm (show m = b from e).symm
  have H1 := Lib.hid (two_ok _ b s k hA0 (by omega))
  have x0 : (0 : Int) ≤ (be s (k + 2) 2 : Int) := by omega
  have x1 : (be s (k + 2) 2 : Int) ≤ 65535 := by have := be_lt s (k + 2) 2; omega
  obtain ⟨x, hx⟩ : ∃ x, x = be s (k + 2) 2 := ⟨_, rfl⟩
  obtain ⟨y, hy⟩ : ∃ y, y = be s k 2 := ⟨_, rfl⟩
  rw [← hx] at x0 x1 hk2
  rw [← hy] at H1
  have hne := laid_ne hg h
  have HL := Lib.hid hg
  have HK := Lib.hid hk
  have HK2 := Lib.hid hk2
  have HX := Lib.hid hx
  have HM := Lib.hid hm
  rw [← hm] at r0
  clear hy hx h hg hk hA0 hlt hm hk2
  go_enter Tryd.func44, Tryd.ntmps44
  go_wp2_with fail
  refine H1.out.mono ?_
  rintro r w1 ⟨rfl, hA1, hC1⟩
  have r1 := hC1.heap r0 hmb
  have c1 := fun i => cell_blk r1 i
  have z1 := fun i => frozen_blk r1 i
  have hD1 := hC0.trans hC1
  rw [← HM.out]
  clear H1 r0 hC0 hC1
  have hA1' := At.set_far hA1 hbm 0 (.int .u16 (y : Int))
  have r1' := set_blk r1 0 (.int .u16 (y : Int))
  have hD1' := hD1.setCell (p := ⟨m, 0, none⟩) (.inr (Nat.le_of_eq HM.out.symm)) (.int .u16 (y : Int))
  have hT := two_ok _ b s (k + 2) hA1' (by have := HK.out; omega)
  rw [← HX.out] at hT
  have H3 := Lib.hid hT
  clear hA1 hA1' hT r1 hD1
  go_wp2_with fail
  refine H3.out.mono ?_
  rintro r w2 ⟨rfl, hA2, hC2⟩
  have r2 : w2.heap[m]? = some (.cells #[.int .u16 (y : Int), .string ⟨#[]⟩] 61 (0, 0)) := hC2.heap r1' hmb
  have hD2 := hD1'.trans hC2
  have c2 := fun i => cell_blk r2 i
  have z2 := fun i => frozen_blk r2 i
  clear H3 hC2 r1' hD1' c1 z1
  have H4 := Lib.hid (take_no w2 _ (x : Int) 4 (HL.out.chg hD2 hne) (next_short w2 b s (k + 2 + 2) (x : Int) hA2 x0 (by have := HK2.out; omega)))
  clear hA2
  go_wp2_with fail
  refine H4.out.mono ?_
  rintro r w3 ⟨rfl, hC3⟩
  have r3 := hC3.heap r2 (fun h => h)
  have hD3 := hD2.trans (hC3.mono (fun _ _ h => h.elim))
  have c3 := fun i => cell_blk r3 i
  have z3 := fun i => frozen_blk r3 i
  clear H4 hC3 r2 hD2 c2 z2
  have hmm : Only b m ∨ w.heap.size ≤ m := .inr (Nat.le_of_eq HM.out.symm)
  go_wp2_with fail
  (try simp only [Exit.inBlock, Exit.then])
  refine bodyPost_ret (v := .tuple #[.agg #[.int .u16 0, .string ⟨#[]⟩], .int .i64 4]) ?_ rfl ⟨rfl, ((hD3.setCell (p := ⟨m, 1, none⟩) hmm _).setCell (p := ⟨m, 0, none⟩) hmm _).setCell (p := ⟨m, 1, none⟩) hmm _⟩
  rw [results_cell_tmp rfl]
  go_simp

set_option maxRecDepth 100000 in
set_option maxHeartbeats 4000000 in
theorem option_no (w : World) (b : Nat) (s : ByteArray) (k : Nat) (hg : As.Laid w) (h : At w b s k) (ho : optAt s k = none) :
    Calls Tryd.prog 44 #[.pointer (some ⟨b, 0, none⟩)] w fun r w' => r = .returned (.tuple #[.agg #[.int .u16 0, .string ⟨#[]⟩], .int .i64 4]) ∧ Chg (Only b) w w' := by
  unfold optAt at ho
  split at ho
  · cases ho
  · rename_i hn
    by_cases h1 : s.size < k + 2
    · exact option_a w b s k hg h h1
    · by_cases h2 : s.size < k + 4
      · exact option_b w b s k hg h (by omega) h2
      · exact option_c w b s k hg h (by omega) (by omega)
end Go.Proofs.YtgfgmaiddmohaaaDoor.Ed
