/- CursorPlaces, walked. -/
import Derived.Test.YtnbehagdionhmaaDoorCurStep
import Derived.Deep.RegionHeld3
namespace Go.Proofs.YtnbehagdionhmaaDoor.Cur
open Go.RowKit Go.Proofs.YtnbehagdionhmaaDoor.Put

theorem stepped_cases {s : ByteArray} {k k' : Nat} {a : Act} {n e : Int} (h : Stepped s k a n e k') (_hk : k ≤ s.size) :
    (a.what < 4 ∧ e = 0 ∧ (k' : Int) = k + n ∧ 0 ≤ n) ∨ (e ≠ 0 ∧ k' = k) ∨ (4 ≤ a.what ∧ e = 0 ∧ (k' : Int) = a.n ∧ n = 0) := by
  unfold Stepped Got Took Sought at h
  split at h
  · obtain ⟨h1, x, h2⟩ := h
    omega
  split at h
  · obtain ⟨h1, x, h2⟩ := h
    omega
  split at h
  · obtain ⟨h1, x, h2⟩ := h
    omega
  split at h
  · obtain ⟨t, h1, h2⟩ := h
    rcases h2 with h2 | ⟨h2, h3, rfl, h4⟩ | h2
    · omega
    · rw [ByteArray.size_extract] at h1
      omega
    · omega
  · omega

theorem stepped_again {s : ByteArray} {k k1 k2 : Nat} {a : Act} {n m e : Int} (h : Stepped s k a n 0 k1) (h' : Stepped s k a m e k2) (hw : a.what < 4) : e = 0 ∧ m = n := by
  unfold Stepped Got Took at h h'
  split at h
  · rw [if_pos ‹_›] at h'
    obtain ⟨h1, x, h2⟩ := h
    obtain ⟨h3, y, h4⟩ := h'
    omega
  rw [if_neg ‹_›] at h'
  split at h
  · rw [if_pos ‹_›] at h'
    obtain ⟨h1, x, h2⟩ := h
    obtain ⟨h3, y, h4⟩ := h'
    omega
  rw [if_neg ‹_›] at h'
  split at h
  · rw [if_pos ‹_›] at h'
    obtain ⟨h1, x, h2⟩ := h
    obtain ⟨h3, y, h4⟩ := h'
    omega
  rw [if_neg ‹_›] at h'
  split at h
  · rw [if_pos ‹_›] at h'
    obtain ⟨t, h1, h2⟩ := h
    obtain ⟨u, h3, h4⟩ := h'
    rcases h2 with h2 | ⟨h2, h5, rfl, h6⟩ | h2
    · omega
    · rcases h4 with h4 | ⟨h4, h7, rfl, h8⟩ | h4
      · omega
      · omega
      · omega
    · omega
  · omega

set_option maxRecDepth 100000 in
set_option maxHeartbeats 8000000 in
theorem places_any (s : ByteArray) (v : Value) (l : List Act) (w : World) (hl : ActsAt w v l) (hg : As.Laid w) (hm : s.size ≤ 9223372036854775807) :
    Calls Tryd.prog 7 #[.string s, v] w fun e w' => e = .returned (.bool true) ∧ Chg Nob w w' := by
  obtain ⟨a, c, rfl, hmax, h32, hcell⟩ := hl
  have HG := Lib.hid hg
  have HM := Lib.hid h32
  have HL := Lib.hid hcell
  obtain ⟨n, hn⟩ : ∃ n, n = l.length := ⟨_, rfl⟩
  have HN := Lib.hid hn
  rw [← hn] at hmax ⊢
  clear hg h32 hcell hn
  have d0 : (0 : Int) ≤ (n : Int) := by omega
  by_cases hbig : s.size ≤ 20000
  · by_cases hbig2 : n ≤ 300
    · have d1 : ¬ (20000 : Int) < (s.size : Int) := by omega
      have d2 : ¬ (300 : Int) < (n : Int) := by omega
      have d3 : (s.size : Int) ≤ 20000 := by omega
      go_enter Tryd.func7, Tryd.ntmps7
      go_wp2_with fail
      refine (awake_any w HG.out).mono ?_
      rintro e w0 ⟨rfl, hC0⟩
      go_wp2_with fail
      refine (new_any s w0 hm).mono ?_
      rintro e w1 ⟨g, rfl, hg, hA1, hC1⟩
      have hgw : w.heap.size ≤ g := by have := hC0.size; omega
      have hD1 := hC0.trans hC1
      clear hC0 hC1 hg
      go_wp2_with fail
      go_loopw [6] (fun v wx => ∃ i : Nat, i ≤ n ∧ v = .int .i64 (i : Int) ∧ ∃ k, At wx g s k ∧ Chg Nob w wx) (fun v _ => n - (intOf v).toNat)
      case atStart => exact ⟨0, by omega, rfl, 0, hA1, hD1⟩
      case round =>
        obtain ⟨i, hi, rfl, k, hA, hC⟩ := hrel
        have i0 : (0 : Int) ≤ (i : Int) := by omega
        by_cases hij : i < n
        · have hij1 : (i : Int) < (n : Int) := by omega
          have hlt : i < l.length := by have := HN.out; omega
          obtain ⟨b, off, rfl, hb, hcell⟩ := HL.out.resolve_left (by intro e; rw [e] at hlt; simp at hlt)
          have hx := HM.out _ (List.getElem_mem hlt)
          have hcw := hcell i _ (List.getElem?_eq_getElem hlt)
          generalize l[i] = x at *
          have HCW := Lib.hid hcw
          have e1 := hC.cell hcw.1 (fun h => h)
          have e2 := hC.cell hcw.2 (fun h => h)
          have x0 : (0 : Int) ≤ (x.what : Int) := by omega
          have x1 : (x.what : Int) < 256 := by omega
          have HX := Lib.hid hx
          have HK := Lib.hid hA.le
          clear hcell hcw hx
          go_wp2_with fail
          refine (at_any _ g s k hA).mono ?_
          rintro e w2 ⟨rfl, rfl⟩
          go_wp2_with fail
          refine (step_any wr g s k x HX.out.1 (HG.out.nob hC) hA).mono ?_
          rintro e w2 ⟨m, er, k1, rfl, hS, hA2, hC2⟩
          have hD2 := hC.trans' hC2 (fun m hm => .inr (by have e2 : m = g := hm; omega))
          have e1 := hD2.cell HCW.out.1 (fun h => h)
          have e2 := hD2.cell HCW.out.2 (fun h => h)
          have HS := Lib.hid hS
          have hcs := stepped_cases hS HK.out
          have HD := Lib.hid hD2
          clear hS hC2 hD2 hC hA
          have k0 : (0 : Int) ≤ (k : Int) := by omega
          have k2 : (k : Int) ≤ (s.size : Int) := by have := HK.out; omega
          have hle := hA2.le
          have k3 : (0 : Int) ≤ (k1 : Int) := by omega
          have k4 : (k1 : Int) ≤ (s.size : Int) := by omega
          have k5 : (k1 : Int) + ((s.size : Int) - (k1 : Int)) = (s.size : Int) := by omega
          clear hle
          have HAT := Lib.hid (fun W (hW : Chg Nob w2 W) => (at_any W g s k1 (hA2.nob hW)).mono fun e w' (h : e = .returned (.int .i64 (k1 : Int)) ∧ W = w') => (⟨h.1, h.2.symm⟩ : e = .returned (.int .i64 (k1 : Int)) ∧ w' = W))
          have HLF := Lib.hid (fun W (hW : Chg Nob w2 W) => left_any W g s k1 (hA2.nob hW))
          rcases hcs with ⟨hw, rfl, hk1, hm0⟩ | ⟨he, rfl⟩ | ⟨hw, rfl, hk1, rfl⟩
          · have hw1 : (x.what : Int) < 4 := by omega
            have hw2 : ¬ (3 : Int) < (x.what : Int) := by omega
            have hw3 : decide ((4 : Int) ≤ (x.what : Int)) = false := by simp; omega
            have hw4 : decide ((x.what : Int) < 4) = true := by simp; omega
            have hq : (k : Int) + m = (k1 : Int) := by omega
            clear hk1
            go_wp2_with fail
            go_quiet (first | (go_at_call 22; refine Calls.quiet_of_same (HAT.out _ ((Chg.refl Nob w2).drewN _))) | (go_at_call 23; refine Calls.quiet_of (HLF.out _ ((Chg.refl Nob w2).drewN _))))
            have hD3 := HD.out.drewN nq
            have hA3 := hA2.nob ((Chg.refl Nob w2).drewN nq)
            go_wp2_with fail
            refine (seek_ok _ g s k1 k hA3 HK.out).mono ?_
            rintro e w4 ⟨rfl, hA4, hC4⟩
            have hD4 := hD3.trans' hC4 (fun m hm => .inr (by have e2 : m = g := hm; omega))
            have e1 := hD4.cell HCW.out.1 (fun h => h)
            have e2 := hD4.cell HCW.out.2 (fun h => h)
            clear hA3 hD3 hC4
            go_wp2_with fail
            refine (step_any w4 g s k x HX.out.1 (HG.out.nob hD4) hA4).mono ?_
            rintro e w5 ⟨m5, er, k5', rfl, hS5, hA5, hC5⟩
            have hD5 := hD4.trans' hC5 (fun m hm => .inr (by have e2 : m = g := hm; omega))
            obtain ⟨rfl, rfl⟩ := stepped_again HS.out hS5 hw
            clear hS5 hC5 hD4 hA4
            go_wp2_with fail
            exact ⟨⟨i + 1, by omega, rfl, _, hA5, hD5⟩, by simp [intOf]; omega⟩
          · have he1 : (er != 0) = true := by simpa using he
            have he2 : (er == 0) = false := by simpa using he
            by_cases hw : x.what < 4
            · have hw1 : (x.what : Int) < 4 := by omega
              have hw2 : ¬ (3 : Int) < (x.what : Int) := by omega
              have hw3 : decide ((4 : Int) ≤ (x.what : Int)) = false := by simp; omega
              have hw4 : decide ((x.what : Int) < 4) = true := by simp; omega
              go_wp2_with fail
              go_quiet (first | (go_at_call 22; refine Calls.quiet_of_same (HAT.out _ ((Chg.refl Nob w2).drewN _))) | (go_at_call 23; refine Calls.quiet_of (HLF.out _ ((Chg.refl Nob w2).drewN _))))
              go_wp2_with fail
              exact ⟨⟨i + 1, by omega, rfl, _, hA2.nob ((Chg.refl Nob w2).drewN nq), HD.out.drewN nq⟩, by simp [intOf]; omega⟩
            · have hw1 : ¬ (x.what : Int) < 4 := by omega
              have hw2 : (3 : Int) < (x.what : Int) := by omega
              have hw3 : decide ((4 : Int) ≤ (x.what : Int)) = true := by simp; omega
              have hw4 : decide ((x.what : Int) < 4) = false := by simp; omega
              go_wp2_with fail
              go_quiet (first | (go_at_call 22; refine Calls.quiet_of_same (HAT.out _ ((Chg.refl Nob w2).drewN _))) | (go_at_call 23; refine Calls.quiet_of (HLF.out _ ((Chg.refl Nob w2).drewN _))))
              go_wp2_with fail
              exact ⟨⟨i + 1, by omega, rfl, _, hA2.nob ((Chg.refl Nob w2).drewN nq), HD.out.drewN nq⟩, by simp [intOf]; omega⟩
          · have hw1 : ¬ (x.what : Int) < 4 := by omega
            have hw2 : (3 : Int) < (x.what : Int) := by omega
            have hw3 : decide ((4 : Int) ≤ (x.what : Int)) = true := by simp; omega
            have hw4 : decide ((x.what : Int) < 4) = false := by simp; omega
            have hq : x.n = (k1 : Int) := by omega
            clear hk1
            go_wp2_with fail
            go_quiet (first | (go_at_call 22; refine Calls.quiet_of_same (HAT.out _ ((Chg.refl Nob w2).drewN _))) | (go_at_call 23; refine Calls.quiet_of (HLF.out _ ((Chg.refl Nob w2).drewN _))))
            go_wp2_with fail
            exact ⟨⟨i + 1, by omega, rfl, _, hA2.nob ((Chg.refl Nob w2).drewN nq), HD.out.drewN nq⟩, by simp [intOf]; omega⟩
        · obtain rfl : i = n := by omega
          go_wp2_with fail
          go_ret
          exact ⟨rfl, hC⟩
    · have d2 : (300 : Int) < (n : Int) := by omega
      have d1 : ¬ (20000 : Int) < (s.size : Int) := by omega
      go_enter Tryd.func7, Tryd.ntmps7
      go_wp2_with fail
      refine (awake_any w HG.out).mono ?_
      rintro e w0 ⟨rfl, hC0⟩
      go_wp2_with fail
      go_ret
      exact ⟨rfl, hC0⟩
  · have d1 : (20000 : Int) < (s.size : Int) := by omega
    go_enter Tryd.func7, Tryd.ntmps7
    go_wp2_with fail
    refine (awake_any w HG.out).mono ?_
    rintro e w0 ⟨rfl, hC0⟩
    go_wp2_with fail
    go_ret
    exact ⟨rfl, hC0⟩
end Go.Proofs.YtnbehagdionhmaaDoor.Cur
