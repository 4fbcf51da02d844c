/- hustingslaw02.does, walked: both answer an act alike. -/
import Derived.Test.YtnbehagdionhmaaDoorRCur
import Derived.Test.YtnbehagdionhmaaDoorCurStep
namespace Go.Proofs.YtnbehagdionhmaaDoor.Cur
open Go.RowKit Go.Proofs.YtnbehagdionhmaaDoor.Put

theorem got_same {s : ByteArray} {k n x y k1 k2 : Nat} {e f : Int} (h : Got s k n x e k1) (h' : Got s k n y f k2) : y = x ∧ f = e ∧ k2 = k1 := by
  unfold Got at h h'
  omega
theorem took_same {s : ByteArray} {k : Nat} {n : Int} {t u : ByteArray} {k1 k2 : Nat} {e f : Int} (h : Took s k n t e k1) (h' : Took s k n u f k2) : u = t ∧ f = e ∧ k2 = k1 := by
  unfold Took at h h'
  rcases h with ⟨h1, rfl, rfl, rfl⟩ | ⟨h1, h2, rfl, rfl, rfl⟩ | ⟨h1, h2, rfl, rfl, rfl⟩ <;> rcases h' with ⟨g1, rfl, rfl, rfl⟩ | ⟨g1, g2, rfl, rfl, rfl⟩ | ⟨g1, g2, rfl, rfl, rfl⟩ <;>
    first | exact ⟨rfl, rfl, rfl⟩ | omega
theorem sought_same {s : ByteArray} {k : Nat} {n : Int} {k1 k2 : Nat} {e f : Int} (h : Sought s k n e k1) (h' : Sought s k n f k2) : f = e ∧ k2 = k1 := by
  unfold Sought at h h'
  omega

theorem sought_idem {s : ByteArray} {k k0 k1 k2 : Nat} {n e f : Int} (h : Sought s k n e k0) (h1 : k1 = k ∨ k1 = k0) (h2 : Sought s k1 n f k2) : f = e ∧ k2 = k0 := by
  unfold Sought at h h2
  omega

theorem seek_in {s : ByteArray} {k k0 : Nat} {n e : Int} (hs : Sought s k n e k0) (W : World) (b : Nat) (k1 : Nat) (h : At W b s k1) (h1 : k1 = k ∨ k1 = k0) :
    Calls Tryd.prog 12 #[.pointer (some ⟨b, 0, none⟩), .int .i64 n] W fun r w' => r = .returned (.int .i64 e) ∧ At w' b s k0 ∧ Chg (Only b) W w' :=
  (seek_any W b s k1 n h).mono fun r w' ⟨f, k2, h2, h3, h4, h5⟩ => by
    obtain ⟨rfl, rfl⟩ := sought_idem hs h1 h3
    exact ⟨h2, h4, h5⟩
theorem rseek_in {s : ByteArray} {k k0 : Nat} {n e : Int} (hs : Sought s k n e k0) (W : World) (b : Nat) (k1 : Nat) (h : RAt W b s k1) (h1 : k1 = k ∨ k1 = k0) :
    Calls Tryd.prog 31 #[.pointer (some ⟨b, 0, none⟩), .int .i64 n] W fun r w' => r = .returned (.int .i64 e) ∧ RAt w' b s k0 ∧ Chg (Only b) W w' :=
  (rseek_any W b s k1 n h).mono fun r w' ⟨f, k2, h2, h3, h4, h5⟩ => by
    obtain ⟨rfl, rfl⟩ := sought_idem hs h1 h3
    exact ⟨h2, h4, h5⟩

set_option maxRecDepth 100000 in
set_option maxHeartbeats 4000000 in
theorem does_any (w : World) (b g : Nat) (s : ByteArray) (k : Nat) (a : Act) (_ha : a.what < 256) (hbg : b ≠ g) (hg : As.Laid w) (h : At w b s k) (h' : RAt w g s k) :
    Calls Tryd.prog 21 #[.pointer (some ⟨b, 0, none⟩), .pointer (some ⟨g, 0, none⟩), .agg #[.int .u8 (a.what : Int), .int .i64 a.n]] w fun r w' => r = .returned (.bool true) ∧ ∃ k', At w' b s k' ∧ RAt w' g s k' ∧ Chg (fun i => i = b ∨ i = g) w w' := by
  obtain ⟨what, an⟩ := a
  dsimp only at *
  have HA := Lib.hid (h.nob ((Chg.refl Nob w).alloc (.cells #[.int .u8 (what : Int), .int .i64 an] 53)))
  have HR := Lib.hid (h'.nob ((Chg.refl Nob w).alloc (.cells #[.int .u8 (what : Int), .int .i64 an] 53)))
  have HG := Lib.hid (hg.nob ((Chg.refl Nob w).alloc (.cells #[.int .u8 (what : Int), .int .i64 an] 53)))
  have hC0 := (Chg.refl (fun i => i = b ∨ i = g) w).alloc (.cells #[.int .u8 (what : Int), .int .i64 an] 53)
  have hlb := h.lt
  have hlg := h'.lt
  clear h h' hg
  by_cases c0 : what = 0
  · subst c0
    go_enter Tryd.func21, Tryd.ntmps21
    go_wp2_with fail
    refine (byte_any _ b s k HG.out HA.out).mono ?_
    rintro r w1 ⟨x, e, k1, rfl, g1, hA1, hC1⟩
    have hR1 := HR.out.chg hC1 (fun e => hbg (show g = b from e).symm)
    go_wp2_with fail
    refine (rnumber_any w1 g s k 1 hR1 (by omega)).mono ?_
    rintro r w2 ⟨y, f, k2, rfl, g2, hR2, hC2⟩
    obtain ⟨rfl, rfl, rfl⟩ := got_same g1 g2
    have hA2 := hA1.chg hC2 (fun e => hbg (show b = g from e))
    have hlt := g1.lt
    have x0 : (0 : Int) ≤ (y : Int) := by omega
    have x1 : (y : Int) ≤ 255 := by omega
    have hD := (hC0.trans (hC1.mono (fun i _ h => .inl h))).trans (hC2.mono (fun i _ h => .inr h))
    clear g1 g2 hC1 hC2 hA1 hR1 hC0 hlt
    go_wp2_with fail
    go_ret
    exact ⟨rfl, _, hA2, hR2, hD⟩
  by_cases c1 : what = 1
  · subst c1
    go_enter Tryd.func21, Tryd.ntmps21
    go_wp2_with fail
    refine (two_any _ b s k HG.out HA.out).mono ?_
    rintro r w1 ⟨x, e, k1, rfl, g1, hA1, hC1⟩
    have hR1 := HR.out.chg hC1 (fun e => hbg (show g = b from e).symm)
    go_wp2_with fail
    refine (rnumber_any w1 g s k 2 hR1 (by omega)).mono ?_
    rintro r w2 ⟨y, f, k2, rfl, g2, hR2, hC2⟩
    obtain ⟨rfl, rfl, rfl⟩ := got_same g1 g2
    have hA2 := hA1.chg hC2 (fun e => hbg (show b = g from e))
    have hlt := g1.lt
    have x0 : (0 : Int) ≤ (y : Int) := by omega
    have x1 : (y : Int) ≤ 65535 := by omega
    have hD := (hC0.trans (hC1.mono (fun i _ h => .inl h))).trans (hC2.mono (fun i _ h => .inr h))
    clear g1 g2 hC1 hC2 hA1 hR1 hC0 hlt
    go_wp2_with fail
    go_ret
    exact ⟨rfl, _, hA2, hR2, hD⟩
  by_cases c2 : what = 2
  · subst c2
    go_enter Tryd.func21, Tryd.ntmps21
    go_wp2_with fail
    refine (four_any _ b s k HG.out HA.out).mono ?_
    rintro r w1 ⟨x, e, k1, rfl, g1, hA1, hC1⟩
    have hR1 := HR.out.chg hC1 (fun e => hbg (show g = b from e).symm)
    go_wp2_with fail
    refine (rnumber_any w1 g s k 4 hR1 (by omega)).mono ?_
    rintro r w2 ⟨y, f, k2, rfl, g2, hR2, hC2⟩
    obtain ⟨rfl, rfl, rfl⟩ := got_same g1 g2
    have hA2 := hA1.chg hC2 (fun e => hbg (show b = g from e))
    have hlt := g1.lt
    have x0 : (0 : Int) ≤ (y : Int) := by omega
    have x1 : (y : Int) ≤ 4294967295 := by omega
    have hD := (hC0.trans (hC1.mono (fun i _ h => .inl h))).trans (hC2.mono (fun i _ h => .inr h))
    clear g1 g2 hC1 hC2 hA1 hR1 hC0 hlt
    go_wp2_with fail
    go_ret
    exact ⟨rfl, _, hA2, hR2, hD⟩
  by_cases c3 : what = 3
  · subst c3
    go_enter Tryd.func21, Tryd.ntmps21
    go_wp2_with fail
    refine (take_any _ b s k an HG.out HA.out).mono ?_
    rintro r w1 ⟨x, e, k1, rfl, g1, hA1, hC1⟩
    have hR1 := HR.out.chg hC1 (fun e => hbg (show g = b from e).symm)
    have hr1 := hC1.heap (alloc_new w (.cells #[.int .u8 3, .int .i64 an] 53)) (fun e => by have e2 : w.heap.size = b := e; omega)
    have hc1 := fun i => cell_blk hr1 i
    go_wp2_with fail
    refine (rtake_any w1 g s k an hR1).mono ?_
    rintro r w2 ⟨y, f, k2, rfl, g2, hR2, hC2⟩
    obtain ⟨rfl, rfl, rfl⟩ := took_same g1 g2
    have hA2 := hA1.chg hC2 (fun e => hbg (show b = g from e))
    have hD := (hC0.trans (hC1.mono (fun i _ h => .inl h))).trans (hC2.mono (fun i _ h => .inr h))
    clear g1 g2 hC1 hC2 hA1 hR1 hC0 hr1 hc1
    go_wp2_with fail
    go_ret
    exact ⟨rfl, _, hA2, hR2, hD⟩
  have z0 : ¬ (what : Int) = 0 := by omega
  have z1 : ¬ (what : Int) = 1 := by omega
  have z2 : ¬ (what : Int) = 2 := by omega
  have z3 : ¬ (what : Int) = 3 := by omega
  obtain ⟨e0, k0, hs0⟩ : ∃ e k', Sought s k an e k' := by
    by_cases hj : 0 ≤ an ∧ an ≤ (s.size : Int)
    · exact ⟨0, an.toNat, .inl ⟨hj.1, hj.2, rfl, rfl⟩⟩
    · exact ⟨1, k, .inr ⟨by omega, rfl, rfl⟩⟩
  have H1 := Lib.hid (seek_in hs0)
  have H2 := Lib.hid (rseek_in hs0)
  clear hs0
  have hr0 := alloc_new w (.cells #[.int .u8 (what : Int), .int .i64 an] 53)
  go_enter Tryd.func21, Tryd.ntmps21
  go_wp2_with fail
  generalize World.alloc w _ = W0 at *
  obtain ⟨m, hm⟩ : ∃ m, m = w.heap.size := ⟨_, rfl⟩
  rw [← hm] at hr0 hlb hlg ⊢
  have HM := Lib.hid hm
  clear hm
  have hc0 := fun i => cell_blk hr0 i
  go_region_held3 (fun w' => (∃ ka, At w' b s ka ∧ (ka = k ∨ ka = k0)) ∧ (∃ kr, RAt w' g s kr ∧ (kr = k ∨ kr = k0)) ∧ (∀ i, w'.cell? ⟨m, i, none⟩ = (#[.int .u8 (what : Int), .int .i64 an] : Array Value)[i]?) ∧ Chg (fun i => i = b ∨ i = g) W0 w')
    (first
      | exact ⟨⟨k, HA.out.nob (Chg.refl Nob W0).drew, .inl rfl⟩, ⟨k, HR.out.nob (Chg.refl Nob W0).drew, .inl rfl⟩, hc0, (Chg.refl _ W0).drew⟩
      | exact (by
          obtain ⟨_, ⟨kr, h2, h3⟩, _, h4⟩ := ‹(∃ ka, At _ b s ka ∧ (ka = k ∨ ka = k0)) ∧ _›
          have hD := h4.trans (hCA.mono (fun i _ h => Or.inl h))
          exact ⟨⟨k0, hA, .inr rfl⟩, ⟨kr, h2.chg hCA (fun e => hbg (show g = b from e).symm), h3⟩, fun i => cell_blk (hD.heap hr0 (fun e => by rcases e with e | e <;> omega)) i, hD⟩)
      | exact (by
          obtain ⟨⟨kr, h2, h3⟩, _, _, h4⟩ := ‹(∃ ka, At _ b s ka ∧ (ka = k ∨ ka = k0)) ∧ _›
          have hD := h4.trans (hCR.mono (fun i _ h => Or.inr h))
          exact ⟨⟨kr, h2.chg hCR (fun e => hbg (show b = g from e)), h3⟩, ⟨k0, hR, .inr rfl⟩, fun i => cell_blk (hD.heap hr0 (fun e => by rcases e with e | e <;> omega)) i, hD⟩)
      | go_keep)
    (first
      | (go_at_call 12; obtain ⟨⟨kp, hp1, hp2⟩, _⟩ := ‹(∃ ka, At _ b s ka ∧ (ka = k ∨ ka = k0)) ∧ _›; refine (H1.out _ b _ hp1 hp2).mono ?_; rintro e w' ⟨rfl, hA, hCA⟩)
      | (go_at_call 31; obtain ⟨_, ⟨kp, hp1, hp2⟩, _⟩ := ‹(∃ ka, At _ b s ka ∧ (ka = k ∨ ka = k0)) ∧ _›; refine (H2.out _ g _ hp1 hp2).mono ?_; rintro e w' ⟨rfl, hR, hCR⟩))
  all_goals
    obtain ⟨_, _, _, hE⟩ := ‹(∃ ka, At _ b s ka ∧ (ka = k ∨ ka = k0)) ∧ _›
    have hfin : At w' b s k0 ∧ RAt w' g s k0 := by
      first
        | exact ⟨hA.chg hCR (fun e => hbg (show b = g from e)), hR⟩
        | exact ⟨hA, hR.chg hCA (fun e => hbg (show g = b from e).symm)⟩
    have hDD := hC0.trans hE
  all_goals
    go_wp2_with fail
    go_ret
    exact ⟨rfl, _, hfin.1, hfin.2, hDD⟩
end Go.Proofs.YtnbehagdionhmaaDoor.Cur
