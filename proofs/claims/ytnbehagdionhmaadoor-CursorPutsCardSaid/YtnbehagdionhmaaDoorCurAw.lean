/- hustingslaw02.awake, walked; Seek; string(b). -/
import Derived.Test.YtnbehagdionhmaaDoorCurB
import Derived.Test.YtnbehagdionhmaaDoorPutsB
import Derived.Laws.IdiomStrings
import Derived.Lib.BufferRead
namespace Go.Proofs.YtnbehagdionhmaaDoor.Cur
open Go.RowKit Go.Proofs.YtnbehagdionhmaaDoor.Put

theorem conv_bytes {w : World} {v : Value} {l : List UInt8} (h : BytesAt w v l) : (convert 39 9 v).run Tryd.prog w = .ok (.string ⟨l.toArray⟩) w := by
  obtain ⟨a, c, rfl, _, h⟩ := h
  rcases a with _ | a
  · have hl : l = [] := by
      rcases h with h | ⟨b, off, e, _⟩
      · exact h
      · cases e
    subst hl
    exact Lib.run_convert_nil_bytes w 39 9 5 c Tryd.underlying39 Tryd.underlying5 Tryd.underlying9
  · refine run_convert_bytes_back w 39 9 5 a c l Tryd.underlying39 Tryd.underlying5 Tryd.underlying9 (fun j hj => ?_)
    rcases h with h | ⟨b, off, e, _, h⟩
    · subst h
      cases hj
    · injection e with e
      subst e
      rw [show ((⟨b, off, none⟩ : Addr).add j) = ⟨b, off + j, none⟩ by unfold Addr.add; split <;> simp_all]
      exact h j _ (List.getElem?_eq_getElem hj)

theorem seek_ok (w : World) (b : Nat) (s : ByteArray) (k j : Nat) (h : At w b s k) (hj : j ≤ s.size) :
    Calls Tryd.prog 12 #[.pointer (some ⟨b, 0, none⟩), .int .i64 (j : Int)] w fun e w' => e = .returned (.int .i64 0) ∧ At w' b s j ∧ Chg (Only b) w w' := by
  have h0 := h.c0
  have h1 := h.c1
  have z1 := h.z1
  have hm := h.max
  have g0 : (0 : Int) ≤ (j : Int) := by omega
  have g1 : (j : Int) ≤ (s.size : Int) := by omega
  go_enter Tryd.func12, Tryd.ntmps12
  go_wp2_with fail
  go_ret
  exact ⟨rfl, h.move j hj, h.moved _⟩
theorem seek_no (w : World) (b : Nat) (s : ByteArray) (k : Nat) (j : Int) (h : At w b s k) (hj : j < 0 ∨ (s.size : Int) < j) :
    Calls Tryd.prog 12 #[.pointer (some ⟨b, 0, none⟩), .int .i64 j] w fun e w' => e = .returned (.int .i64 1) ∧ w = w' := by
  have h0 := h.c0
  by_cases hneg : j < 0
  · go_enter Tryd.func12, Tryd.ntmps12
    go_wp2_with fail
    go_ret
    exact ⟨rfl, rfl⟩
  · have g1 : (s.size : Int) < j := by omega
    clear hj
    go_enter Tryd.func12, Tryd.ntmps12
    go_wp2_with fail
    go_ret
    exact ⟨rfl, rfl⟩

/-- The text of the examples. -/
def sA : ByteArray := ⟨#[1, 2, 3, 4, 5]⟩

set_option maxRecDepth 100000 in
set_option maxHeartbeats 4000000 in
theorem awake_any (w : World) (hg : As.Laid w) : Calls Tryd.prog 10 #[] w fun e w' => e = .returned (.bool true) ∧ Chg Nob w w' := by
  have HG := Lib.hid hg
  clear hg
  go_enter Tryd.func10, Tryd.ntmps10
  go_wp2_with fail
  refine (new_any sA w (by decide)).mono ?_
  rintro e w1 ⟨b, rfl, hb, hA1, hC1⟩
  go_wp2_with fail
  refine (byte_ok w1 b sA 0 hA1 (by decide)).mono ?_
  rintro e w2 ⟨rfl, hA2, hC2⟩
  rw [show (be sA 0 1 : Int) = 1 by decide]
  go_wp2_with fail
  refine (two_ok w2 b sA (0 + 1) hA2 (by decide)).mono ?_
  rintro e w3 ⟨rfl, hA3, hC3⟩
  rw [show (be sA (0 + 1) 2 : Int) = 515 by decide]
  go_wp2_with fail
  refine (left_any w3 b sA (0 + 1 + 2) hA3).mono ?_
  rintro e w4 ⟨rfl, n4, rfl⟩
  rw [show ((sA.size : Int) - ((0 + 1 + 2 : Nat) : Int)) = 2 by decide]
  have hC4 : Chg Nob w (w3.drewN n4) := ((hC1.trans' (hC2.trans hC3) (fun i hi => .inr (by have e2 : i = b := hi; omega)))).drewN _
  have hA4 := hA3.nob ((Chg.refl Nob w3).drewN n4)
  clear hC1 hC2 hC3 hA1 hA2 hA3
  go_wp2_with fail
  refine (four_no _ b sA (0 + 1 + 2) (HG.out.nob hC4) hA4 (by decide)).mono ?_
  rintro e w5 ⟨rfl, hC5⟩
  have hA5 := hA4.nob hC5
  have hD5 := hC4.trans hC5
  clear hC4 hA4 hC5
  go_wp2_with fail
  refine (take_ok w5 b sA (0 + 1 + 2) 2 hA5 (by decide)).mono ?_
  rintro e w6 ⟨rfl, hA6, hC6⟩
  rw [show sA.extract (0 + 1 + 2) (0 + 1 + 2 + 2) = ⟨#[4, 5]⟩ by rfl]
  have hD6 := hD5.trans' hC6 (fun i hi => .inr (by have e2 : i = b := hi; omega))
  clear hD5 hA5 hC6
  go_wp2_with fail
  refine (byte_no w6 b sA (0 + 1 + 2 + 2) (HG.out.nob hD6) hA6 (by decide)).mono ?_
  rintro e w7 ⟨rfl, hC7⟩
  have hA7 := hA6.nob hC7
  have hD7 := hD6.trans hC7
  clear hD6 hA6 hC7
  go_wp2_with fail
  refine (seek_ok w7 b sA _ 5 hA7 (by decide)).mono ?_
  rintro e w8 ⟨rfl, hA8, hC8⟩
  have hD8 := hD7.trans' hC8 (fun i hi => .inr (by have e2 : i = b := hi; omega))
  clear hD7 hA7 hC8
  go_wp2_with fail
  refine (seek_no w8 b sA 5 6 hA8 (.inr (by decide))).mono ?_
  rintro e w9 ⟨rfl, rfl⟩
  go_wp2_with fail
  refine (put2_any _ [] 258 w8 (by decide) (BytesAt.nil w8) (by decide)).mono ?_
  rintro e w9 ⟨v, rfl, hown, hC9⟩
  have hB9 := BytesAt.of_own hown
  have hD9 := hD8.trans hC9
  clear hown hC9 hD8 hA8
  go_wp2_with fail
  refine (put4_any v ([] ++ two 258) 1 w9 (by decide) hB9 (by decide)).mono ?_
  rintro e w10 ⟨v2, rfl, hown, hC10⟩
  have hcv := conv_bytes (BytesAt.of_own hown)
  rw [show ([] ++ two 258 ++ four 1) = [1, 2, 0, 0, 0, 1] by decide] at hcv
  have hD10 := hD9.trans hC10
  clear hown hC10 hD9 hB9
  go_wp2_with fail
  go_ret
  exact ⟨rfl, hD10⟩
end Go.Proofs.YtnbehagdionhmaaDoor.Cur
