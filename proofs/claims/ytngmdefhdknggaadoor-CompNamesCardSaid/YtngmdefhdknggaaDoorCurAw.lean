/- hustingslaw02.awake, walked; Seek; string(b). -/
import Derived.Test.YtngmdefhdknggaaDoorCurB
import Derived.Test.YtngmdefhdknggaaDoorPutsB
import Derived.Laws.IdiomStrings
import Derived.Lib.BufferRead
namespace Go.Proofs.YtngmdefhdknggaaDoor.Cur
open Go.RowKit Go.Proofs.YtngmdefhdknggaaDoor.Put

theorem conv_bytes {w : World} {v : Value} {l : List UInt8} (h : BytesAt w v l) : (convert 33 9 v).run Tryd.prog w = .ok (.string ⟨l.toArray⟩) w := by
  obtain ⟨a, c, rfl, _, h⟩ := h
  rcases a with _ | a
  · have hl : l = [] := by
      rcases h with h | ⟨b, off, e, _⟩
      · exact h
      · cases e
    subst hl
    exact Lib.run_convert_nil_bytes w 33 9 5 c Tryd.underlying33 Tryd.underlying5 Tryd.underlying9
  · refine run_convert_bytes_back w 33 9 5 a c l Tryd.underlying33 Tryd.underlying5 Tryd.underlying9 (fun j hj => ?_)
    rcases h with h | ⟨b, off, e, _, h⟩
    · subst h
      cases hj
    · injection e with e
      subst e
      rw [show ((⟨b, off, none⟩ : Addr).add j) = ⟨b, off + j, none⟩ by unfold Addr.add; split <;> simp_all]
      exact h j _ (List.getElem?_eq_getElem hj)

theorem seek_ok (w : World) (b : Nat) (s : ByteArray) (k j : Nat) (h : At w b s k) (hj : j ≤ s.size) :
    Calls Tryd.prog 40 #[.pointer (some ⟨b, 0, none⟩), .int .i64 (j : Int)] w fun e w' => e = .returned (.int .i64 0) ∧ At w' b s j ∧ Chg (Only b) w w' := by
  have h0 := h.c0
  have h1 := h.c1
  have z1 := h.z1
  have hm := h.max
  have g0 : (0 : Int) ≤ (j : Int) := by omega
  have g1 : (j : Int) ≤ (s.size : Int) := by omega
  go_enter Tryd.func40, Tryd.ntmps40
  go_wp2_with fail
  go_ret
  exact ⟨rfl, h.move j hj, h.moved _⟩
theorem seek_no (w : World) (b : Nat) (s : ByteArray) (k : Nat) (j : Int) (h : At w b s k) (hj : j < 0 ∨ (s.size : Int) < j) :
    Calls Tryd.prog 40 #[.pointer (some ⟨b, 0, none⟩), .int .i64 j] w fun e w' => e = .returned (.int .i64 1) ∧ w = w' := by
  have h0 := h.c0
  by_cases hneg : j < 0
  · go_enter Tryd.func40, Tryd.ntmps40
    go_wp2_with fail
    go_ret
    exact ⟨rfl, rfl⟩
  · have g1 : (s.size : Int) < j := by omega
    clear hj
    go_enter Tryd.func40, Tryd.ntmps40
    go_wp2_with fail
    go_ret
    exact ⟨rfl, rfl⟩

/-- The text of the examples. -/
def sA : ByteArray := ⟨#[1, 2, 3, 4, 5]⟩

end Go.Proofs.YtngmdefhdknggaaDoor.Cur
