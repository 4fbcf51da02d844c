/- make([]byte, n): bytes of nought, of the call's own. -/
import Derived.Test.YtngmdefhdknggaaDoorPut
import Derived.Laws.OwnMore
namespace Go.Proofs.YtngmdefhdknggaaDoor.Put
open Go.RowKit

theorem make_bytes (n : Nat) (w : World) (hn : n ≤ 281474976710656) (kl kc : IntKind) :
    ∃ w', (Instr.makeSlice 33 (.int kl (n : Int)) (.int kc (n : Int))).run Tryd.prog w = .ok (.slice (some ⟨w.heap.size, 0, none⟩) n n) w' ∧ w'.ownsRow w.heap.size 5 1 (.slice (some ⟨w.heap.size, 0, none⟩) n n) n (bytesV (List.replicate n 0)) ∧ BytesAt w' (.slice (some ⟨w.heap.size, 0, none⟩) n n) (List.replicate n 0) ∧ Chg Nob w w' := by
  obtain ⟨i0, hi, hz0, hz1, hz2⟩ := info_parts infoU8
  obtain ⟨w', hr, hown, hg⟩ := run_make_full (P := Tryd.prog) w w.heap.size 33 5 i0 (.int .u8 0) 1 Tryd.underlying33 hi hz0 hz1 kl kc n (by rw [hz2]; omega) (by unfold maxLen; omega) (Nat.le_refl _)
  have e : (madeCells (Value.int .u8 0).cells (n * 1)).toList = bytesV (List.replicate n 0) := by
    rw [Nat.mul_one, show (Value.int .u8 0).cells = #[.int .u8 0] from rfl, toList_madeCells_one]
    simp [bytesV]
  rw [e] at hown
  have hB : BytesAt w' (.slice (some ⟨w.heap.size, 0, none⟩) n n) (List.replicate n 0) := BytesAt.of_own (base := w.heap.size) (by rw [List.length_replicate]; exact hown)
  exact ⟨w', hr, hown, hB, (Chg.refl Nob w).grown hg (fun k hk => by cases hk)⟩
end Go.Proofs.YtngmdefhdknggaaDoor.Put
