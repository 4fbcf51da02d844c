/- Arguments of type []uint32 and []byte, opened. -/
import Derived.Test.YtnbehagdionhmaaDoorCurBackP
import Derived.Test.YtnbehagdionhmaaDoorLift
namespace Go.Proofs.YtnbehagdionhmaaDoor
open Go.ChangeShapes Go.WideShapes Go.ChangeAt Go.RowKit

section
variable {H : Type} {enc : TypeId × Value → H} {W : World} {base : Nat}

set_option maxRecDepth 100000 in
theorem open_nums_at {b0 : Nat} {r : Reach} {v : Value} {d : DataW H} {ps : List MemPlace} (hv : Value.okWide Tryd.prog W r b0 58 v) (h : DataW.Trod enc Tryd.prog W base (fun _ => true) true 58 v d ps) :
    ∃ R, Cur.NumsAt W v R := by
  have hc1 : Tryd.prog.cellsOf 28 = 1 := by kernel_rfl
  rcases elems_of_trod Tryd.underlying58 (by omega) (okWide_slice Tryd.underlying58 hv) h with rfl | ⟨a, len, cap, rfl, hl, hm, ha, n, hi⟩
  · exact ⟨[], _, _, rfl, by simp, by simp, .inl rfl⟩
  · rw [hc1] at hi
    have key : ∀ i, i < len → ∃ x : Nat, x < 4294967296 ∧ W.cell? ⟨a.block, a.off + i, none⟩ = some (.int .u32 (x : Int)) := by
      intro i hil
      obtain ⟨cs, y, hlen, hcell, ht⟩ := hi i hil
      obtain ⟨x, rfl, _, wf⟩ := DataW.trod_int Tryd.underlying28 ht
      simp [Lit.wf, IntKind.min, IntKind.max, IntKind.signed, IntKind.bits] at wf
      obtain ⟨m, rfl⟩ := Int.eq_ofNat_of_zero_le wf.1
      exact ⟨m, by omega, by simpa using hcell 0 (by omega)⟩
    refine ⟨(List.range len).map (fun i => if h : i < len then (key i h).choose else 0), some a, cap, by simp, by simp; unfold maxLen at hm; omega, ?_, ?_⟩
    · intro x hx
      simp at hx
      obtain ⟨i, hil, rfl⟩ := hx
      simp [hil]
      exact (key i hil).choose_spec.1
    by_cases h0 : 0 < len
    · refine .inr ⟨a.block, a.off, by rw [← ha h0], ?_, fun i x hx => ?_⟩
      · exact World.block_lt_of_cell? _ ⟨a.block, a.off + 0, none⟩ (key 0 h0).choose_spec.2
      obtain ⟨hil, e⟩ := List.getElem?_eq_some_iff.1 hx
      have hil' : i < len := by simpa using hil
      simp [hil'] at e
      rw [← e]
      exact (key i hil').choose_spec.2
    · have : len = 0 := by omega
      subst this
      exact .inl rfl

set_option maxRecDepth 100000 in
theorem open_bytes_at {b0 : Nat} {r : Reach} {v : Value} {d : DataW H} {ps : List MemPlace} (hv : Value.okWide Tryd.prog W r b0 39 v) (h : DataW.Trod enc Tryd.prog W base (fun _ => true) true 39 v d ps) :
    ∃ R : List UInt8, Put.BytesAt W v R ∧ R.length ≤ 9223372036854775807 := by
  have hc1 : Tryd.prog.cellsOf 5 = 1 := by kernel_rfl
  rcases elems_of_trod Tryd.underlying39 (by omega) (okWide_slice Tryd.underlying39 hv) h with rfl | ⟨a, len, cap, rfl, hl, hm, ha, n, hi⟩
  · exact ⟨[], Put.BytesAt.nil W, by simp⟩
  · rw [hc1] at hi
    have key : ∀ i, i < len → ∃ x : UInt8, W.cell? ⟨a.block, a.off + i, none⟩ = some (.int .u8 (x.toNat : Int)) := by
      intro i hil
      obtain ⟨cs, y, hlen, hcell, ht⟩ := hi i hil
      obtain ⟨x, rfl, _, wf⟩ := DataW.trod_int Tryd.underlying5 ht
      simp [Lit.wf, IntKind.min, IntKind.max, IntKind.signed, IntKind.bits] at wf
      obtain ⟨m, rfl⟩ := Int.eq_ofNat_of_zero_le wf.1
      refine ⟨UInt8.ofNat m, ?_⟩
      rw [UInt8.toNat_ofNat', Nat.mod_eq_of_lt (by omega)]
      simpa using hcell 0 (by omega)
    refine ⟨(List.range len).map (fun i => if h : i < len then (key i h).choose else 0), ⟨some a, cap, by simp, by simpa using hl, ?_⟩, by simp; unfold maxLen at hm; omega⟩
    by_cases h0 : 0 < len
    · refine .inr ⟨a.block, a.off, by rw [← ha h0], ?_, fun i x hx => ?_⟩
      · exact World.block_lt_of_cell? _ ⟨a.block, a.off + 0, none⟩ (key 0 h0).choose_spec
      obtain ⟨hil, e⟩ := List.getElem?_eq_some_iff.1 hx
      have hil' : i < len := by simpa using hil
      simp [hil'] at e
      rw [← e]
      exact (key i hil').choose_spec
    · have : len = 0 := by omega
      subst this
      exact .inl rfl
end
end Go.Proofs.YtnbehagdionhmaaDoor
