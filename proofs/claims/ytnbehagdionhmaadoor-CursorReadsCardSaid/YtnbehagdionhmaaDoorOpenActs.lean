/- An argument of type []hustingslaw02.Act, opened. -/
import Derived.Test.YtnbehagdionhmaaDoorCurStep
import Derived.Test.YtnbehagdionhmaaDoorLift
namespace Go.Proofs.YtnbehagdionhmaaDoor
open Go.ChangeShapes Go.WideShapes Go.ChangeAt Go.RowKit

section
variable {H : Type} {enc : TypeId × Value → H} {W : World} {base : Nat}

set_option maxRecDepth 100000 in
theorem open_acts_at {b0 : Nat} {r : Reach} {v : Value} {d : DataW H} {ps : List MemPlace} (hv : Value.okWide Tryd.prog W r b0 47 v) (h : DataW.Trod enc Tryd.prog W base (fun _ => true) true 47 v d ps) :
    ∃ R, Cur.ActsAt W v R := by
  have hc2 : Tryd.prog.cellsOf 53 = 2 := by kernel_rfl
  rcases elems_of_trod Tryd.underlying47 (by omega) (okWide_slice Tryd.underlying47 hv) h with rfl | ⟨a, len, cap, rfl, hl, hm, ha, n, hi⟩
  · exact ⟨[], _, _, rfl, by simp, by simp, .inl rfl⟩
  · rw [hc2] at hi
    have key : ∀ i, i < len → ∃ x : Cur.Act, (x.what < 256 ∧ -9223372036854775808 ≤ x.n ∧ x.n ≤ 9223372036854775807) ∧ W.cell? ⟨a.block, a.off + i * 2, none⟩ = some (.int .u8 (x.what : Int)) ∧ W.cell? ⟨a.block, a.off + i * 2 + 1, none⟩ = some (.int .i64 x.n) := by
      intro i hil
      obtain ⟨cs, y, hlen, hcell, ht⟩ := hi i hil
      obtain ⟨_, m, hf⟩ := fields_of_trod Tryd.underlying53 (by kernel_rfl) (by kernel_rfl) ht
      obtain ⟨c0, y0, e0, h0⟩ := hf 0 _ rfl
      obtain ⟨c1, y1, e1, h1⟩ := hf 1 _ rfl
      obtain ⟨x0, hx0, _, wf0⟩ := DataW.trod_int Tryd.underlying5 h0
      obtain ⟨x1, hx1, _, wf1⟩ := DataW.trod_int Tryd.underlying3 h1
      injection hx0 with hx0; injection hx1 with hx1
      subst hx0; subst hx1
      have k0 := hcell 0 (by omega); have k1 := hcell 1 (by omega)
      rw [e0] at k0; rw [e1] at k1
      simp [Lit.wf, IntKind.min, IntKind.max, IntKind.signed, IntKind.bits] at wf0 wf1
      obtain ⟨z, rfl⟩ := Int.eq_ofNat_of_zero_le wf0.1
      exact ⟨⟨z, x1⟩, by simp only; omega, by simpa using k0, by simpa [Nat.add_assoc] using k1⟩
    refine ⟨(List.range len).map (fun i => if h : i < len then (key i h).choose else ⟨0, 0⟩), some a, cap, by simp, by simp; unfold maxLen at hm; omega, ?_, ?_⟩
    · intro x hx
      simp at hx
      obtain ⟨i, hil, rfl⟩ := hx
      simp [hil]
      exact (key i hil).choose_spec.1
    by_cases h0 : 0 < len
    · refine .inr ⟨a.block, a.off, by rw [← ha h0], ?_, fun i x hx => ?_⟩
      · exact World.block_lt_of_cell? _ ⟨a.block, a.off + 0 * 2, none⟩ (key 0 h0).choose_spec.2.1
      obtain ⟨hil, e⟩ := List.getElem?_eq_some_iff.1 hx
      have hil' : i < len := by simpa using hil
      simp [hil'] at e
      rw [← e]
      exact (key i hil').choose_spec.2
    · have : len = 0 := by omega
      subst this
      exact .inl rfl
end
end Go.Proofs.YtnbehagdionhmaaDoor
