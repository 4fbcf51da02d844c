/- The arguments of package hustingslaw22's statements, opened: a row of ints, a row of turns, the statements' own plan. -/
import Derived.Test.YtbpbhccgnfakiaaHgWalkE
import Derived.Test.YtbpbhccgnfakiaaLift
namespace Go.Proofs.Ytbpbhccgnfakiaa.Hg

structure Turn where
  ticks : Int
  shut : Int
  more : Bool

def Turn.Ok (x : Turn) : Prop := (0 ≤ x.ticks ∧ x.ticks ≤ 255) ∧ 0 ≤ x.shut ∧ x.shut ≤ 255

/-- A slice of turns reads as a list. -/
def TurnsAt (w : World) (v : Value) (l : List Turn) : Prop :=
  ∃ a c, v = .slice a l.length c ∧ l.length ≤ 9223372036854775807 ∧ (∀ x ∈ l, x.Ok) ∧ (l = [] ∨ ∃ b off, a = some ⟨b, off, none⟩ ∧ b < w.heap.size ∧ ∀ i x, l[i]? = some x → w.cell? ⟨b, off + i * 3, none⟩ = some (.int .u8 x.ticks) ∧ w.cell? ⟨b, off + i * 3 + 1, none⟩ = some (.int .u8 x.shut) ∧ w.cell? ⟨b, off + i * 3 + 2, none⟩ = some (.bool x.more))

end Go.Proofs.Ytbpbhccgnfakiaa.Hg
namespace Go.Proofs.Ytbpbhccgnfakiaa
open Go.ChangeShapes Go.WideShapes Go.ChangeAt Go.RowKit

section
variable {H : Type} {enc : TypeId × Value → H} {W : World} {base : Nat}

/-- A cell of type []int. -/
theorem open_ints_at {fuel : Nat} {c : Value} {x : DataW H × List MemPlace} (h : DataW.trod enc Try.prog W base (fun _ => true) true fuel 22 [c] = some x) :
    ∃ R, Hg.IntsAt W c R ∧ R.length ≤ 9223372036854775807 := by
  have hc1 : Try.prog.cellsOf 3 = 1 := by kernel_rfl
  rcases elems_of_cells Try.underlying22 (by omega) h with rfl | ⟨a, len, cap, rfl, hl, hm, ha, n, hi⟩
  · exact ⟨[], ⟨_, _, rfl, Nat.le_refl _, .inl rfl⟩, by simp⟩
  · rw [hc1] at hi
    have key : ∀ i, i < len → ∃ x, W.cell? ⟨a.block, a.off + i, none⟩ = some (.int .i64 x) := by
      intro i hil
      obtain ⟨cs, y, hlen, hcell, ht⟩ := hi i hil
      obtain ⟨x, rfl, _, _⟩ := DataW.trod_int Try.underlying3 ht
      exact ⟨x, by simpa using hcell 0 (by omega)⟩
    refine ⟨(List.range len).map (fun i => if h : i < len then (key i h).choose else 0), ⟨some a, cap, by simp, by simpa using hl, ?_⟩, by simp; unfold maxLen at hm; omega⟩
    by_cases h0 : 0 < len
    · refine .inr ⟨a.block, a.off, by rw [← ha h0], fun i x hx => ?_⟩
      obtain ⟨hil, e⟩ := List.getElem?_eq_some_iff.1 hx
      have hil' : i < len := by simpa using hil
      simp [hil'] at e
      rw [← e]
      exact (key i hil').choose_spec
    · have : len = 0 := by omega
      subst this
      exact .inl rfl

/-- An argument of type []Turn. -/
theorem open_turns_at {b0 : Nat} {r : Reach} {v : Value} {d : DataW H} {ps : List MemPlace} (hv : Value.okWide Try.prog W r b0 34 v) (h : DataW.Trod enc Try.prog W base (fun _ => true) true 34 v d ps) :
    ∃ R, Hg.TurnsAt W v R := by
  have hc3 : Try.prog.cellsOf 38 = 3 := by kernel_rfl
  rcases elems_of_trod Try.underlying34 (by omega) (okWide_slice Try.underlying34 hv) h with rfl | ⟨a, len, cap, rfl, hl, hm, ha, n, hi⟩
  · exact ⟨[], _, _, rfl, by simp, by simp, .inl rfl⟩
  · rw [hc3] at hi
    have key : ∀ i, i < len → ∃ x : Hg.Turn, x.Ok ∧ W.cell? ⟨a.block, a.off + i * 3, none⟩ = some (.int .u8 x.ticks) ∧ W.cell? ⟨a.block, a.off + i * 3 + 1, none⟩ = some (.int .u8 x.shut) ∧ W.cell? ⟨a.block, a.off + i * 3 + 2, none⟩ = some (.bool x.more) := by
      intro i hil
      obtain ⟨cs, y, hlen, hcell, ht⟩ := hi i hil
      obtain ⟨_, m, hf⟩ := fields_of_trod Try.underlying38 (by kernel_rfl) (by kernel_rfl) ht
      obtain ⟨c0, y0, e0, h0⟩ := hf 0 _ rfl
      obtain ⟨c1, y1, e1, h1⟩ := hf 1 _ rfl
      obtain ⟨c2, y2, e2, h2⟩ := hf 2 _ rfl
      obtain ⟨x0, hx0, _, wf0⟩ := DataW.trod_int Try.underlying5 h0
      obtain ⟨x1, hx1, _, wf1⟩ := DataW.trod_int Try.underlying5 h1
      obtain ⟨x2, hx2, _⟩ := DataW.trod_bool Try.underlying4 h2
      injection hx0 with hx0; injection hx1 with hx1; injection hx2 with hx2
      subst hx0; subst hx1; subst hx2
      have k0 := hcell 0 (by omega); have k1 := hcell 1 (by omega); have k2 := hcell 2 (by omega)
      rw [e0] at k0; rw [e1] at k1; rw [e2] at k2
      refine ⟨⟨x0, x1, x2⟩, ?_, by simpa using k0, by simpa [Nat.add_assoc] using k1, by simpa [Nat.add_assoc] using k2⟩
      simp [Lit.wf, IntKind.min, IntKind.max, IntKind.signed, IntKind.bits] at wf0 wf1
      unfold Hg.Turn.Ok
      simp only
      omega
    refine ⟨(List.range len).map (fun i => if h : i < len then (key i h).choose else ⟨0, 0, false⟩), some a, cap, by simp, by simp; unfold maxLen at hm; omega, ?_, ?_⟩
    · intro x hx
      simp at hx
      obtain ⟨i, hil, rfl⟩ := hx
      simp [hil]
      exact (key i hil).choose_spec.1
    by_cases h0 : 0 < len
    · refine .inr ⟨a.block, a.off, by rw [← ha h0], ?_, fun i x hx => ?_⟩
      · exact World.block_lt_of_cell? _ ⟨a.block, a.off + 0 * 3, none⟩ (key 0 h0).choose_spec.2.1
      obtain ⟨hil, e⟩ := List.getElem?_eq_some_iff.1 hx
      have hil' : i < len := by simpa using hil
      simp [hil'] at e
      rw [← e]
      exact (key i hil').choose_spec.2
    · have : len = 0 := by omega
      subst this
      exact .inl rfl

/-- An argument of the law's own plan. -/
theorem open_law_plan {b0 : Nat} {r : Reach} {v : Value} {d : DataW H} {ps : List MemPlace} (hv : Value.okWide Try.prog W r b0 24 v) (h : DataW.Trod enc Try.prog W base (fun _ => true) true 24 v d ps) :
    ∃ rv R x1 x2 x3 x4 x5, v = .agg #[rv, .int .i64 x1, .int .i64 x2, .int .i64 x3, .int .i64 x4, .int .i64 x5] ∧ Hg.IntsAt W rv R ∧ R.length ≤ 9223372036854775807 := by
  obtain ⟨cs, rfl, hsz⟩ := okWide_struct Try.underlying24 hv
  obtain ⟨fuel, ht⟩ := h
  obtain ⟨hlen, m, hf⟩ := fields_of_trod Try.underlying24 (by kernel_rfl) (by kernel_rfl) ht
  obtain ⟨c0, y0, e0, h0⟩ := hf 0 _ rfl
  obtain ⟨c1, y1, e1, h1⟩ := hf 1 _ rfl
  obtain ⟨c2, y2, e2, h2⟩ := hf 2 _ rfl
  obtain ⟨c3, y3, e3, h3⟩ := hf 3 _ rfl
  obtain ⟨c4, y4, e4, h4⟩ := hf 4 _ rfl
  obtain ⟨c5, y5, e5, h5⟩ := hf 5 _ rfl
  obtain ⟨x1, hx1, _⟩ := DataW.trod_int Try.underlying3 h1
  obtain ⟨x2, hx2, _⟩ := DataW.trod_int Try.underlying3 h2
  obtain ⟨x3, hx3, _⟩ := DataW.trod_int Try.underlying3 h3
  obtain ⟨x4, hx4, _⟩ := DataW.trod_int Try.underlying3 h4
  obtain ⟨x5, hx5, _⟩ := DataW.trod_int Try.underlying2 h5
  injection hx1 with hx1; injection hx2 with hx2; injection hx3 with hx3; injection hx4 with hx4; injection hx5 with hx5
  subst hx1; subst hx2; subst hx3; subst hx4; subst hx5
  obtain ⟨R, hR, hRl⟩ := open_ints_at h0
  refine ⟨c0, R, x1, x2, x3, x4, x5, ?_, hR, hRl⟩
  congr 1
  apply Array.ext'
  apply List.ext_getElem?
  intro i
  simp [Value.cells] at e0 e1 e2 e3 e4 e5 hlen
  match i with
  | 0 => simpa using e0
  | 1 => simpa using e1
  | 2 => simpa using e2
  | 3 => simpa using e3
  | 4 => simpa using e4
  | 5 => simpa using e5
  | i + 6 => simp; omega
end
end Go.Proofs.Ytbpbhccgnfakiaa
