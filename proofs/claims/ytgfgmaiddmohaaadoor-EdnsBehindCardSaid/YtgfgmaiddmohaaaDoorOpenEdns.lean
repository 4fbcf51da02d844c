/- An argument of type api.Edns, opened. -/
import Derived.Test.YtgfgmaiddmohaaaDoorEdW
import Derived.Test.YtgfgmaiddmohaaaDoorLift
namespace Go.Proofs.YtgfgmaiddmohaaaDoor
open Go.ChangeShapes Go.WideShapes Go.ChangeAt Go.RowKit

section
variable {H : Type} {enc : TypeId × Value → H} {W : World} {base : Nat}

set_option maxRecDepth 100000 in
theorem open_opts_cell {fuel : Nat} {c : Value} {x : DataW H × List MemPlace} {held : Bool} (h : DataW.trod enc Tryd.prog W base (fun _ => true) held fuel 53 [c] = some x) : ∃ l, Ed.OptsAt W c l := by
  have hc2 : Tryd.prog.cellsOf 61 = 2 := by kernel_rfl
  rcases elems_of_cells Tryd.underlying53 (by omega) h with rfl | ⟨a, len, cap, rfl, hl, hm, ha, n, hi⟩
  · exact ⟨[], Ed.OptsAt.nil W none 0⟩
  · rw [hc2] at hi
    have key : ∀ i, i < len → ∃ o : Ed.Opt, o.Ok ∧ W.cell? ⟨a.block, a.off + i * 2, none⟩ = some (.int .u16 (o.code : Int)) ∧ W.cell? ⟨a.block, a.off + i * 2 + 1, none⟩ = some (.string o.data) := by
      intro i hil
      obtain ⟨cs, y, hlen, hcell, ht⟩ := hi i hil
      obtain ⟨_, m, hf⟩ := fields_of_trod Tryd.underlying61 (by kernel_rfl) (by kernel_rfl) ht
      obtain ⟨c0, y0, e0, h0⟩ := hf 0 _ rfl
      obtain ⟨c1, y1, e1, h1⟩ := hf 1 _ rfl
      obtain ⟨x0, hx0, _, wf0⟩ := DataW.trod_int Tryd.underlying22 h0
      obtain ⟨s1, hx1, _, ws1⟩ := DataW.trod_string Tryd.underlying9 h1
      injection hx0 with hx0; injection hx1 with hx1
      subst hx0; subst hx1
      have k0 := hcell 0 (by omega); have k1 := hcell 1 (by omega)
      rw [e0] at k0; rw [e1] at k1
      simp [Lit.wf, IntKind.min, IntKind.max, IntKind.signed, IntKind.bits] at wf0
      obtain ⟨z, rfl⟩ := Int.eq_ofNat_of_zero_le wf0.1
      unfold maxLen at ws1
      exact ⟨⟨z, s1⟩, ⟨by simp only; omega, by simp only; omega⟩, by simpa using k0, by simpa [Nat.add_assoc] using k1⟩
    refine ⟨(List.range len).map (fun i => if h : i < len then (key i h).choose else ⟨0, ByteArray.empty⟩), some a, cap, by simp, by simp; unfold maxLen at hm; omega, ?_, ?_⟩
    · intro x hx
      simp at hx
      obtain ⟨i, hil, rfl⟩ := hx
      simp [hil]
      exact (key i hil).choose_spec.1
    by_cases h0 : 0 < len
    · refine .inr ⟨a.block, a.off, by rw [← ha h0], ?_, fun i x hx => ?_⟩
      · exact World.block_lt_of_cell? _ ⟨a.block, a.off + 0 * 2, none⟩ (key 0 h0).choose_spec.2.1
      obtain ⟨hil, e⟩ := List.getElem?_eq_some_iff.1 hx
      have hil' : i < len := by simpa using hil
      simp [hil'] at e
      rw [← e]
      exact (key i hil').choose_spec.2
    · have : len = 0 := by omega
      subst this
      exact .inl rfl

set_option maxRecDepth 100000 in
theorem open_edns {b0 : Nat} {r : Reach} {v : Value} {d : DataW H} {ps : List MemPlace} {held : Bool} (hval : Value.okWide Tryd.prog W r b0 55 v) (hd : DataW.Trod enc Tryd.prog W base (fun _ => true) held 55 v d ps) :
    ∃ (x : Ed.E) (u : Value), v = .agg #[.int .u16 (x.size : Int), .int .u8 (x.ext : Int), .int .u8 (x.ver : Int), .int .u16 (x.flags : Int), u] ∧ x.Ok ∧ Ed.OptsAt W u x.opts := by
  have ht : Tryd.prog.underlying 55 = some (.struct (Tryd.prog.fieldsOf 55)) := by kernel_rfl
  simp only [Value.okWide, ht] at hval
  obtain ⟨cs, rfl, _, _⟩ := hval
  obtain ⟨fuel, hf0⟩ := hd
  obtain ⟨hlen, m, hf⟩ := fields_of_trod Tryd.underlying55 (by kernel_rfl) (by kernel_rfl) hf0
  obtain ⟨c0, y0, e0, h0⟩ := hf 0 _ rfl
  obtain ⟨c1, y1, e1, h1⟩ := hf 1 _ rfl
  obtain ⟨c2, y2, e2, h2⟩ := hf 2 _ rfl
  obtain ⟨c3, y3, e3, h3⟩ := hf 3 _ rfl
  obtain ⟨c4, y4, e4, h4⟩ := hf 4 _ rfl
  obtain ⟨x0, hx0, _, wf0⟩ := DataW.trod_int Tryd.underlying22 h0
  obtain ⟨x1, hx1, _, wf1⟩ := DataW.trod_int Tryd.underlying5 h1
  obtain ⟨x2, hx2, _, wf2⟩ := DataW.trod_int Tryd.underlying5 h2
  obtain ⟨x3, hx3, _, wf3⟩ := DataW.trod_int Tryd.underlying22 h3
  obtain ⟨l, hl⟩ := open_opts_cell h4
  injection hx0 with hx0; injection hx1 with hx1; injection hx2 with hx2; injection hx3 with hx3
  subst hx0; subst hx1; subst hx2; subst hx3
  simp [Lit.wf, IntKind.min, IntKind.max, IntKind.signed, IntKind.bits] at wf0 wf1 wf2 wf3
  obtain ⟨z0, rfl⟩ := Int.eq_ofNat_of_zero_le wf0.1
  obtain ⟨z1, rfl⟩ := Int.eq_ofNat_of_zero_le wf1.1
  obtain ⟨z2, rfl⟩ := Int.eq_ofNat_of_zero_le wf2.1
  obtain ⟨z3, rfl⟩ := Int.eq_ofNat_of_zero_le wf3.1
  have hlen2 : cs.size = 5 := by simpa [Value.cells] using hlen
  simp only [Value.cells, Array.getElem?_toList] at e0 e1 e2 e3 e4
  refine ⟨⟨z0, z1, z2, z3, l⟩, c4, congrArg Value.agg (Array.ext_getElem? fun i => ?_), ⟨by simp only; omega, by simp only; omega, by simp only; omega, by simp only; omega⟩, hl⟩
  match i with
  | 0 => rw [e0]; rfl
  | 1 => rw [e1]; rfl
  | 2 => rw [e2]; rfl
  | 3 => rw [e3]; rfl
  | 4 => rw [e4]; rfl
  | i + 5 => rw [Array.getElem?_eq_none (by omega), Array.getElem?_eq_none (by simp)]
end
end Go.Proofs.YtgfgmaiddmohaaaDoor
