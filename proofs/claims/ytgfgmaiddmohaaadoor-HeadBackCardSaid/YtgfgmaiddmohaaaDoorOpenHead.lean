/- A header and its counts, as arguments: opened. -/
import Derived.Test.YtgfgmaiddmohaaaDoorDoorB
namespace Go.Proofs.YtgfgmaiddmohaaaDoor
open Go.ChangeShapes Go.WideShapes Go.ChangeAt Go.RowKit

theorem take1_get {l : List Value} {i : Nat} {v : Value} (h : (l.drop i).take 1 = [v]) : l[i]? = some v := by
  have h5 : ((l.drop i).take 1)[0]? = some v := by rw [h]; rfl
  rw [List.getElem?_take, if_pos (by omega), List.getElem?_drop] at h5
  simpa using h5

variable {H0 : Type} {enc : TypeId × Value → H0} {W : World} {base b0 : Nat} {sp : Nat → Bool} {held : Bool} {d : DataW H0} {ps : List MemPlace} {v : Value} {r : Reach}

set_option maxRecDepth 100000 in
theorem open_four (hval : Value.okWide Tryd.prog W r b0 25 v) (hd : DataW.Trod enc Tryd.prog W base sp held 25 v d ps) :
    ∃ x y z u : Int, v = .agg #[.int .i64 x, .int .i64 y, .int .i64 z, .int .i64 u] := by
  have ht : Tryd.prog.underlying 25 = some (.array 4 3) := by kernel_rfl
  have hc : Tryd.prog.cellsOf 3 = 1 := by kernel_rfl
  have hc4 : Tryd.prog.cellsOf 25 = 4 := by kernel_rfl
  simp only [Value.okWide, ht] at hval
  obtain ⟨cs, rfl, hsz, _⟩ := hval
  rw [hc4] at hsz
  obtain ⟨fuel, hf⟩ := hd
  obtain ⟨xs, m1, _, _, _, hn, hel⟩ := DataW.trod_array ht hf
  have key : ∀ i, i < 4 → ∃ k : Int, cs[i]? = some (.int .i64 k) := by
    intro i hi
    have h2 := hel i hi
    have hx : i < xs.length := by omega
    rw [hc, Nat.mul_one, List.getElem?_eq_getElem hx] at h2
    obtain ⟨k, e1, _, _⟩ := DataW.trod_int Tryd.underlying3 h2
    refine ⟨k, ?_⟩
    have := take1_get e1
    rwa [show (Value.agg cs).cells.toList = cs.toList from rfl, Array.getElem?_toList] at this
  obtain ⟨x, hx⟩ := key 0 (by omega)
  obtain ⟨y, hy⟩ := key 1 (by omega)
  obtain ⟨z, hz⟩ := key 2 (by omega)
  obtain ⟨u, hu⟩ := key 3 (by omega)
  refine ⟨x, y, z, u, congrArg Value.agg (Array.ext_getElem? fun i => ?_)⟩
  match i with
  | 0 => rw [hx]; rfl
  | 1 => rw [hy]; rfl
  | 2 => rw [hz]; rfl
  | 3 => rw [hu]; rfl
  | i + 4 => rw [Array.getElem?_eq_none (by omega), Array.getElem?_eq_none (by simp)]

set_option maxRecDepth 100000 in
theorem open_head (hval : Value.okWide Tryd.prog W r b0 24 v) (hd : DataW.Trod enc Tryd.prog W base sp held 24 v d ps) :
    ∃ h : Hd.H, v = .agg h.cells ∧ h.id < 65536 := by
  have ht : Tryd.prog.underlying 24 = some (.struct (Tryd.prog.fieldsOf 24)) := by kernel_rfl
  have hc : Tryd.prog.cellsOf 24 = 11 := by kernel_rfl
  simp only [Value.okWide, ht] at hval
  obtain ⟨cs, rfl, hsz, _⟩ := hval
  rw [hc] at hsz
  obtain ⟨fuel, hf⟩ := hd
  obtain ⟨xs, n, _, _, _, hn, hel⟩ := DataW.trod_struct ht hf
  have key : ∀ i T, ((Tryd.prog.fieldsOf 24)[i]?).map (fun f : Field => (f.type, f.offset)) = some (T, i) → Tryd.prog.cellsOf T = 1 → ∃ x, DataW.trod enc Tryd.prog W base sp held n T ((cs.toList.drop i).take 1) = some x := by
    intro i T h1 h2
    obtain ⟨f, hfi, hft⟩ := Option.map_eq_some_iff.1 h1
    injection hft with e1 e2
    have h3 := hel i f hfi
    have hi : i < xs.length := by
      rw [hn]
      exact (Array.getElem?_eq_some_iff.1 hfi).1
    rw [e1, e2, h2, List.getElem?_eq_getElem hi] at h3
    exact ⟨_, h3⟩
  have kb : ∀ i, ((Tryd.prog.fieldsOf 24)[i]?).map (fun f : Field => (f.type, f.offset)) = some (4, i) → ∃ b, cs[i]? = some (.bool b) := by
    intro i h1
    obtain ⟨x, h2⟩ := key i _ h1 (by kernel_rfl)
    obtain ⟨b, e1, _⟩ := DataW.trod_bool Tryd.underlying4 h2
    exact ⟨b, by have := take1_get e1; rwa [Array.getElem?_toList] at this⟩
  have k8 : ∀ i, ((Tryd.prog.fieldsOf 24)[i]?).map (fun f : Field => (f.type, f.offset)) = some (5, i) → ∃ b : Nat, cs[i]? = some (.int .u8 (b : Int)) := by
    intro i h1
    obtain ⟨x, h2⟩ := key i _ h1 (by kernel_rfl)
    obtain ⟨b, e1, _, wf⟩ := DataW.trod_int Tryd.underlying5 h2
    simp [Lit.wf, IntKind.min, IntKind.max, IntKind.signed, IntKind.bits] at wf
    obtain ⟨m, rfl⟩ := Int.eq_ofNat_of_zero_le (show 0 ≤ b by omega)
    exact ⟨m, by have := take1_get e1; rwa [Array.getElem?_toList] at this⟩
  have k16 : ∃ b : Nat, cs[0]? = some (.int .u16 (b : Int)) ∧ b < 65536 := by
    obtain ⟨x, h2⟩ := key 0 22 (by kernel_rfl) (by kernel_rfl)
    obtain ⟨b, e1, _, wf⟩ := DataW.trod_int Tryd.underlying22 h2
    simp [Lit.wf, IntKind.min, IntKind.max, IntKind.signed, IntKind.bits] at wf
    obtain ⟨m, rfl⟩ := Int.eq_ofNat_of_zero_le (show 0 ≤ b by omega)
    exact ⟨m, by have := take1_get e1; rwa [Array.getElem?_toList] at this, by omega⟩
  obtain ⟨id, e0, hid⟩ := k16
  obtain ⟨qr, e1⟩ := kb 1 (by kernel_rfl)
  obtain ⟨op, e2⟩ := k8 2 (by kernel_rfl)
  obtain ⟨aa, e3⟩ := kb 3 (by kernel_rfl)
  obtain ⟨tc, e4⟩ := kb 4 (by kernel_rfl)
  obtain ⟨rd, e5⟩ := kb 5 (by kernel_rfl)
  obtain ⟨ra, e6⟩ := kb 6 (by kernel_rfl)
  obtain ⟨z, e7⟩ := kb 7 (by kernel_rfl)
  obtain ⟨ad, e8⟩ := kb 8 (by kernel_rfl)
  obtain ⟨cd, e9⟩ := kb 9 (by kernel_rfl)
  obtain ⟨code, e10⟩ := k8 10 (by kernel_rfl)
  refine ⟨⟨id, qr, op, aa, tc, rd, ra, z, ad, cd, code⟩, congrArg Value.agg (Array.ext_getElem? fun i => ?_), hid⟩
  match i with
  | 0 => rw [e0]; rfl
  | 1 => rw [e1]; rfl
  | 2 => rw [e2]; rfl
  | 3 => rw [e3]; rfl
  | 4 => rw [e4]; rfl
  | 5 => rw [e5]; rfl
  | 6 => rw [e6]; rfl
  | 7 => rw [e7]; rfl
  | 8 => rw [e8]; rfl
  | 9 => rw [e9]; rfl
  | 10 => rw [e10]; rfl
  | i + 11 => rw [Array.getElem?_eq_none (by omega), Array.getElem?_eq_none (by simp [Hd.H.cells])]
end Go.Proofs.YtgfgmaiddmohaaaDoor
