/- From a law's walk to its row: the arguments read as they did; slices of structs and structs by value, opened to cells. -/
import Derived.Test.YtngmdefhdknggaaDoorHeap
import Derived.Test.YtngmdefhdknggaaDoorRows
import Derived.ProofKit
import Derived.Deep.Slices
import Derived.Deep.Fields
namespace Go.Proofs.YtngmdefhdknggaaDoor
open Go.ChangeShapes Go.WideShapes Go.ChangeAt Go.RowKit

theorem Tryd.own : ownKnob Tryd.prog.godebug = none := by kernel_rfl
theorem Tryd.laidOut : laidOutB Tryd.prog = true := by kernel_rfl

section
variable {H : Type} {enc : TypeId × Value → H} {P : Program} {base : Nat}

/-- All arguments read as they did, if nothing that was there has changed. -/
theorem trodAll_stays (hl : laidOutB P = true) {W W' : World} {sp' : Nat → Bool} : ∀ {ts : List TypeId} {vs : List Value} {ds : List (DataW H)} {ps : List MemPlace},
    (∀ t ∈ ts, P.readableRec t = true ∧ t < P.types.size) → DataW.TrodAll enc P W base (fun _ => true) true ts vs ds ps → (∀ p ∈ ps, W.sameAt W' p) → (∀ p ∈ ps, sp' p.block = true) →
    DataW.TrodAll enc P W' base sp' true ts vs ds ps
  | [], _, _, _, _, h, _, _ => by
    obtain ⟨rfl, rfl, rfl⟩ := trodAll_nil h
    rfl
  | t :: ts, _, _, _, ht, h, hs, hb => by
    obtain ⟨v, vs1, d, ds1, a, b, rfl, rfl, rfl, h1, h2⟩ := trodAll_cons h
    exact ⟨a, b, Go.WideElems.Trod_stays hl (ht t (by simp)).1 (ht t (by simp)).2 h1 (fun p hp => hs p (by simp [hp])) (fun p hp => hb p (by simp [hp])),
      trodAll_stays hl (fun t' h' => ht t' (by simp [h'])) h2 (fun p hp => hs p (by simp [hp])) (fun p hp => hb p (by simp [hp])), rfl⟩

/-- A struct's fields, each of one cell. -/
theorem fields_of_trod {w : World} {spare : Nat → Bool} {held : Bool} {t : TypeId} {fs : Array Field} {fuel : Nat} {cs : List Value} {x : DataW H × List MemPlace} (hs : P.underlying t = some (.struct fs)) (hone : Go.Deep.oneCellFields P fs = true)
    (hC : P.cellsOf t = fs.size) (h : DataW.trod enc P w base spare held fuel t cs = some x) :
    cs.length = fs.size ∧ ∃ n, ∀ (j : Nat) (f : Field), fs[j]? = some f → ∃ c y, cs[j]? = some c ∧ DataW.trod enc P w base spare held n f.type [c] = some y := by
  obtain ⟨xs, n, _, _, hlen, hxl, hf⟩ := DataW.trod_struct hs h
  rw [hC] at hlen
  refine ⟨hlen, n, fun j f hj => ?_⟩
  obtain ⟨ho, hk⟩ := Go.Deep.hone_of hone j f hj
  have hj2 : j < fs.size := (Array.getElem?_eq_some_iff.1 hj).1
  have h1 := hf j f hj
  rw [ho, hk] at h1
  have hc : cs[j]? = some (cs[j]'(by omega)) := List.getElem?_eq_getElem (by omega)
  have hy : xs[j]? = some (xs[j]'(by omega)) := List.getElem?_eq_getElem (by omega)
  rw [List.drop_eq_getElem_cons (by omega : j < cs.length)] at h1
  exact ⟨_, _, hc, (show DataW.trod enc P w base spare held n f.type [cs[j]'(by omega)] = _ from h1.trans hy)⟩

/-- A slice's elements: the cells of each. -/
theorem elems_of_cells {w : World} {held : Bool} {t e : TypeId} {fuel : Nat} {c : Value} {x : DataW H × List MemPlace} (ht : P.underlying t = some (.slice e)) (hpos : 0 < P.cellsOf e)
    (h : DataW.trod enc P w base (fun _ => true) held fuel t [c] = some x) :
    c = .slice none 0 0 ∨ ∃ a len cap, c = .slice (some a) len cap ∧ len ≤ cap ∧ cap ≤ maxLen ∧ (0 < len → a = ⟨a.block, a.off, none⟩) ∧ ∃ n, ∀ i, i < len → ∃ cs y, cs.length = P.cellsOf e ∧ (∀ j, j < P.cellsOf e → w.cell? ⟨a.block, a.off + (i * P.cellsOf e + j), none⟩ = cs[j]?) ∧
      DataW.trod enc P w base (fun _ => true) held n e cs = some y := by
  rcases Go.Deep.open_slice ht h with ⟨h1, _⟩ | ⟨a, len, cap, m, n, D, Pl, hcs, hb, hl, hm, hmm, _, hi⟩
  · exact .inl (by simpa using h1)
  · refine .inr ⟨a, len, cap, by simpa using hcs, hl, hm, ?_, n, fun i hil => ?_⟩
    · intro hlen
      obtain ⟨cs', hc, _⟩ := hi 0 (by simp at hmm; omega)
      obtain ⟨_, hcl, hat⟩ := World.cells?_some hc
      have h0 := hat 0 hpos
      have h1 : cs'[0]? = some (cs'[0]'(by omega)) := List.getElem?_eq_getElem (by omega)
      rw [h1] at h0
      simp only [Nat.zero_mul, Addr.add] at h0
      obtain ⟨ab, ao, sp0⟩ := a
      cases sp0 with
      | none => rfl
      | some s =>
        simp only [↓reduceIte, World.cell?] at h0
        split at h0 <;> simp at h0
    · obtain ⟨cs', hc, ht'⟩ := hi i (by simp at hmm; omega)
      obtain ⟨_, hcl, hat⟩ := World.cells?_some hc
      refine ⟨cs', _, hcl, fun j hj => ?_, ht'⟩
      rw [← hat j hj]
      obtain ⟨cs0, hc0, _⟩ := hi 0 (by simp at hmm; omega)
      obtain ⟨_, hcl0, hat0⟩ := World.cells?_some hc0
      have h0 := hat0 0 hpos
      have h1 : cs0[0]? = some (cs0[0]'(by omega)) := List.getElem?_eq_getElem (by omega)
      rw [h1] at h0
      simp only [Nat.zero_mul, Addr.add] at h0
      obtain ⟨ab, ao, sp0⟩ := a
      cases sp0 with
      | none =>
        congr 1
        simp only [Addr.add]
        by_cases e1 : i * P.cellsOf e = 0
        · by_cases e2 : j = 0
          · simp [e1, e2]
          · simp [e1, e2]
        · by_cases e2 : j = 0
          · simp [e1, e2]
          · simp [e1, e2, Nat.add_assoc]
      | some s =>
        simp only [↓reduceIte, World.cell?] at h0
        split at h0 <;> simp at h0

/-- .. of a value that is one cell. -/
theorem elems_of_trod {w : World} {held : Bool} {t e : TypeId} {v : Value} {d : DataW H} {ps : List MemPlace} (ht : P.underlying t = some (.slice e)) (hpos : 0 < P.cellsOf e)
    (hv : ∃ a len cap, v = .slice a len cap) (h : DataW.Trod enc P w base (fun _ => true) held t v d ps) :
    v = .slice none 0 0 ∨ ∃ a len cap, v = .slice (some a) len cap ∧ len ≤ cap ∧ cap ≤ maxLen ∧ (0 < len → a = ⟨a.block, a.off, none⟩) ∧ ∃ n, ∀ i, i < len → ∃ cs y, cs.length = P.cellsOf e ∧ (∀ j, j < P.cellsOf e → w.cell? ⟨a.block, a.off + (i * P.cellsOf e + j), none⟩ = cs[j]?) ∧
      DataW.trod enc P w base (fun _ => true) held n e cs = some y := by
  obtain ⟨a0, l0, c0, rfl⟩ := hv
  obtain ⟨fuel, hf⟩ := h
  exact elems_of_cells ht hpos (by simpa [Value.cells] using hf)
end
end Go.Proofs.YtngmdefhdknggaaDoor
