/- How a plan of package hedge lies in memory. -/
import Derived.Test.YtbpbhccgnfakiaaHeap
import Derived.Test.YtbpbhccgnfakiaaHgPlain
import Derived.Test.YtbpbhccgnfakiaaProg
namespace Go.Proofs.Ytbpbhccgnfakiaa.Hg
open Go.RowKit

abbrev i64 (n : Int) : Value := .int .i64 n

def Up.cells (x : Up) : List Value := [i64 x.u, i64 x.n, i64 x.last, .bool x.op]
def upCells (l : List Up) : List Value := l.flatMap Up.cells

def Plan.cells (v : Value) (p : Plan) : Array Value :=
  #[v, i64 p.next, i64 p.want, i64 p.tries, i64 p.every, i64 p.wait, i64 p.start, i64 p.now, i64 p.ks, .bool p.begun]

/-- A plan lies at block b; its list is the slice v. -/
structure PlanAt (w : World) (b : Nat) (v : Value) (p : Plan) : Prop where
  blk : w.heap[b]? = some (.cells (p.cells v) 58 (0, 0))
  own : w.ownsRow 0 62 4 v p.l.length (upCells p.l)
  apart : v.ownBlock ≠ some b

/-- The blocks that a plan takes up. -/
def PlanS (b : Nat) (v : Value) : Nat → Prop := fun k => k = b ∨ v.ownBlock = some k

theorem PlanAt.chg {S : Nat → Prop} {w w' : World} {b : Nat} {v : Value} {p : Plan} (h : PlanAt w b v p) (hc : Chg S w w') (hs : ∀ k, PlanS b v k → ¬ S k) : PlanAt w' b v p :=
  ⟨hc.heap h.blk (hs b (.inl rfl)), hc.own h.own (fun k hk => hs k (.inr hk)), h.apart⟩

theorem PlanAt.alike {w w' : World} {b : Nat} {v : Value} {p : Plan} (h : PlanAt w b v p) (hc : w'.Alike w) : PlanAt w' b v p :=
  h.chg ((Chg.refl Nob w).alike hc) (fun _ _ h => h)

theorem length_upCells (l : List Up) : (upCells l).length = l.length * 4 := by
  induction l with
  | nil => rfl
  | cons x l ih => simp only [upCells, List.flatMap_cons, List.length_append] at *; rw [ih]; simp [Up.cells]; omega

theorem upCells_get (l : List Up) : ∀ (i : Nat) (x : Up), l[i]? = some x → ∀ k, k < 4 → (upCells l)[i * 4 + k]? = x.cells[k]? := by
  induction l with
  | nil => intro i x h; simp at h
  | cons y l ih =>
    intro i x h k hk
    have hl : y.cells.length = 4 := rfl
    cases i with
    | zero =>
      simp at h; subst h
      simp only [upCells, List.flatMap_cons, Nat.zero_mul, Nat.zero_add]
      rw [List.getElem?_append_left (by omega)]
    | succ i =>
      simp at h
      have := ih i x h k hk
      simp only [upCells, List.flatMap_cons] at *
      rw [List.getElem?_append_right (by omega), ← this]
      congr 1
      omega

theorem set_flat (l : List Up) : ∀ (i : Nat) (k : Nat) (x y : Up), l[i]? = some x → k < 4 → y.cells = x.cells.set k (y.cells[k]?.getD undef) →
    (upCells l).set (i * 4 + k) (y.cells[k]?.getD undef) = upCells (l.modify i (fun _ => y)) := by
  induction l with
  | nil => intro i k x y h; simp at h
  | cons z l ih =>
    intro i k x y h hk hy
    have hl : z.cells.length = 4 := rfl
    cases i with
    | zero =>
      simp at h; subst h
      simp only [upCells, List.flatMap_cons, Nat.zero_mul, Nat.zero_add, List.modify_zero_cons]
      rw [List.set_append_left _ _ (by omega), ← hy]
    | succ i =>
      simp at h
      have := ih i k x y h hk hy
      simp only [upCells, List.flatMap_cons, List.modify_succ_cons] at *
      rw [List.set_append_right _ _ (by omega), ← this]
      congr 2
      omega

/-! What a walk asks of a plan's cells. -/
section
variable {w : World} {b : Nat} {v : Value} {p : Plan}

theorem PlanAt.free (h : PlanAt w b v p) (i : Nat) : w.frozen? ⟨b, i, none⟩ = false := frozen_blk h.blk i
theorem PlanAt.c0 (h : PlanAt w b v p) : w.cell? ⟨b, 0, none⟩ = some v := cell_blk h.blk 0
theorem PlanAt.c1 (h : PlanAt w b v p) : w.cell? ⟨b, 1, none⟩ = some (i64 p.next) := cell_blk h.blk 1
theorem PlanAt.c2 (h : PlanAt w b v p) : w.cell? ⟨b, 2, none⟩ = some (i64 p.want) := cell_blk h.blk 2
theorem PlanAt.c3 (h : PlanAt w b v p) : w.cell? ⟨b, 3, none⟩ = some (i64 p.tries) := cell_blk h.blk 3
theorem PlanAt.c4 (h : PlanAt w b v p) : w.cell? ⟨b, 4, none⟩ = some (i64 p.every) := cell_blk h.blk 4
theorem PlanAt.c5 (h : PlanAt w b v p) : w.cell? ⟨b, 5, none⟩ = some (i64 p.wait) := cell_blk h.blk 5
theorem PlanAt.c6 (h : PlanAt w b v p) : w.cell? ⟨b, 6, none⟩ = some (i64 p.start) := cell_blk h.blk 6
theorem PlanAt.c7 (h : PlanAt w b v p) : w.cell? ⟨b, 7, none⟩ = some (i64 p.now) := cell_blk h.blk 7
theorem PlanAt.c8 (h : PlanAt w b v p) : w.cell? ⟨b, 8, none⟩ = some (i64 p.ks) := cell_blk h.blk 8
theorem PlanAt.c9 (h : PlanAt w b v p) : w.cell? ⟨b, 9, none⟩ = some (.bool p.begun) := cell_blk h.blk 9

/-- The slice's form: its length is the list's. -/
theorem PlanAt.form (h : PlanAt w b v p) : (v = .slice none 0 0 ∧ p.l = []) ∨ ∃ g cap, v = .slice (some ⟨g, 0, none⟩) p.l.length cap ∧ p.l.length ≤ cap ∧ cap ≤ maxLen ∧ g ≠ b := by
  rcases h.own.2 with ⟨h1, h2⟩ | ⟨g, cap, cur, rfl, _, _, h3, h4, _⟩
  · exact .inl ⟨h1, List.length_eq_zero_iff.1 h2⟩
  · exact .inr ⟨g, cap, rfl, h3, h4, fun e => h.apart (by simp [Value.ownBlock, e])⟩

theorem PlanAt.up (h : PlanAt w b v p) {g cap : Nat} (hv : v = .slice (some ⟨g, 0, none⟩) p.l.length cap) {i : Nat} {x : Up} (hx : p.l[i]? = some x) :
    w.cell? ⟨g, i * 4, none⟩ = some (i64 x.u) ∧ w.cell? ⟨g, i * 4 + 1, none⟩ = some (i64 x.n) ∧ w.cell? ⟨g, i * 4 + 2, none⟩ = some (i64 x.last) ∧ w.cell? ⟨g, i * 4 + 3, none⟩ = some (.bool x.op) := by
  have ho := h.own
  rw [hv] at ho
  obtain ⟨hi, _⟩ := List.getElem?_eq_some_iff.1 hx
  have e := upCells_get p.l i x hx
  refine ⟨?_, ?_, ?_, ?_⟩
  · rw [ho.cellAt (i * 4) (by omega)]; exact e 0 (by omega)
  · rw [ho.cellAt (i * 4 + 1) (by omega)]; exact e 1 (by omega)
  · rw [ho.cellAt (i * 4 + 2) (by omega)]; exact e 2 (by omega)
  · rw [ho.cellAt (i * 4 + 3) (by omega)]; exact e 3 (by omega)

theorem PlanAt.upFree (h : PlanAt w b v p) {g cap : Nat} (hv : v = .slice (some ⟨g, 0, none⟩) p.l.length cap) (i : Nat) : w.frozen? ⟨g, i, none⟩ = false := by
  have ho := h.own
  rw [hv] at ho
  exact ho.frozenAt i

/-- A store into one of the plan's own cells. -/
theorem PlanAt.store (h : PlanAt w b v p) {i : Nat} {u : Value} {q : Plan} (hl : q.l = p.l) (hc : (p.cells v).setIfInBounds i u = q.cells v) : PlanAt (w.setCell ⟨b, i, none⟩ u) b v q := by
  refine ⟨?_, ?_, h.apart⟩
  · rw [set_blk h.blk, hc]
  · rw [hl]
    exact ownsRow_setCell_other h.own h.apart u

/-- A store into one of the list's cells. -/
theorem PlanAt.storeUp (h : PlanAt w b v p) {g cap : Nat} (hv : v = .slice (some ⟨g, 0, none⟩) p.l.length cap) {i k : Nat} {x : Up} (hx : p.l[i]? = some x) (hk : k < 4) (y : Up) {u : Value}
    (hu : y.cells[k]? = some u) (hy : y.cells = x.cells.set k u) : PlanAt (w.setCell ⟨g, i * 4 + k, none⟩ u) b v { p with l := p.l.modify i (fun _ => y) } := by
  obtain ⟨hi, _⟩ := List.getElem?_eq_some_iff.1 hx
  have ho := h.own
  have ha := h.apart
  have hb := h.blk
  subst hv
  have hgb : b ≠ g := fun e => ha (by simp [Value.ownBlock, e])
  refine ⟨set_other hb hgb u, ?_, ha⟩
  have hs := ho.stored (i * 4 + k) u
  have e1 := set_flat p.l i k x y hx hk (by rw [hu]; exact hy)
  rw [hu] at e1
  simp only [Option.getD_some] at e1
  rw [e1] at hs
  simpa using hs.1
end
theorem modify_get {α : Type} {l : List α} {i : Nat} {x y : α} (hx : l[i]? = some x) : (l.modify i (fun _ => y))[i]? = some y := by
  obtain ⟨hi, _⟩ := List.getElem?_eq_some_iff.1 hx
  simp [hi]

theorem modify_modify {α : Type} (l : List α) (i : Nat) (f g : α → α) : (l.modify i f).modify i g = l.modify i (fun x => g (f x)) := by
  apply List.ext_getElem?
  intro k
  simp only [List.getElem?_modify]
  split <;> simp [Function.comp_def]

theorem modify_const {α : Type} {l : List α} {i : Nat} {x : α} (hx : l[i]? = some x) (f : α → α) : l.modify i (fun _ => f x) = l.modify i f := by
  apply List.ext_getElem?
  intro k
  simp only [List.getElem?_modify]
  by_cases hk : i = k
  · subst hk; simp [hx]
  · simp [hk]

theorem PlanAt.asked {w : World} {b : Nat} {v : Value} {p : Plan} (h : PlanAt w b v p) {g cap : Nat} (hv : v = .slice (some ⟨g, 0, none⟩) p.l.length cap) {i : Nat} {x : Up} (hx : p.l[i]? = some x) {u : Int} (hu : u = max (p.next : Int) ((i : Int) + 1)) :
    PlanAt ((((w.setCell ⟨g, i * 4 + 1, none⟩ (i64 (x.n + 1))).setCell ⟨g, i * 4 + 2, none⟩ (i64 p.now)).setCell ⟨g, i * 4 + 3, none⟩ (.bool true)).setCell ⟨b, 1, none⟩ (i64 u)) b v (p.ask i) := by
  have h1 := h.storeUp hv hx (k := 1) (by omega) ⟨x.u, x.n + 1, x.last, x.op⟩ rfl rfl
  have h2 := h1.storeUp (g := g) (cap := cap) (by rw [hv]; simp) (modify_get hx) (k := 2) (by omega) ⟨x.u, x.n + 1, p.now, x.op⟩ rfl rfl
  have h3 := h2.storeUp (g := g) (cap := cap) (by rw [hv]; simp) (modify_get (modify_get hx)) (k := 3) (by omega) ⟨x.u, x.n + 1, p.now, true⟩ rfl rfl
  refine h3.store ?_ ?_
  · show (p.l.modify i _) = _
    simp only [modify_modify]
    rw [← modify_const hx]
    rfl
  · simp only [Plan.cells, Plan.ask]
    subst hu
    simp
    omega

theorem PlanAt.askedS {w : World} {b : Nat} {v : Value} {p : Plan} {g cap : Nat} (hv : v = .slice (some ⟨g, 0, none⟩) p.l.length cap) (i : Nat) (x1 x2 x3 x4 : Value) :
    Chg (PlanS b v) w ((((w.setCell ⟨g, i * 4 + 1, none⟩ x1).setCell ⟨g, i * 4 + 2, none⟩ x2).setCell ⟨g, i * 4 + 3, none⟩ x3).setCell ⟨b, 1, none⟩ x4) := by
  have hg : PlanS b v g := .inr (by rw [hv]; rfl)
  exact ((((Chg.refl _ w).setCell (.inl hg) _).setCell (.inl hg) _).setCell (.inl hg) _).setCell (.inl (.inl rfl)) _

end Go.Proofs.Ytbpbhccgnfakiaa.Hg
