/- What may be of a plan stays so: Plan.Ok through beg, tick, close and moreQ. Plain lists and integers. -/
import Derived.Test.YtbpbhccgnfakiaaHgWalkD
import Derived.Test.YtbpbhccgnfakiaaHgWalkF
namespace Go.Proofs.Ytbpbhccgnfakiaa.Hg

theorem mem_modify {α : Type} {l : List α} {i : Nat} {f : α → α} {y : α} (h : y ∈ l.modify i f) : y ∈ l ∨ ∃ x, l[i]? = some x ∧ y = f x := by
  obtain ⟨j, hj, rfl⟩ := List.mem_iff_getElem.1 h
  rw [List.getElem_modify]
  have hj' : j < l.length := by simpa using hj
  split
  · rename_i e; subst e
    exact .inr ⟨l[i], by simp [hj'], rfl⟩
  · exact .inl (List.getElem_mem _)

theorem Plan.ask_ok {p : Plan} (h : p.Ok) {i : Nat} {x : Up} (hx : p.l[i]? = some x) (hn : x.n ≤ 3) (hi : i ≤ p.next) : (p.ask i).Ok := by
  obtain ⟨h1, h2, h3, h4, h5, h6, h7, h8, h9, h10⟩ := h
  obtain ⟨hil, _⟩ := List.getElem?_eq_some_iff.1 hx
  refine ⟨by simpa [Plan.ask] using h1, by simp only [Plan.ask, List.length_modify]; omega, h3, h4, h5, h6, h7, h8, ?_, ?_⟩
  · intro y hy
    rcases mem_modify hy with h | ⟨z, hz, rfl⟩
    · exact h9 y h
    · rw [hx] at hz
      obtain rfl := Option.some.inj hz
      have := h9 x (List.mem_of_getElem? hx)
      simp only [Up.ask, Plan.ask]
      omega
  · intro j y hj hy
    simp only [Plan.ask] at hj hy
    rw [List.getElem?_modify] at hy
    have hne : i ≠ j := by omega
    simp only [hne, ↓reduceIte] at hy
    exact h10 j y (by omega) (by simpa using hy)

theorem Up.ticked_ok {x : Up} {now wait tries : Int} (ht : tries ≤ 4) (h0 : 0 ≤ now) (hx : 0 ≤ x.n ∧ x.n ≤ 4 ∧ 0 ≤ x.last ∧ x.last ≤ now) :
    0 ≤ (x.ticked now wait tries).n ∧ (x.ticked now wait tries).n ≤ 4 ∧ 0 ≤ (x.ticked now wait tries).last ∧ (x.ticked now wait tries).last ≤ now := by
  unfold Up.ticked Up.fate
  split
  · exact hx
  · exact hx
  · rename_i e
    simp only [Up.ask]
    split at e
    · simp at e
    · split at e
      · simp at e
      · omega

theorem Plan.mid_ok {p : Plan} (h : p.Ok) : (p.mid p.next).Ok := by
  obtain ⟨h1, h2, h3, h4, h5, h6, h7, h8, h9, h10⟩ := h
  refine ⟨by rw [Plan.mid_len]; exact h1, by rw [Plan.mid_len]; exact h2, h3, h4, h5, h6, h7, h8, ?_, ?_⟩
  · intro y hy
    simp only [Plan.mid, List.mem_append, List.mem_map] at hy
    rcases hy with ⟨x, hx, rfl⟩ | hy
    · exact Up.ticked_ok h4.2 (by omega) (h9 x (List.mem_of_mem_take hx))
    · exact h9 y (List.mem_of_mem_drop hy)
  · intro i x hi hx
    simp only [Plan.mid] at hi hx
    rw [List.getElem?_append_right (by simp; omega)] at hx
    simp only [List.length_map, List.length_take, List.getElem?_drop] at hx
    refine h10 i x hi ?_
    rw [← hx]
    congr 1
    omega

theorem Plan.more_ok {p : Plan} (h : p.Ok) : p.more.2.Ok := by
  have hk : 0 ≤ (p.now - p.start) / p.every ∧ (p.now - p.start) / p.every ≤ 1099511627776 := by
    have := h.time
    have he := h.every
    constructor
    · exact Int.ediv_nonneg (by omega) (by omega)
    · have := Int.ediv_le_self (b := p.every) (show 0 ≤ p.now - p.start by omega)
      omega
  have hq : ({ p with ks := (p.now - p.start) / p.every } : Plan).Ok := ⟨h.len, h.next, h.want, h.tries, h.every, h.wait, h.time, hk, h.ups, h.rest⟩
  unfold Plan.more
  split
  · dsimp only
    split
    · rename_i hl
      have hx : p.l[p.next]? = some p.l[p.next] := List.getElem?_eq_getElem hl
      have := h.rest p.next _ (Nat.le_refl _) hx
      exact Plan.ask_ok hq hx (by omega) (Nat.le_refl _)
    · exact hq
  · exact h

theorem Plan.tick_ok {p : Plan} (h : p.Ok) (t : Int) : (p.tick t).2.2.Ok := Plan.more_ok (Plan.mid_ok (Plan.to_ok h t))

theorem Plan.moreQ_ok {p : Plan} (h : p.Ok) (t : Int) : (p.moreQ t).2.Ok := by
  unfold Plan.moreQ
  split
  · rename_i hl
    have hx : p.l[p.next]? = some p.l[p.next] := List.getElem?_eq_getElem hl
    have := h.rest p.next _ (Nat.le_refl _) hx
    exact Plan.ask_ok (Plan.to_ok h t) hx (by omega) (Nat.le_refl _)
  · exact Plan.to_ok h t

theorem Plan.close_ok {p : Plan} (h : p.Ok) (u : Int) : (p.close u).2.Ok := by
  unfold Plan.close
  split
  · rename_i i hi
    obtain ⟨h1, h2, h3, h4, h5, h6, h7, h8, h9, h10⟩ := h
    refine ⟨by simpa using h1, by simpa using h2, h3, h4, h5, h6, h7, h8, ?_, ?_⟩
    · intro y hy
      rcases mem_modify hy with h | ⟨z, hz, rfl⟩
      · exact h9 y h
      · exact h9 z (List.mem_of_getElem? hz)
    · intro j y hj hy
      simp only at hj hy
      rw [List.getElem?_modify] at hy
      by_cases e : i = j
      · subst e
        cases hz : p.l[i]? with
        | none => rw [hz] at hy; simp at hy
        | some z =>
          rw [hz] at hy
          simp at hy
          subst hy
          have := h10 i z hj hz
          exact ⟨this.1, rfl⟩
      · simp only [e, ↓reduceIte] at hy
        exact h10 j y hj (by simpa using hy)
  · exact h

theorem Plan.fresh_beg_ok {L : List Int} {want every wait tries now : Int} {k : Nat} (hl : L.length ≤ 9) (h1 : 1 ≤ want ∧ want ≤ 9) (h2 : 1 ≤ every ∧ every ≤ 1000) (h3 : 1 ≤ wait ∧ wait ≤ 1000) (h4 : 1 ≤ tries ∧ tries ≤ 4) (h5 : 0 ≤ now ∧ now ≤ 1099511627776) (hk : k ≤ L.length) :
    ((Plan.fresh L want every wait tries now).beg k).Ok := by
  refine ⟨by rw [Plan.beg_len]; simpa [Plan.fresh] using hl, by rw [Plan.beg_len]; simpa [Plan.beg, Plan.fresh] using hk, h1, h4, h2, h3, ⟨h5.1, Int.le_refl _, h5.2⟩, ⟨Int.le_refl _, by simp [Plan.beg, Plan.fresh]⟩, ?_, ?_⟩
  · intro y hy
    simp only [Plan.beg, Plan.fresh, List.mem_append, List.mem_map] at hy
    rcases hy with ⟨x, hx, rfl⟩ | hy
    · have := List.mem_of_mem_take hx
      obtain ⟨u, _, rfl⟩ := List.mem_map.1 this
      simp only [up0, Up.ask, Plan.beg, Plan.fresh]
      omega
    · have := List.mem_of_mem_drop hy
      obtain ⟨u, _, rfl⟩ := List.mem_map.1 this
      simp only [up0, Plan.beg, Plan.fresh]
      omega
  · intro i x hi hx
    simp only [Plan.beg, Plan.fresh] at hi hx
    rw [List.getElem?_append_right (by simp; omega)] at hx
    have := List.mem_of_getElem? hx
    have := List.mem_of_mem_drop this
    obtain ⟨u, _, rfl⟩ := List.mem_map.1 this
    exact ⟨rfl, rfl⟩

theorem Plan.tick_begun (p : Plan) (t : Int) : (p.tick t).2.2.begun = p.begun := by
  simp only [Plan.tick, Plan.more]
  split
  · split <;> rfl
  · rfl

theorem Plan.close_begun (p : Plan) (u : Int) : (p.close u).2.begun = p.begun := by
  unfold Plan.close; split <;> rfl

theorem Plan.moreQ_begun (p : Plan) (t : Int) : (p.moreQ t).2.begun = p.begun := by
  unfold Plan.moreQ; split <;> rfl

end Go.Proofs.Ytbpbhccgnfakiaa.Hg
