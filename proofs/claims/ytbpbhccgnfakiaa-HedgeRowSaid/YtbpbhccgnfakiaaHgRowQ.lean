/- HedgeRow's plain law at the beginning. No program is named here. -/
import Derived.Test.YtbpbhccgnfakiaaHgRowP
import Derived.Test.YtbpbhccgnfakiaaHgWalkG
import Derived.Test.YtbpbhccgnfakiaaHgOk
namespace Go.Proofs.Ytbpbhccgnfakiaa.Hg

theorem row_zero {r : Raw} (h : r.Fit) : RowInv r.l r.tries (r.plan.beg r.m).l (r.plan.beg r.m).next ((r.l.take r.m).foldl (setG 1) (List.replicate 9 0)) (List.replicate 9 0) (r.l.take r.m) := by
  obtain ⟨hlen, hrng, hnd, hwant, hevery, hwait, htries, hnow⟩ := h
  have hm : (r.m : Int) = min (r.l.length : Int) r.want := by unfold Raw.m; omega
  have hml : r.m ≤ r.l.length := by omega
  have hget : ∀ (i : Nat) (x : Up), (r.plan.beg r.m).l[i]? = some x → ∃ u, r.l[i]? = some u ∧ x = (if i < r.m then (up0 u).ask r.now else up0 u) := by
    intro i x hx
    simp only [Plan.beg, Raw.plan, Plan.fresh] at hx
    rw [List.getElem?_append] at hx
    split at hx
    · rename_i hi
      simp at hi
      rw [List.getElem?_map, List.getElem?_take, if_pos (by omega), List.getElem?_map] at hx
      cases hy : r.l[i]? with
      | none => rw [hy] at hx; cases hx
      | some u =>
        rw [hy] at hx
        simp at hx
        exact ⟨u, rfl, by rw [if_pos (by omega)]; exact hx.symm⟩
    · rename_i hi
      simp at hi
      rw [List.getElem?_drop] at hx
      simp only [List.length_map, List.length_take] at hx
      rw [show r.m + (i - min r.m r.l.length) = i by omega, List.getElem?_map] at hx
      cases hy : r.l[i]? with
      | none => rw [hy] at hx; cases hx
      | some u =>
        rw [hy] at hx
        simp at hx
        exact ⟨u, rfl, by rw [if_neg (by omega)]; exact hx.symm⟩
  have hrep : ∀ u : Int, 0 ≤ u → u < 9 → (List.replicate 9 (0 : Int)).getD u.toNat 0 = 0 := by
    intro u h0 h9
    have : u.toNat < 9 := by omega
    rw [List.getD, List.getElem?_replicate, if_pos this]
    rfl
  have htm : ∀ u : Int, 0 ≤ u → u < 9 → ((r.l.take r.m).foldl (setG 1) (List.replicate 9 0)).getD u.toNat 0 = if u ∈ r.l.take r.m then 1 else 0 := by
    intro u h0 h9
    rw [foldG_get _ _ u (fun x hx => hrng x (List.mem_of_mem_take hx)) rfl h0 h9, hrep u h0 h9]
  have hmem : ∀ (i : Nat) (u : Int), r.l[i]? = some u → (u ∈ r.l.take r.m ↔ i < r.m) := by
    intro i u hi
    constructor
    · intro hx
      obtain ⟨j, hj, hx⟩ := mem_take hx
      have := nodup_at hnd hi hx
      omega
    · exact fun h => take_mem hi h
  refine ⟨by rw [foldG_len]; rfl, rfl, by rw [Plan.beg_len]; simp [Raw.plan, Plan.fresh], ?_, ?_, ?_, ?_, ?_, ?_, rfl, by simpa [Plan.beg] using hml⟩
  · intro i x hx
    obtain ⟨u, hu, rfl⟩ := hget i x hx
    rw [hu]
    split <;> rfl
  · intro i x hx
    obtain ⟨u, hu, rfl⟩ := hget i x hx
    have hur := hrng u (List.mem_of_getElem? hu)
    by_cases hi : i < r.m
    · rw [if_pos hi]
      show ((r.l.take r.m).foldl (setG 1) (List.replicate 9 0)).getD u.toNat 0 = _
      rw [htm u hur.1 hur.2, if_pos ((hmem i u hu).2 hi)]
      rfl
    · rw [if_neg hi]
      show ((r.l.take r.m).foldl (setG 1) (List.replicate 9 0)).getD u.toNat 0 = _
      rw [htm u hur.1 hur.2, if_neg (fun h => hi ((hmem i u hu).1 h))]
      rfl
  · intro i x hx
    obtain ⟨u, hu, rfl⟩ := hget i x hx
    have hur := hrng u (List.mem_of_getElem? hu)
    by_cases hi : i < r.m
    · rw [if_pos hi]
      show (List.replicate 9 (0 : Int)).getD u.toNat 0 = _
      rw [hrep u hur.1 hur.2]
      rfl
    · rw [if_neg hi]
      show (List.replicate 9 (0 : Int)).getD u.toNat 0 = _
      rw [hrep u hur.1 hur.2]
      rfl
  · intro i x hx
    obtain ⟨u, hu, rfl⟩ := hget i x hx
    by_cases hi : i < r.m
    · rw [if_pos hi]
      simp only [Up.ask, up0]
      exact ⟨by omega, by omega, fun _ => by omega⟩
    · rw [if_neg hi]
      simp only [up0]
      exact ⟨by omega, by omega, fun h => by cases h⟩
  · intro i x hx
    obtain ⟨u, hu, rfl⟩ := hget i x hx
    show i < r.m ↔ _
    by_cases hi : i < r.m
    · rw [if_pos hi]
      simp only [Up.ask, up0]
      constructor <;> intro <;> omega
    · rw [if_neg hi]
      simp only [up0]
      constructor <;> intro <;> omega
  · intro u h0 h9 hu
    rw [htm u h0 h9, if_neg (fun h => hu (List.mem_of_mem_take h)), hrep u h0 h9]
    exact ⟨rfl, rfl⟩

/-- All that is so of a plan and its rows. -/
structure Good (r : Raw) (P : Plan) (Tm Ov fs : List Int) : Prop where
  ok : P.Ok
  begun : P.begun = true
  tries : P.tries = r.tries
  inv : RowInv r.l r.tries P.l P.next Tm Ov fs

theorem tick_tries (p : Plan) (t : Int) : (p.tick t).2.2.tries = p.tries := by
  simp only [Plan.tick, Plan.more]
  split
  · split <;> rfl
  · rfl

theorem moreQ_tries (p : Plan) (t : Int) : (p.moreQ t).2.tries = p.tries := by unfold Plan.moreQ; split <;> rfl
theorem close_tries (p : Plan) (u : Int) : (p.close u).2.tries = p.tries := by unfold Plan.close; split <;> rfl

theorem good_zero {r : Raw} (hr : r.Fit) : Good r (r.plan.beg r.m) ((r.l.take r.m).foldl (setG 1) (List.replicate 9 0)) (List.replicate 9 0) (r.l.take r.m) :=
  ⟨Plan.fresh_beg_ok hr.len hr.want ⟨hr.every.1, by have := hr.every.2; omega⟩ ⟨hr.wait.1, by have := hr.wait.2; omega⟩ hr.tries ⟨hr.now.1, by have := hr.now.2; omega⟩ (by unfold Raw.m; omega), rfl, rfl, row_zero hr⟩

theorem Good.tick {r : Raw} (hr : r.Fit) {P : Plan} {Tm Ov fs : List Int} (h : Good r P Tm Ov fs) (t : Int) :
    Good r (P.tick t).2.2 ((P.tick t).2.1.foldl sentOne (Tm, fs)).1 ((P.tick t).1.foldl inc Ov) ((P.tick t).2.1.foldl sentOne (Tm, fs)).2 ∧ SentOk (P.tick t).2.1 Ov Tm fs r.tries ∧
    (∀ (k : Nat) (u : Int), (P.tick t).1[k]? = some u → 0 ≤ u ∧ u < 9 ∧ (((P.tick t).1.take k).foldl inc Ov).getD u.toNat 0 = 0 ∧ ((P.tick t).2.1.foldl sentOne (Tm, fs)).1.getD u.toNat 0 = r.tries) := by
  obtain ⟨h1, h2, h3⟩ := h.inv.tick hr.nodup hr.rng h.tries hr.tries.1 t
  exact ⟨⟨Plan.tick_ok h.ok t, (Plan.tick_begun P t).trans h.begun, (tick_tries P t).trans h.tries, h1⟩, h2, h3⟩

theorem Good.close {r : Raw} (hr : r.Fit) {P : Plan} {Tm Ov fs : List Int} (h : Good r P Tm Ov fs) (u : Int) :
    ((P.close u).1 = false ∧ Good r (P.close u).2 Tm Ov fs) ∨
    ((P.close u).1 = true ∧ 0 ≤ u ∧ u < 9 ∧ 0 < Tm.getD u.toNat 0 ∧ Tm.getD u.toNat 0 ≤ r.tries ∧ Ov.getD u.toNat 0 = 0 ∧ Good r (P.close u).2 Tm (inc Ov u) fs) := by
  rcases h.inv.close hr.nodup hr.rng u with ⟨h1, h2⟩ | ⟨h1, h2, h3, h4, h5, h6, h7⟩
  · refine .inl ⟨h1, ?_⟩
    rw [h2]
    exact h
  · exact .inr ⟨h1, h2, h3, h4, h5, h6, ⟨Plan.close_ok h.ok u, (Plan.close_begun P u).trans h.begun, (close_tries P u).trans h.tries, h7⟩⟩

theorem Good.moreQ {r : Raw} (hr : r.Fit) {P : Plan} {Tm Ov fs : List Int} (h : Good r P Tm Ov fs) (t : Int) :
    ((P.moreQ t).1.2 = false ∧ Good r (P.moreQ t).2 Tm Ov fs) ∨
    ((P.moreQ t).1.2 = true ∧ SentOk [(P.moreQ t).1.1] Ov Tm fs r.tries ∧ Good r (P.moreQ t).2 (sentOne (Tm, fs) (P.moreQ t).1.1).1 Ov (sentOne (Tm, fs) (P.moreQ t).1.1).2) := by
  rcases h.inv.moreQ hr.nodup hr.rng hr.tries.1 t with ⟨h1, h2⟩ | ⟨h1, h2, h3⟩
  · exact .inl ⟨h1, ⟨Plan.moreQ_ok h.ok t, (Plan.moreQ_begun P t).trans h.begun, (moreQ_tries P t).trans h.tries, h2⟩⟩
  · exact .inr ⟨h1, h2, ⟨Plan.moreQ_ok h.ok t, (Plan.moreQ_begun P t).trans h.begun, (moreQ_tries P t).trans h.tries, h3⟩⟩

theorem Good.fs_len {r : Raw} (hr : r.Fit) {P : Plan} {Tm Ov fs : List Int} (h : Good r P Tm Ov fs) : fs.length ≤ 9 ∧ (fs.length : Int) = P.next := by
  have h1 := h.inv.nextle
  have h2 := hr.len
  rw [h.inv.fs, List.length_take]
  omega

theorem tick_sends_le {P : Plan} (ok : P.Ok) (t : Int) : (P.tick t).2.1.length ≤ 10 := by
  have h1 : (P.to t).l.length ≤ 9 := ok.len
  have b := flatMap_le (fun x : Up => x.sendOf (P.to t).now (P.to t).wait (P.to t).tries) (sendOf_le _ _ _) ((P.to t).l.take (P.to t).next)
  have h3 : ((P.to t).l.take (P.to t).next).length ≤ (P.to t).l.length := by simp; omega
  have h4 := more_len ((P.to t).mid (P.to t).next)
  simp only [Plan.tick, List.length_append, Plan.sendTo]
  omega

end Go.Proofs.Ytbpbhccgnfakiaa.Hg
