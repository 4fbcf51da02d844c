/- HedgeGone's plain law at both ends: at the beginning, and behind 265 readings. No program is named here. -/
import Derived.Test.YtbpbhccgnfakiaaHgGoneP
import Derived.Test.YtbpbhccgnfakiaaHgOk
import Derived.Test.YtbpbhccgnfakiaaHgWalkG
namespace Go.Proofs.Ytbpbhccgnfakiaa.Hg

theorem going_zero {r : Raw} (h : r.Fit) : Going r.l r.want r.every r.wait r.tries r.now 0 (r.plan.beg r.m) := by
  obtain ⟨hlen, hrng, hnd, hwant, hevery, hwait, htries, hnow⟩ := h
  have hm : (r.m : Int) = min (r.l.length : Int) r.want := by unfold Raw.m; omega
  have hml : r.m ≤ r.l.length := by omega
  have hget : ∀ (i : Nat) (x : Up), (r.plan.beg r.m).l[i]? = some x → ∃ u, r.l[i]? = some u ∧ x = (if i < r.m then (up0 u).ask r.now else up0 u) := by
    intro i x hx
    simp only [Plan.beg, Raw.plan, Plan.fresh] at hx
    rw [List.getElem?_append] at hx
    split at hx
    · rename_i hi
      simp at hi
      rw [List.getElem?_map, List.getElem?_take, if_pos (by omega), List.getElem?_map] at hx
      cases hy : r.l[i]? with
      | none => rw [hy] at hx; cases hx
      | some u =>
        rw [hy] at hx
        simp at hx
        exact ⟨u, rfl, by rw [if_pos (by omega)]; exact hx.symm⟩
    · rename_i hi
      simp at hi
      rw [List.getElem?_drop] at hx
      simp only [List.length_map, List.length_take] at hx
      rw [show r.m + (i - min r.m r.l.length) = i by omega, List.getElem?_map] at hx
      cases hy : r.l[i]? with
      | none => rw [hy] at hx; cases hx
      | some u =>
        rw [hy] at hx
        simp at hx
        exact ⟨u, rfl, by rw [if_neg (by omega)]; exact hx.symm⟩
  refine ⟨by rw [Plan.beg_len]; simp [Raw.plan, Plan.fresh], ?_, ?_, ?_, ?_, ?_, rfl, rfl, rfl, rfl⟩
  · intro i x hx
    obtain ⟨u, hu, rfl⟩ := hget i x hx
    rw [hu]
    split <;> rfl
  · intro i x hx
    obtain ⟨u, hu, rfl⟩ := hget i x hx
    have hi := (List.getElem?_eq_some_iff.1 hu).1
    split
    · rename_i hi2
      have : firstAt r.want r.every i = 0 := by unfold firstAt; rw [if_pos (by omega)]
      rw [this]
      refine .inr (.inl ⟨0, by omega, by omega, by omega, by omega, ?_, ?_, rfl⟩)
      · simp [up0, Up.ask]
      · simp [up0, Up.ask]
    · rename_i hi2
      refine .inl ⟨?_, rfl, rfl⟩
      unfold firstAt
      rw [if_neg (by omega)]
      have : 1 * 1 ≤ ((i : Int) - r.want + 1) * r.every := Int.mul_le_mul (by omega) (by omega) (by omega) (by omega)
      omega
  · simp only [Plan.beg]
    simp
    exact hm
  · simp [Plan.beg, Raw.plan, Plan.fresh]
  · simp [Plan.beg, Raw.plan, Plan.fresh]

/-- Behind the last reading. -/
theorem Going.last {r : Raw} (h : r.Fit) {P : Plan} {F G : List Int} (hg : Going r.l r.want r.every r.wait r.tries r.now 265 P) (hr : Rows2 r.l r.want r.every r.wait r.tries r.now 265 F G) :
    openN P.l = 0 ∧ P.next = P.l.length ∧
    ∀ (i : Nat) (u : Int), r.l[i]? = some u → F.getD u.toNat 0 = r.now + firstAt r.want r.every i ∧ G.getD u.toNat 0 = r.now + firstAt r.want r.every i + r.tries * r.wait := by
  obtain ⟨hlen, hrng, hnd, hwant, hevery, hwait, htries, hnow⟩ := h
  have hTW : r.tries * r.wait ≤ 4 * 20 := Int.mul_le_mul (by omega) (by omega) (by omega) (by omega)
  have hTW0 : 1 * 1 ≤ r.tries * r.wait := Int.mul_le_mul (by omega) (by omega) (by omega) (by omega)
  have hA : ∀ i : Nat, i < r.l.length → firstAt r.want r.every i ≤ 160 := by
    intro i hi
    unfold firstAt
    split
    · omega
    · have : ((i : Int) - r.want + 1) * r.every ≤ 8 * 20 := Int.mul_le_mul (by omega) (by omega) (by omega) (by omega)
      omega
  refine ⟨?_, ?_, ?_⟩
  · unfold openN
    rw [List.filter_eq_nil_iff.2]
    · rfl
    · intro x hx
      obtain ⟨i, hi, rfl⟩ := List.mem_iff_getElem.1 hx
      have hlt : i < r.l.length := by rw [← hg.len]; exact hi
      have hu := hg.ups i _ (List.getElem?_eq_getElem hi)
      have hAi := hA i hlt
      rcases hu with ⟨h, _⟩ | ⟨q, _, hqT, _, h2, _⟩ | ⟨_, ho⟩
      · omega
      · have : r.wait * (q + 1) ≤ r.wait * r.tries := Int.mul_le_mul_of_nonneg_left (by omega) (by omega)
        rw [Int.mul_add, Int.mul_comm r.wait r.tries] at this
        omega
      · rw [ho]; simp
  · have h1 := hg.next
    have h2 : 13 ≤ ((265 : Nat) : Int) / r.every := by
      rw [Int.le_ediv_iff_mul_le (by omega)]
      omega
    have h3 := hg.len
    omega
  · intro i u hi
    have hlt := (List.getElem?_eq_some_iff.1 hi).1
    have hAi := hA i hlt
    rw [hr.first i u hi, hr.gone i u hi, if_pos (by omega), if_pos (by omega)]
    exact ⟨rfl, rfl⟩

/-- The two rows at the beginning. -/
theorem rows_zero {r : Raw} (h : r.Fit) : Rows2 r.l r.want r.every r.wait r.tries r.now 0 ((r.l.take r.m).foldl (setG r.now) (List.replicate 9 (-1))) (List.replicate 9 (-1)) := by
  obtain ⟨hlen, hrng, hnd, hwant, hevery, hwait, htries, hnow⟩ := h
  have hm : (r.m : Int) = min (r.l.length : Int) r.want := by unfold Raw.m; omega
  have hrep : ∀ u : Int, 0 ≤ u → u < 9 → (List.replicate 9 (-1 : Int)).getD u.toNat 0 = -1 := by
    intro u h0 h9
    have : u.toNat < 9 := by omega
    rw [List.getD, List.getElem?_replicate, if_pos this]
    rfl
  have hTW0 : 1 * 1 ≤ r.tries * r.wait := Int.mul_le_mul (by omega) (by omega) (by omega) (by omega)
  refine ⟨by rw [foldG_len]; rfl, rfl, ?_, ?_⟩
  · intro i u hi
    have hu := hrng u (List.mem_of_getElem? hi)
    have hil := (List.getElem?_eq_some_iff.1 hi).1
    rw [foldG_get _ _ u (fun x hx => hrng x (List.mem_of_mem_take hx)) rfl hu.1 hu.2, hrep u hu.1 hu.2]
    by_cases him : i < r.m
    · have : firstAt r.want r.every i = 0 := by unfold firstAt; rw [if_pos (by omega)]
      rw [if_pos (take_mem hi him), this, if_pos (by omega)]
      omega
    · rw [if_neg, if_neg]
      · unfold firstAt
        rw [if_neg (by omega)]
        have : 1 * 1 ≤ ((i : Int) - r.want + 1) * r.every := Int.mul_le_mul (by omega) (by omega) (by omega) (by omega)
        omega
      · intro hx
        obtain ⟨j, hj, hx⟩ := mem_take hx
        have := nodup_at hnd hi hx
        omega
  · intro i u hi
    have hu := hrng u (List.mem_of_getElem? hi)
    have hA := @firstAt_nonneg r.want r.every i hevery.1
    rw [hrep u hu.1 hu.2, if_neg (by omega)]

end Go.Proofs.Ytbpbhccgnfakiaa.Hg
