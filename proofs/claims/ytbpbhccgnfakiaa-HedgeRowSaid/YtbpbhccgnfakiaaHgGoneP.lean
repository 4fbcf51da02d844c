/- HedgeGone's plain law: how a plan that nobody closes goes on, reading by reading. No program is named here. -/
import Derived.Test.YtbpbhccgnfakiaaHgPlain
namespace Go.Proofs.Ytbpbhccgnfakiaa.Hg

/-- When the one at place i is asked first, counted from the beginning. -/
def firstAt (W E : Int) (i : Nat) : Int := if (i : Int) < W then 0 else ((i : Int) - W + 1) * E

theorem firstAt_le {W E : Int} {i d : Nat} (hE : 1 ≤ E) : firstAt W E i ≤ (d : Int) ↔ (i : Int) < W + (d : Int) / E := by
  unfold firstAt
  have h0 : 0 ≤ (d : Int) / E := Int.ediv_nonneg (by omega) (by omega)
  split
  · constructor <;> intro <;> omega
  · rw [← Int.le_ediv_iff_mul_le (by omega)]
    constructor <;> intro <;> omega

theorem firstAt_nonneg {W E : Int} {i : Nat} (hE : 1 ≤ E) : 0 ≤ firstAt W E i := by
  unfold firstAt
  split
  · omega
  · exact Int.mul_nonneg (by omega) (by omega)

/-- One upstream, d behind the beginning; A: when it was asked first. -/
def UpGo (A Wt T N d : Int) (x : Up) : Prop :=
  (d < A ∧ x.n = 0 ∧ x.op = false) ∨
  (∃ q, 0 ≤ q ∧ q < T ∧ A + Wt * q ≤ d ∧ d < A + Wt * q + Wt ∧ x.n = q + 1 ∧ x.last = N + A + Wt * q ∧ x.op = true) ∨
  (A + T * Wt ≤ d ∧ x.op = false)

structure Going (L : List Int) (W E Wt T N : Int) (d : Nat) (P : Plan) : Prop where
  len : P.l.length = L.length
  us : ∀ (i : Nat) (x : Up), P.l[i]? = some x → L[i]? = some x.u
  ups : ∀ (i : Nat) (x : Up), P.l[i]? = some x → UpGo (firstAt W E i) Wt T N d x
  next : (P.next : Int) = min (L.length : Int) (W + (d : Int) / E)
  ks : P.ks = (d : Int) / E
  now : P.now = N + d
  start : P.start = N
  every : P.every = E
  wait : P.wait = Wt
  tries : P.tries = T

theorem up_step {A Wt T N d : Int} {x : Up} (hW : 1 ≤ Wt) (_hT : 1 ≤ T) (hA : A ≤ d) (h : UpGo A Wt T N d x) :
    UpGo A Wt T N (d + 1) (x.ticked (N + (d + 1)) Wt T) ∧ (x.ticked (N + (d + 1)) Wt T).u = x.u ∧ (x.fate (N + (d + 1)) Wt T = some false ↔ A + T * Wt = d + 1) := by
  rcases h with ⟨h, _⟩ | ⟨q, q0, qT, h1, h2, hn, hl, ho⟩ | ⟨h1, ho⟩
  · omega
  · by_cases hs : d + 1 < A + Wt * q + Wt
    · have hf : x.fate (N + (d + 1)) Wt T = none := by
        unfold Up.fate
        rw [if_pos (.inr (by rw [hl]; omega))]
      refine ⟨?_, by unfold Up.ticked; rw [hf], ?_⟩
      · unfold Up.ticked
        rw [hf]
        exact .inr (.inl ⟨q, q0, qT, by omega, by omega, hn, hl, ho⟩)
      · rw [hf]
        have : Wt * (q + 1) ≤ Wt * T := Int.mul_le_mul_of_nonneg_left (by omega) (by omega)
        rw [Int.mul_add, Int.mul_comm Wt T] at this
        constructor
        · intro h; cases h
        · intro h; omega
    · have hd : d + 1 = A + Wt * q + Wt := by omega
      have hc : ¬ (x.op = false ∨ N + (d + 1) - x.last < Wt) := by
        rw [ho, hl]
        simp
        omega
      by_cases hq : T ≤ q + 1
      · have hqT : T = q + 1 := by omega
        have hf : x.fate (N + (d + 1)) Wt T = some false := by
          unfold Up.fate
          rw [if_neg hc, if_pos (by rw [hn]; exact hq)]
        have hTW : T * Wt = Wt * q + Wt := by rw [hqT, Int.add_mul, Int.mul_comm]; omega
        refine ⟨?_, by unfold Up.ticked; rw [hf]; rfl, ?_⟩
        · unfold Up.ticked
          rw [hf]
          exact .inr (.inr ⟨by omega, rfl⟩)
        · rw [hf]
          constructor
          · intro _; omega
          · intro _; rfl
      · have hf : x.fate (N + (d + 1)) Wt T = some true := by
          unfold Up.fate
          rw [if_neg hc, if_neg (by rw [hn]; exact hq)]
        have e : Wt * (q + 1) = Wt * q + Wt := by rw [Int.mul_add]; omega
        refine ⟨?_, by unfold Up.ticked; rw [hf]; rfl, ?_⟩
        · unfold Up.ticked
          rw [hf]
          refine .inr (.inl ⟨q + 1, by omega, by omega, by omega, by omega, ?_, ?_, rfl⟩)
          · simp only [Up.ask]; omega
          · simp only [Up.ask]; omega
        · rw [hf]
          have : Wt * (q + 2) ≤ Wt * T := Int.mul_le_mul_of_nonneg_left (by omega) (by omega)
          rw [Int.mul_add, Int.mul_comm Wt T] at this
          constructor
          · intro h; cases h
          · intro h; omega
  · have hf : x.fate (N + (d + 1)) Wt T = none := by
      unfold Up.fate
      rw [if_pos (.inl ho)]
    refine ⟨?_, by unfold Up.ticked; rw [hf], ?_⟩
    · unfold Up.ticked
      rw [hf]
      exact .inr (.inr ⟨by omega, ho⟩)
    · rw [hf]
      constructor
      · intro h; cases h
      · intro h; omega

theorem mem_take {α : Type} {l : List α} {n : Nat} {x : α} (h : x ∈ l.take n) : ∃ i, i < n ∧ l[i]? = some x := by
  obtain ⟨i, hi, rfl⟩ := List.mem_iff_getElem.1 h
  have hi2 : i < n ∧ i < l.length := by simp at hi; omega
  exact ⟨i, hi2.1, by simp [hi2.2]⟩

theorem take_mem {α : Type} {l : List α} {n i : Nat} {x : α} (h : l[i]? = some x) (hi : i < n) : x ∈ l.take n := by
  obtain ⟨hl, rfl⟩ := List.getElem?_eq_some_iff.1 h
  exact List.mem_iff_getElem.2 ⟨i, by simp; omega, by simp⟩

theorem goneOf_mem {x : Up} {now wait tries u : Int} : u ∈ x.goneOf now wait tries ↔ x.fate now wait tries = some false ∧ u = x.u := by
  unfold Up.goneOf
  split
  · rename_i h; simp [h]
  · rename_i h
    constructor
    · intro h'; cases h'
    · rintro ⟨h1, _⟩; exact absurd h1 h

theorem sendOf_mem {x : Up} {now wait tries u : Int} (h : u ∈ x.sendOf now wait tries) : u = x.u := by
  unfold Up.sendOf at h
  split at h
  · simpa using h
  · cases h

theorem gone_sub (now wait tries : Int) : ∀ l : List Up, (l.flatMap (fun x => x.goneOf now wait tries)).Sublist (l.map (fun x => x.u))
  | [] => by simp
  | x :: l => by
    rw [List.flatMap_cons, List.map_cons]
    have h := gone_sub now wait tries l
    unfold Up.goneOf
    split
    · exact h.cons_cons _
    · exact h.cons _

theorem Going.map_u {L : List Int} {W E Wt T N : Int} {d : Nat} {P : Plan} (h : Going L W E Wt T N d P) : P.l.map (fun x => x.u) = L := by
  apply List.ext_getElem?
  intro i
  rw [List.getElem?_map]
  cases hx : P.l[i]? with
  | none =>
    have := List.getElem?_eq_none_iff.1 hx
    have := h.len
    rw [Option.map_none, eq_comm, List.getElem?_eq_none_iff]
    omega
  | some x => rw [Option.map_some, h.us i x hx]

/-- One reading more: where it goes to, who was sent to, who was given up. -/
theorem Going.step {L : List Int} {W E Wt T N : Int} {d : Nat} {P : Plan} (hL : L.Nodup) (_hW : 1 ≤ W) (hE : 1 ≤ E) (hWt : 1 ≤ Wt) (hT : 1 ≤ T) (hN : N + (d + 1) ≤ 1099511627776) (h : Going L W E Wt T N d P) :
    Going L W E Wt T N (d + 1) (P.tick (N + (d + 1))).2.2 ∧
    (∀ u ∈ (P.tick (N + (d + 1))).2.1, ∃ i, L[i]? = some u ∧ firstAt W E i ≤ (d : Int) + 1) ∧
    (∀ i u, L[i]? = some u → firstAt W E i = (d : Int) + 1 → u ∈ (P.tick (N + (d + 1))).2.1) ∧
    (∀ u, u ∈ (P.tick (N + (d + 1))).1 ↔ ∃ i, L[i]? = some u ∧ firstAt W E i + T * Wt = (d : Int) + 1) ∧
    (P.tick (N + (d + 1))).1.Nodup := by
  obtain ⟨hlen, hus, hups, hnext, hks, hnow, hstart, hevery, hwait, htries⟩ := h
  have hmap : P.l.map (fun x => x.u) = L := Going.map_u ⟨hlen, hus, hups, hnext, hks, hnow, hstart, hevery, hwait, htries⟩
  have hd0 : 0 ≤ (d : Int) / E := Int.ediv_nonneg (by omega) (by omega)
  have hTW : Wt ≤ T * Wt := by
    have : 1 * Wt ≤ T * Wt := Int.mul_le_mul_of_nonneg_right hT (by omega)
    omega
  have hto : P.to (N + (d + 1)) = { P with now := N + (d + 1) } := by
    unfold Plan.to
    congr 1
    rw [hnow]
    omega
  have hnx : ∀ (i : Nat) (x : Up), P.l[i]? = some x → (i < P.next ↔ firstAt W E i ≤ (d : Int)) := by
    intro i x hx
    have := (List.getElem?_eq_some_iff.1 hx).1
    rw [firstAt_le hE]
    omega
  have hnxL : P.next ≤ P.l.length := by omega
  -- the reading's own part
  have hmid : ∀ (i : Nat) (x : Up), (({ P with now := N + (d + 1) } : Plan).mid P.next).l[i]? = some x → ∃ y, P.l[i]? = some y ∧ x = (if i < P.next then y.ticked (N + (d + 1)) Wt T else y) := by
    intro i x hx
    simp only [Plan.mid, hwait, htries] at hx
    rw [List.getElem?_append] at hx
    split at hx
    · rename_i hi
      simp at hi
      rw [List.getElem?_map, List.getElem?_take, if_pos (by omega)] at hx
      cases hy : P.l[i]? with
      | none => rw [hy] at hx; cases hx
      | some y =>
        rw [hy] at hx
        simp at hx
        exact ⟨y, rfl, by rw [if_pos (by omega)]; exact hx.symm⟩
    · rename_i hi
      simp at hi
      rw [List.getElem?_drop] at hx
      simp only [List.length_map, List.length_take] at hx
      rw [show P.next + (i - min P.next P.l.length) = i by omega] at hx
      exact ⟨x, hx, by rw [if_neg (by omega)]⟩
  have hmlen : (({ P with now := N + (d + 1) } : Plan).mid P.next).l.length = P.l.length := Plan.mid_len _ _
  -- given up
  have hG : ∀ u, u ∈ ({ P with now := N + (d + 1) } : Plan).goneTo P.next ↔ ∃ i, L[i]? = some u ∧ firstAt W E i + T * Wt = (d : Int) + 1 := by
    intro u
    simp only [Plan.goneTo, List.mem_flatMap, hwait, htries]
    constructor
    · rintro ⟨x, hx, hu⟩
      obtain ⟨i, hi, hx⟩ := mem_take hx
      obtain ⟨hf, rfl⟩ := goneOf_mem.1 hu
      exact ⟨i, hus i x hx, (up_step hWt hT ((hnx i x hx).1 hi) (hups i x hx)).2.2.1 hf⟩
    · rintro ⟨i, hi, hA⟩
      obtain ⟨hil, _⟩ := List.getElem?_eq_some_iff.1 hi
      have hx : P.l[i]? = some P.l[i] := List.getElem?_eq_getElem (by omega)
      have hu := hus i _ hx
      rw [hi] at hu
      have hu' := Option.some.inj hu
      have hA' : firstAt W E i ≤ (d : Int) := by omega
      exact ⟨_, take_mem hx ((hnx i _ hx).2 hA'), goneOf_mem.2 ⟨(up_step hWt hT hA' (hups i _ hx)).2.2.2 hA, hu'⟩⟩
  have hGn : (({ P with now := N + (d + 1) } : Plan).goneTo P.next).Nodup := by
    unfold Plan.goneTo
    refine (gone_sub _ _ _ _).nodup ?_
    rw [List.map_take, hmap]
    exact (List.take_sublist _ _).nodup hL
  have hS : ∀ u ∈ ({ P with now := N + (d + 1) } : Plan).sendTo P.next, ∃ i, L[i]? = some u ∧ firstAt W E i ≤ (d : Int) + 1 := by
    intro u hu
    simp only [Plan.sendTo, List.mem_flatMap] at hu
    obtain ⟨x, hx, hu⟩ := hu
    obtain ⟨i, hi, hx⟩ := mem_take hx
    obtain rfl := sendOf_mem hu
    exact ⟨i, hus i x hx, by have := (hnx i x hx).1 hi; omega⟩
  have hks' : (d : Int) / E ≤ ((d : Int) + 1) / E ∧ ((d : Int) + 1) / E ≤ (d : Int) / E + 1 := by
    have e1 := Int.mul_ediv_add_emod (d : Int) E
    have e2 := Int.emod_lt_of_pos (d : Int) (show 0 < E by omega)
    constructor
    · exact Int.ediv_le_ediv (by omega) (by omega)
    · have : ((d : Int) + 1) / E < (d : Int) / E + 2 := by
        rw [Int.ediv_lt_iff_lt_mul (by omega)]
        have : ((d : Int) / E + 2) * E = E * ((d : Int) / E) + 2 * E := by rw [Int.add_mul, Int.mul_comm]
        omega
      omega
  have hcast : ((d + 1 : Nat) : Int) = (d : Int) + 1 := by omega
  simp only [Plan.tick, hto]
  -- what each one is after the reading's own part
  have hmidGo : ∀ (i : Nat) (x : Up), (({ P with now := N + (d + 1) } : Plan).mid P.next).l[i]? = some x → L[i]? = some x.u ∧ (i < P.next → UpGo (firstAt W E i) Wt T N ((d : Int) + 1) x) ∧ (P.next ≤ i → x.n = 0 ∧ x.op = false) := by
    intro i x hx
    obtain ⟨y, hy, rfl⟩ := hmid i x hx
    by_cases hi : i < P.next
    · rw [if_pos hi]
      have h3 := up_step hWt hT ((hnx i y hy).1 hi) (hups i y hy)
      exact ⟨by rw [h3.2.1]; exact hus i y hy, fun _ => h3.1, fun h => by omega⟩
    · rw [if_neg hi]
      refine ⟨hus i y hy, fun h => absurd h hi, fun _ => ?_⟩
      have hA : ¬ firstAt W E i ≤ (d : Int) := fun h => hi ((hnx i y hy).2 h)
      rcases hups i y hy with ⟨_, h1, h2⟩ | ⟨q, q0, _, h1, _⟩ | ⟨h1, _⟩
      · exact ⟨h1, h2⟩
      · have : 0 ≤ Wt * q := Int.mul_nonneg (by omega) q0
        omega
      · omega
  generalize hQ : ({ P with now := N + (d + 1) } : Plan).mid P.next = Q at *
  have q1 : Q.next = P.next := by rw [← hQ]; rfl
  have q2 : Q.ks = (d : Int) / E := by rw [← hQ]; exact hks
  have q3 : Q.now = N + ((d : Int) + 1) := by rw [← hQ]; rfl
  have q4 : Q.start = N := by rw [← hQ]; exact hstart
  have q5 : Q.every = E := by rw [← hQ]; exact hevery
  have q6 : Q.wait = Wt := by rw [← hQ]; exact hwait
  have q7 : Q.tries = T := by rw [← hQ]; exact htries
  have hdiv : (Q.now - Q.start) / Q.every = ((d : Int) + 1) / E := by rw [q3, q4, q5]; congr 1; omega
  have hkey : ∀ i : Nat, firstAt W E i ≤ (d : Int) + 1 ↔ (i : Int) < W + ((d : Int) + 1) / E := by
    intro i
    have := @firstAt_le W E i (d + 1) hE
    rw [hcast] at this
    exact this
  by_cases hk : Q.ks < (Q.now - Q.start) / Q.every
  · have hkk : ((d : Int) + 1) / E = (d : Int) / E + 1 := by rw [q2, hdiv] at hk; omega
    by_cases hl : Q.next < Q.l.length
    · have hm : Q.more = ([Q.uAt Q.next], ({ Q with ks := (Q.now - Q.start) / Q.every } : Plan).ask Q.next) := by
        unfold Plan.more
        rw [if_pos hk]
        exact if_pos hl
      rw [hm]
      have hx : Q.l[Q.next]? = some Q.l[Q.next] := List.getElem?_eq_getElem hl
      have hnW : (P.next : Int) = W + (d : Int) / E := by omega
      have hAn : firstAt W E Q.next = (d : Int) + 1 := by
        have h1 := (hkey Q.next).2 (by omega)
        have h2 : ¬ firstAt W E Q.next ≤ (d : Int) := by rw [firstAt_le hE]; omega
        omega
      have hu : Q.uAt Q.next = Q.l[Q.next].u := by unfold Plan.uAt; rw [hx]
      have hgo := hmidGo Q.next _ hx
      refine ⟨⟨?_, ?_, ?_, ?_, ?_, ?_, q4, q5, q6, q7⟩, ?_, ?_, hG, hGn⟩
      · simp only [Plan.ask, List.length_modify]; omega
      · intro i x hi
        simp only [Plan.ask] at hi
        rw [List.getElem?_modify] at hi
        cases hy : Q.l[i]? with
        | none => rw [hy] at hi; cases hi
        | some y =>
          rw [hy] at hi
          have h3 := (hmidGo i y hy).1
          by_cases e : Q.next = i
          · simp [e] at hi; subst hi; exact h3
          · simp [e] at hi; subst hi; exact h3
      · intro i x hi
        simp only [Plan.ask] at hi
        rw [List.getElem?_modify] at hi
        rw [hcast]
        cases hy : Q.l[i]? with
        | none => rw [hy] at hi; cases hi
        | some y =>
          rw [hy] at hi
          have h3 := hmidGo i y hy
          by_cases e : Q.next = i
          · subst e
            simp at hi
            subst hi
            have h4 := h3.2.2 (by omega)
            refine .inr (.inl ⟨0, by omega, by omega, by omega, by omega, ?_, ?_, rfl⟩)
            · simp only [Up.ask]; omega
            · simp only [Up.ask]; omega
          · simp [e] at hi
            subst hi
            by_cases hi2 : i < P.next
            · exact h3.2.1 hi2
            · have h4 := h3.2.2 (by omega)
              refine .inl ⟨?_, h4.1, h4.2⟩
              have : ¬ firstAt W E i ≤ (d : Int) + 1 := by rw [hkey]; omega
              omega
      · simp only [Plan.ask]
        rw [hcast]
        omega
      · rw [hcast]; exact hdiv
      · rw [hcast]; exact q3
      · intro u hu'
        rw [List.mem_append] at hu'
        rcases hu' with h1 | h1
        · exact hS u h1
        · simp at h1
          subst h1
          rw [hu]
          exact ⟨Q.next, hgo.1, by omega⟩
      · intro i u hi hA
        have h1 : ¬ firstAt W E i ≤ (d : Int) := by omega
        have h2 : firstAt W E i ≤ (d : Int) + 1 := by omega
        rw [firstAt_le hE] at h1
        rw [hkey] at h2
        have : i = Q.next := by omega
        subst this
        rw [hgo.1] at hi
        obtain rfl := Option.some.inj hi
        rw [hu]
        simp
    · have hm : Q.more = ([], ({ Q with ks := (Q.now - Q.start) / Q.every } : Plan)) := by
        unfold Plan.more
        rw [if_pos hk]
        exact if_neg hl
      rw [hm]
      dsimp only
      refine ⟨⟨?_, ?_, ?_, ?_, ?_, ?_, q4, q5, q6, q7⟩, ?_, ?_, hG, hGn⟩
      all_goals try dsimp only
      · omega
      · intro i x hi; exact (hmidGo i x hi).1
      · intro i x hi
        rw [hcast]
        have := (List.getElem?_eq_some_iff.1 hi).1
        exact (hmidGo i x hi).2.1 (by omega)
      · rw [hcast]; omega
      · rw [hcast]; exact hdiv
      · rw [hcast]; exact q3
      · intro u hu'
        rw [List.append_nil] at hu'
        exact hS u hu'
      · intro i u hi hA
        have := (List.getElem?_eq_some_iff.1 hi).1
        have h1 : ¬ firstAt W E i ≤ (d : Int) := by omega
        rw [firstAt_le hE] at h1
        omega
  · have hkk : ((d : Int) + 1) / E = (d : Int) / E := by rw [q2, hdiv] at hk; omega
    have hm : Q.more = ([], Q) := by
      unfold Plan.more
      rw [if_neg hk]
    rw [hm]
    dsimp only
    refine ⟨⟨?_, ?_, ?_, ?_, ?_, ?_, q4, q5, q6, q7⟩, ?_, ?_, hG, hGn⟩
    · omega
    · intro i x hi; exact (hmidGo i x hi).1
    · intro i x hi
      rw [hcast]
      have h3 := hmidGo i x hi
      by_cases hi2 : i < P.next
      · exact h3.2.1 hi2
      · have h4 := h3.2.2 (by omega)
        refine .inl ⟨?_, h4.1, h4.2⟩
        have := (List.getElem?_eq_some_iff.1 hi).1
        have : ¬ firstAt W E i ≤ (d : Int) + 1 := by rw [hkey]; omega
        omega
    · rw [hcast]; omega
    · rw [hcast]; omega
    · rw [hcast]; exact q3
    · intro u hu'
      rw [List.append_nil] at hu'
      exact hS u hu'
    · intro i u hi hA
      have h1 : ¬ firstAt W E i ≤ (d : Int) := by omega
      have h2 : firstAt W E i ≤ (d : Int) + 1 := by omega
      rw [firstAt_le hE] at h1
      rw [hkey] at h2
      omega

/-! ### The two rows of numbers -/

def setF (t : Int) (F : List Int) (u : Int) : List Int := if F.getD u.toNat 0 < 0 then F.set u.toNat t else F
def setG (t : Int) (F : List Int) (u : Int) : List Int := F.set u.toNat t

theorem setF_len (t : Int) (F : List Int) (u : Int) : (setF t F u).length = F.length := by unfold setF; split <;> simp
theorem setG_len (t : Int) (F : List Int) (u : Int) : (setG t F u).length = F.length := by simp [setG]

theorem foldF_len (t : Int) : ∀ (S F : List Int), (S.foldl (setF t) F).length = F.length
  | [], _ => rfl
  | u :: S, F => by rw [List.foldl_cons, foldF_len t S, setF_len]

theorem foldG_len (t : Int) : ∀ (S F : List Int), (S.foldl (setG t) F).length = F.length
  | [], _ => rfl
  | u :: S, F => by rw [List.foldl_cons, foldG_len t S, setG_len]

theorem foldF_get {t : Int} (ht : 0 ≤ t) : ∀ (S F : List Int) (u : Int), (∀ x ∈ S, 0 ≤ x ∧ x < 9) → F.length = 9 → 0 ≤ u → u < 9 →
    (S.foldl (setF t) F).getD u.toNat 0 = if u ∈ S ∧ F.getD u.toNat 0 < 0 then t else F.getD u.toNat 0
  | [], F, u, _, _, _, _ => by simp
  | x :: S, F, u, hS, hF, h0, h9 => by
    rw [List.foldl_cons, foldF_get ht S _ u (fun y hy => hS y (by simp [hy])) (by rw [setF_len]; exact hF) h0 h9]
    have hx := hS x (by simp)
    by_cases e : u = x
    · subst e
      unfold setF
      split
      · rename_i hn
        have hb : u.toNat < F.length := by omega
        have : (F.set u.toNat t).getD u.toNat 0 = t := by simp [List.getD, List.getElem?_set_self hb]
        rw [this, if_neg (by omega), if_pos ⟨by simp, hn⟩]
      · rename_i hn
        rw [if_neg (by intro h; exact hn h.2), if_neg (by intro h; exact hn h.2)]
    · have hne : x.toNat ≠ u.toNat := by omega
      have : (setF t F x).getD u.toNat 0 = F.getD u.toNat 0 := by
        unfold setF
        split
        · simp [List.getD, List.getElem?_set_ne hne]
        · rfl
      rw [this]
      simp [e]

theorem foldG_get {t : Int} : ∀ (S F : List Int) (u : Int), (∀ x ∈ S, 0 ≤ x ∧ x < 9) → F.length = 9 → 0 ≤ u → u < 9 →
    (S.foldl (setG t) F).getD u.toNat 0 = if u ∈ S then t else F.getD u.toNat 0
  | [], F, u, _, _, _, _ => by simp
  | x :: S, F, u, hS, hF, h0, h9 => by
    rw [List.foldl_cons, foldG_get S _ u (fun y hy => hS y (by simp [hy])) (by rw [setG_len]; exact hF) h0 h9]
    have hx := hS x (by simp)
    by_cases e : u = x
    · subst e
      have hb : u.toNat < F.length := by omega
      have : (setG t F u).getD u.toNat 0 = t := by simp [setG, List.getD, List.getElem?_set_self hb]
      rw [this]
      simp
    · have hne : x.toNat ≠ u.toNat := by omega
      have : (setG t F x).getD u.toNat 0 = F.getD u.toNat 0 := by simp [setG, List.getD, List.getElem?_set_ne hne]
      rw [this]
      simp [e]

theorem nodup_at {L : List Int} (h : L.Nodup) {i j : Nat} {u : Int} (hi : L[i]? = some u) (hj : L[j]? = some u) : i = j := by
  obtain ⟨h1, e1⟩ := List.getElem?_eq_some_iff.1 hi
  obtain ⟨h2, e2⟩ := List.getElem?_eq_some_iff.1 hj
  exact (List.getElem_inj h).1 (e1.trans e2.symm)

structure Rows2 (L : List Int) (W E Wt T N : Int) (d : Nat) (F G : List Int) : Prop where
  lenF : F.length = 9
  lenG : G.length = 9
  first : ∀ (i : Nat) (u : Int), L[i]? = some u → F.getD u.toNat 0 = if firstAt W E i ≤ (d : Int) then N + firstAt W E i else -1
  gone : ∀ (i : Nat) (u : Int), L[i]? = some u → G.getD u.toNat 0 = if firstAt W E i + T * Wt ≤ (d : Int) then N + firstAt W E i + T * Wt else -1

theorem Rows2.step {L : List Int} {W E Wt T N : Int} {d : Nat} {F G S O : List Int} (hL : L.Nodup) (hr : ∀ u ∈ L, 0 ≤ u ∧ u < 9) (hE : 1 ≤ E) (hN : 0 ≤ N) (h : Rows2 L W E Wt T N d F G)
    (h1 : ∀ u ∈ S, ∃ i, L[i]? = some u ∧ firstAt W E i ≤ (d : Int) + 1)
    (h2 : ∀ i u, L[i]? = some u → firstAt W E i = (d : Int) + 1 → u ∈ S)
    (h3 : ∀ u, u ∈ O ↔ ∃ i, L[i]? = some u ∧ firstAt W E i + T * Wt = (d : Int) + 1) :
    Rows2 L W E Wt T N (d + 1) (S.foldl (setF (N + (d + 1))) F) (O.foldl (setG (N + (d + 1))) G) := by
  obtain ⟨lF, lG, hf, hg⟩ := h
  have rS : ∀ x ∈ S, 0 ≤ x ∧ x < 9 := fun x hx => by obtain ⟨i, hi, _⟩ := h1 x hx; exact hr x (List.mem_of_getElem? hi)
  have rO : ∀ x ∈ O, 0 ≤ x ∧ x < 9 := fun x hx => by obtain ⟨i, hi, _⟩ := (h3 x).1 hx; exact hr x (List.mem_of_getElem? hi)
  have hcast : ((d + 1 : Nat) : Int) = (d : Int) + 1 := by omega
  refine ⟨by rw [foldF_len]; exact lF, by rw [foldG_len]; exact lG, ?_, ?_⟩
  · intro i u hi
    have hu := hr u (List.mem_of_getElem? hi)
    have hA := @firstAt_nonneg W E i hE
    rw [foldF_get (by omega) S F u rS lF hu.1 hu.2, hf i u hi, hcast]
    by_cases ha : firstAt W E i ≤ (d : Int)
    · rw [if_pos ha, if_neg (by omega), if_pos (by omega)]
    · rw [if_neg ha]
      by_cases hb : firstAt W E i = (d : Int) + 1
      · rw [if_pos ⟨h2 i u hi hb, by omega⟩, if_pos (by omega), hb]
      · rw [if_neg, if_neg (by omega)]
        rintro ⟨hm, _⟩
        obtain ⟨j, hj, hA2⟩ := h1 u hm
        obtain rfl := nodup_at hL hi hj
        omega
  · intro i u hi
    have hu := hr u (List.mem_of_getElem? hi)
    rw [foldG_get O G u rO lG hu.1 hu.2, hg i u hi, hcast]
    by_cases hb : firstAt W E i + T * Wt = (d : Int) + 1
    · rw [if_pos ((h3 u).2 ⟨i, hi, hb⟩), if_pos (by omega)]
      omega
    · rw [if_neg]
      · by_cases ha : firstAt W E i + T * Wt ≤ (d : Int)
        · rw [if_pos ha, if_pos (by omega)]
        · rw [if_neg ha, if_neg (by omega)]
      · intro hm
        obtain ⟨j, hj, hA2⟩ := (h3 u).1 hm
        obtain rfl := nodup_at hL hi hj
        exact hb hA2

/-- Nobody who is given up was given up before; and the row's number at that place is below 0. -/
theorem Rows2.notYet {L : List Int} {W E Wt T N : Int} {d : Nat} {F G O : List Int} (hr : ∀ u ∈ L, 0 ≤ u ∧ u < 9) (h : Rows2 L W E Wt T N d F G)
    (h3 : ∀ u, u ∈ O ↔ ∃ i, L[i]? = some u ∧ firstAt W E i + T * Wt = (d : Int) + 1) (hn : O.Nodup) {t : Int} {k : Nat} {u : Int} (hk : O[k]? = some u) :
    0 ≤ u ∧ u < 9 ∧ ((O.take k).foldl (setG t) G).getD u.toNat 0 < 0 := by
  have hm := List.mem_of_getElem? hk
  obtain ⟨i, hi, hA⟩ := (h3 u).1 hm
  have hu := hr u (List.mem_of_getElem? hi)
  refine ⟨hu.1, hu.2, ?_⟩
  rw [foldG_get _ G u (fun x hx => by obtain ⟨i, hi, _⟩ := (h3 x).1 (List.mem_of_mem_take hx); exact hr x (List.mem_of_getElem? hi)) h.lenG hu.1 hu.2, if_neg, h.gone i u hi, if_neg (by omega)]
  · omega
  · intro hx
    obtain ⟨j, hj, hx⟩ := mem_take hx
    have := nodup_at hn hx hk
    omega

end Go.Proofs.Ytbpbhccgnfakiaa.Hg
