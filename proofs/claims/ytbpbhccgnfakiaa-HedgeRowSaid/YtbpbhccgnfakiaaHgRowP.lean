/- HedgeRow's plain law: how often each one was asked, who is over, who was asked first. No program is named here. -/
import Derived.Test.YtbpbhccgnfakiaaHgGoneP
import Derived.Test.YtbpbhccgnfakiaaHgWalkB
namespace Go.Proofs.Ytbpbhccgnfakiaa.Hg

def inc (F : List Int) (u : Int) : List Int := F.set u.toNat (F.getD u.toNat 0 + 1)
def sentOne (s : List Int × List Int) (u : Int) : List Int × List Int := (inc s.1 u, if s.1.getD u.toNat 0 + 1 = 1 then s.2 ++ [u] else s.2)

theorem inc_len (F : List Int) (u : Int) : (inc F u).length = F.length := by simp [inc]

theorem inc_self {F : List Int} {u : Int} (hF : F.length = 9) (h9 : u < 9) : (inc F u).getD u.toNat 0 = F.getD u.toNat 0 + 1 := by
  have hb : u.toNat < F.length := by omega
  simp [inc, List.getD, List.getElem?_set_self hb]

theorem inc_ne {F : List Int} {u v : Int} (h0 : 0 ≤ u) (hv : 0 ≤ v) (hne : v ≠ u) : (inc F u).getD v.toNat 0 = F.getD v.toNat 0 := by
  have hb : u.toNat ≠ v.toNat := by omega
  simp [inc, List.getD, List.getElem?_set_ne hb]

structure RowInv (L : List Int) (T : Int) (l : List Up) (next : Nat) (Tm Ov fs : List Int) : Prop where
  lenT : Tm.length = 9
  lenO : Ov.length = 9
  len : l.length = L.length
  us : ∀ (i : Nat) (x : Up), l[i]? = some x → L[i]? = some x.u
  tm : ∀ (i : Nat) (x : Up), l[i]? = some x → Tm.getD x.u.toNat 0 = x.n
  ov : ∀ (i : Nat) (x : Up), l[i]? = some x → Ov.getD x.u.toNat 0 = if x.op = false ∧ 0 < x.n then 1 else 0
  nn : ∀ (i : Nat) (x : Up), l[i]? = some x → 0 ≤ x.n ∧ x.n ≤ T ∧ (x.op = true → 0 < x.n)
  nx : ∀ (i : Nat) (x : Up), l[i]? = some x → (i < next ↔ 0 < x.n)
  out : ∀ u : Int, 0 ≤ u → u < 9 → u ∉ L → Tm.getD u.toNat 0 = 0 ∧ Ov.getD u.toNat 0 = 0
  fs : fs = L.take next
  nextle : next ≤ L.length

theorem mod_at {α : Type} {l : List α} {i j : Nat} {f : α → α} {y : α} (h : (l.modify i f)[j]? = some y) : ∃ x, l[j]? = some x ∧ y = if i = j then f x else x := by
  rw [List.getElem?_modify] at h
  cases hx : l[j]? with
  | none => rw [hx] at h; cases h
  | some x =>
    rw [hx] at h
    refine ⟨x, rfl, ?_⟩
    by_cases e : i = j
    · simp [e] at h ⊢; exact h.symm
    · simp [e] at h ⊢; exact h.symm

theorem RowInv.u_ne {L : List Int} {T : Int} {l : List Up} {next : Nat} {Tm Ov fs : List Int} (hL : L.Nodup) (h : RowInv L T l next Tm Ov fs) {i j : Nat} {x y : Up} (hx : l[i]? = some x) (hy : l[j]? = some y) (hij : i ≠ j) : y.u ≠ x.u := by
  intro e
  have h1 := h.us i x hx
  have h2 := h.us j y hy
  rw [e] at h2
  exact hij (nodup_at hL h1 h2)

theorem RowInv.ask {L : List Int} {T : Int} {l : List Up} {next : Nat} {Tm Ov fs : List Int} (hL : L.Nodup) (hr : ∀ u ∈ L, 0 ≤ u ∧ u < 9) (h : RowInv L T l next Tm Ov fs) {i : Nat} {x : Up} (now : Int)
    (hx : l[i]? = some x) (hi : i ≤ next) (hn : x.n < T) (ho : x.op = true ∨ x.n = 0) :
    RowInv L T (l.modify i (fun y => y.ask now)) (max next (i + 1)) (sentOne (Tm, fs) x.u).1 Ov (sentOne (Tm, fs) x.u).2 := by
  have hux := hr x.u (List.mem_of_getElem? (h.us i x hx))
  have hil := (List.getElem?_eq_some_iff.1 hx).1
  obtain ⟨n0, n1, n2⟩ := h.nn i x hx
  have hnx := h.nx i x hx
  have hlen := h.len
  refine ⟨by rw [sentOne, inc_len]; exact h.lenT, h.lenO, by rw [List.length_modify]; exact h.len, ?_, ?_, ?_, ?_, ?_, ?_, ?_, ?_⟩
  · intro j y hy
    obtain ⟨z, hz, rfl⟩ := mod_at hy
    have := h.us j z hz
    split <;> exact this
  · intro j y hy
    obtain ⟨z, hz, rfl⟩ := mod_at hy
    by_cases e : i = j
    · subst e
      rw [hx] at hz
      obtain rfl := Option.some.inj hz
      rw [if_pos rfl]
      simp only [Up.ask, sentOne]
      rw [inc_self h.lenT hux.2, h.tm i x hx]
    · rw [if_neg e]
      have hzu := hr z.u (List.mem_of_getElem? (h.us j z hz))
      simp only [sentOne]
      rw [inc_ne hux.1 hzu.1 (h.u_ne hL hx hz e), h.tm j z hz]
  · intro j y hy
    obtain ⟨z, hz, rfl⟩ := mod_at hy
    by_cases e : i = j
    · subst e
      rw [hx] at hz
      obtain rfl := Option.some.inj hz
      rw [if_pos rfl]
      have e : (x.ask now).op = true := rfl
      show Ov.getD x.u.toNat 0 = _
      rw [h.ov i x hx, if_neg, if_neg (by rw [e]; simp)]
      rintro ⟨h1, h2⟩
      rcases ho with ho | ho
      · rw [ho] at h1; cases h1
      · omega
    · rw [if_neg e]
      exact h.ov j z hz
  · intro j y hy
    obtain ⟨z, hz, rfl⟩ := mod_at hy
    by_cases e : i = j
    · subst e
      rw [hx] at hz
      obtain rfl := Option.some.inj hz
      rw [if_pos rfl]
      simp only [Up.ask]
      exact ⟨by omega, by omega, fun _ => by omega⟩
    · rw [if_neg e]
      exact h.nn j z hz
  · intro j y hy
    obtain ⟨z, hz, rfl⟩ := mod_at hy
    by_cases e : i = j
    · subst e
      rw [hx] at hz
      obtain rfl := Option.some.inj hz
      rw [if_pos rfl]
      simp only [Up.ask]
      constructor <;> intro <;> omega
    · rw [if_neg e, ← h.nx j z hz]
      constructor <;> intro <;> omega
  · intro u h0 h9 hu
    have hne : u ≠ x.u := fun e => hu (by rw [e]; exact List.mem_of_getElem? (h.us i x hx))
    simp only [sentOne]
    rw [inc_ne hux.1 h0 hne]
    exact h.out u h0 h9 hu
  · simp only [sentOne]
    rw [h.tm i x hx]
    by_cases e : x.n = 0
    · have hin : i = next := by omega
      subst hin
      rw [if_pos (by omega), h.fs, show max i (i + 1) = i + 1 by omega, take_succ_some (h.us i x hx)]
    · rw [if_neg (by omega), show max next (i + 1) = next by have := hnx.2 (by omega); omega]
      exact h.fs
  · have := h.nextle
    omega

theorem RowInv.shut {L : List Int} {T : Int} {l : List Up} {next : Nat} {Tm Ov fs : List Int} (hL : L.Nodup) (hr : ∀ u ∈ L, 0 ≤ u ∧ u < 9) (h : RowInv L T l next Tm Ov fs) {i : Nat} {x : Up}
    (hx : l[i]? = some x) (ho : x.op = true) : RowInv L T (l.modify i Up.shut) next Tm (inc Ov x.u) fs := by
  have hux := hr x.u (List.mem_of_getElem? (h.us i x hx))
  obtain ⟨n0, n1, n2⟩ := h.nn i x hx
  refine ⟨h.lenT, by rw [inc_len]; exact h.lenO, by rw [List.length_modify]; exact h.len, ?_, ?_, ?_, ?_, ?_, ?_, h.fs, h.nextle⟩
  · intro j y hy
    obtain ⟨z, hz, rfl⟩ := mod_at hy
    have := h.us j z hz
    split <;> exact this
  · intro j y hy
    obtain ⟨z, hz, rfl⟩ := mod_at hy
    have := h.tm j z hz
    split <;> exact this
  · intro j y hy
    obtain ⟨z, hz, rfl⟩ := mod_at hy
    by_cases e : i = j
    · subst e
      rw [hx] at hz
      obtain rfl := Option.some.inj hz
      rw [if_pos rfl]
      show (inc Ov x.u).getD x.u.toNat 0 = if x.shut.op = false ∧ 0 < x.shut.n then 1 else 0
      rw [inc_self h.lenO hux.2, h.ov i x hx, if_neg (by rw [ho]; simp), if_pos ⟨rfl, n2 ho⟩]
      rfl
    · rw [if_neg e]
      have hzu := hr z.u (List.mem_of_getElem? (h.us j z hz))
      rw [inc_ne hux.1 hzu.1 (h.u_ne hL hx hz e), h.ov j z hz]
  · intro j y hy
    obtain ⟨z, hz, rfl⟩ := mod_at hy
    by_cases e : i = j
    · subst e
      rw [hx] at hz
      obtain rfl := Option.some.inj hz
      rw [if_pos rfl]
      exact ⟨n0, n1, fun h => by cases h⟩
    · rw [if_neg e]
      exact h.nn j z hz
  · intro j y hy
    obtain ⟨z, hz, rfl⟩ := mod_at hy
    have := h.nx j z hz
    split <;> exact this
  · intro u h0 h9 hu
    have hne : u ≠ x.u := fun e => hu (by rw [e]; exact List.mem_of_getElem? (h.us i x hx))
    rw [inc_ne hux.1 h0 hne]
    exact h.out u h0 h9 hu

theorem modify_eq {α : Type} {l : List α} {i : Nat} {x : α} {f g : α → α} (hx : l[i]? = some x) (e : f x = g x) : l.modify i f = l.modify i g := by
  apply List.ext_getElem?
  intro k
  simp only [List.getElem?_modify]
  by_cases hk : i = k
  · subst hk; simp [hx, e]
  · simp [hk]

theorem modify_id {α : Type} {l : List α} {i : Nat} {x : α} {f : α → α} (hx : l[i]? = some x) (e : f x = x) : l.modify i f = l := by
  rw [modify_eq hx (g := id) e]
  apply List.ext_getElem?
  intro k
  simp

theorem Up.fate_op {x : Up} {now wait tries : Int} {b : Bool} (h : x.fate now wait tries = some b) : x.op = true ∧ (if b then x.n < tries else tries ≤ x.n) := by
  unfold Up.fate at h
  split at h
  · cases h
  · rename_i hc
    have ho : x.op = true := by
      cases hx : x.op with
      | true => rfl
      | false => exact absurd (.inl hx) hc
    split at h
    · obtain rfl := Option.some.inj h
      exact ⟨ho, by simpa⟩
    · obtain rfl := Option.some.inj h
      refine ⟨ho, ?_⟩
      simp only [↓reduceIte]
      omega

/-- A reading's own part, as far as it has come. -/
theorem RowInv.mid {L : List Int} {T : Int} {P : Plan} {Tm Ov fs : List Int} (hL : L.Nodup) (hr : ∀ u ∈ L, 0 ≤ u ∧ u < 9) (hT : P.tries = T) (h : RowInv L T P.l P.next Tm Ov fs) :
    ∀ i, i ≤ P.next → RowInv L T (P.mid i).l P.next ((P.sendTo i).foldl sentOne (Tm, fs)).1 ((P.goneTo i).foldl inc Ov) ((P.sendTo i).foldl sentOne (Tm, fs)).2
  | 0, _ => by rw [Plan.mid_zero]; simpa [Plan.sendTo, Plan.goneTo] using h
  | i + 1, hi => by
    have ih := RowInv.mid hL hr hT h i (by omega)
    have hil : i < P.l.length := by have := h.nextle; have := h.len; omega
    have hx : P.l[i]? = some P.l[i] := List.getElem?_eq_getElem hil
    have hm := P.mid_get hx
    rw [P.mid_succ hx, P.sendTo_succ hx, P.goneTo_succ hx]
    generalize P.l[i] = x at *
    cases hf : x.fate P.now P.wait P.tries with
    | none =>
      have e1 : x.goneOf P.now P.wait P.tries = [] := by unfold Up.goneOf; rw [hf]
      have e2 : x.sendOf P.now P.wait P.tries = [] := by unfold Up.sendOf; rw [hf]
      have e3 : x.ticked P.now P.wait P.tries = x := by unfold Up.ticked; rw [hf]
      rw [e1, e2, List.append_nil, List.append_nil, modify_id hm e3]
      exact ih
    | some b =>
      obtain ⟨ho, hb⟩ := Up.fate_op hf
      cases b with
      | false =>
        have e1 : x.goneOf P.now P.wait P.tries = [x.u] := by unfold Up.goneOf; rw [hf]
        have e2 : x.sendOf P.now P.wait P.tries = [] := by unfold Up.sendOf; rw [hf]
        have e3 : x.ticked P.now P.wait P.tries = x.shut := by unfold Up.ticked; rw [hf]
        rw [e1, e2, List.append_nil, modify_eq hm (g := Up.shut) e3, List.foldl_append]
        exact ih.shut hL hr hm ho
      | true =>
        have e1 : x.goneOf P.now P.wait P.tries = [] := by unfold Up.goneOf; rw [hf]
        have e2 : x.sendOf P.now P.wait P.tries = [x.u] := by unfold Up.sendOf; rw [hf]
        have e3 : x.ticked P.now P.wait P.tries = x.ask P.now := by unfold Up.ticked; rw [hf]
        rw [e1, e2, List.append_nil, modify_eq hm (g := fun y => y.ask P.now) e3, List.foldl_append]
        have hb' : x.n < T := by rw [← hT]; simpa using hb
        have := ih.ask hL hr P.now hm (by omega) hb' (.inl ho)
        rw [show max P.next (i + 1) = P.next by omega] at this
        exact this

theorem flatMap_at {α : Type} {f : α → List Int} (hf : ∀ x, (f x).length ≤ 1) {l : List α} : ∀ {n k : Nat} {u : Int}, ((l.take n).flatMap f)[k]? = some u →
    ∃ i x, i < n ∧ l[i]? = some x ∧ f x = [u] ∧ ((l.take n).flatMap f).take k = (l.take i).flatMap f
  | 0, k, u, h => by simp at h
  | n + 1, k, u, h => by
    cases hx : l[n]? with
    | none =>
      have hl : l.length ≤ n := List.getElem?_eq_none_iff.1 hx
      rw [List.take_of_length_le (by omega)] at h
      have h2 : ((l.take n).flatMap f)[k]? = some u := by rw [List.take_of_length_le hl]; exact h
      obtain ⟨i, x, hi, h3, h4, h5⟩ := flatMap_at hf h2
      refine ⟨i, x, by omega, h3, h4, ?_⟩
      rw [show l.take (n + 1) = l.take n by rw [List.take_of_length_le hl, List.take_of_length_le (by omega)]]
      exact h5
    | some x =>
      rw [take_succ_some hx, List.flatMap_append] at h ⊢
      simp only [List.flatMap_cons, List.flatMap_nil, List.append_nil] at h ⊢
      by_cases hk : k < ((l.take n).flatMap f).length
      · rw [List.getElem?_append_left hk] at h
        obtain ⟨i, y, hi, h3, h4, h5⟩ := flatMap_at hf h
        exact ⟨i, y, by omega, h3, h4, by rw [List.take_append_of_le_length (by omega)]; exact h5⟩
      · rw [List.getElem?_append_right (by omega)] at h
        have h1 := hf x
        obtain ⟨hj, hu⟩ := List.getElem?_eq_some_iff.1 h
        have hj0 : k - ((l.take n).flatMap f).length = 0 := by omega
        refine ⟨n, x, by omega, hx, ?_, ?_⟩
        · cases hfx : f x with
          | nil => rw [hfx] at hj; simp at hj
          | cons a t =>
            rw [hfx] at h1
            have : t = [] := List.eq_nil_of_length_eq_zero (by simp only [List.length_cons] at h1; omega)
            subst this
            rw [hfx] at h
            rw [hj0] at h
            simp at h
            rw [h]
        · rw [show k = ((l.take n).flatMap f).length by omega]
          simp

theorem goneOf_le (now wait tries : Int) (x : Up) : (x.goneOf now wait tries).length ≤ 1 := by unfold Up.goneOf; split <;> simp
theorem sendOf_le (now wait tries : Int) (x : Up) : (x.sendOf now wait tries).length ≤ 1 := by unfold Up.sendOf; split <;> simp

theorem goneOf_one {x : Up} {now wait tries u : Int} (h : x.goneOf now wait tries = [u]) : x.fate now wait tries = some false ∧ u = x.u := by
  unfold Up.goneOf at h
  split at h
  · rename_i hf; exact ⟨hf, by simpa using h.symm⟩
  · cases h

theorem sendOf_one {x : Up} {now wait tries u : Int} (h : x.sendOf now wait tries = [u]) : x.fate now wait tries = some true ∧ u = x.u := by
  unfold Up.sendOf at h
  split at h
  · rename_i hf; exact ⟨hf, by simpa using h.symm⟩
  · cases h

/-- What the closure asks of those that are sent to. -/
def SentOk (S Ov Tm fs : List Int) (T : Int) : Prop :=
  ∀ (k : Nat) (u : Int), S[k]? = some u → 0 ≤ u ∧ u < 9 ∧ Ov.getD u.toNat 0 = 0 ∧ 0 ≤ ((S.take k).foldl sentOne (Tm, fs)).1.getD u.toNat 0 ∧ ((S.take k).foldl sentOne (Tm, fs)).1.getD u.toNat 0 < T

theorem fold_fst_len (S : List Int) : ∀ (s : List Int × List Int), (S.foldl sentOne s).1.length = s.1.length := by
  induction S with
  | nil => intro s; rfl
  | cons u S ih => intro s; rw [List.foldl_cons, ih, sentOne, inc_len]

/-- A reading. -/
theorem RowInv.tick {L : List Int} {T : Int} {P : Plan} {Tm Ov fs : List Int} (hL : L.Nodup) (hr : ∀ u ∈ L, 0 ≤ u ∧ u < 9) (hT : P.tries = T) (hT1 : 1 ≤ T) (h : RowInv L T P.l P.next Tm Ov fs) (t : Int) :
    RowInv L T (P.tick t).2.2.l (P.tick t).2.2.next ((P.tick t).2.1.foldl sentOne (Tm, fs)).1 ((P.tick t).1.foldl inc Ov) ((P.tick t).2.1.foldl sentOne (Tm, fs)).2 ∧
    SentOk (P.tick t).2.1 Ov Tm fs T ∧
    (∀ (k : Nat) (u : Int), (P.tick t).1[k]? = some u → 0 ≤ u ∧ u < 9 ∧ (((P.tick t).1.take k).foldl inc Ov).getD u.toNat 0 = 0 ∧ ((P.tick t).2.1.foldl sentOne (Tm, fs)).1.getD u.toNat 0 = T) := by
  have h0 : RowInv L T (P.to t).l (P.to t).next Tm Ov fs := h
  have hT0 : (P.to t).tries = T := hT
  simp only [Plan.tick]
  generalize P.to t = p at *
  have hm := RowInv.mid hL hr hT0 h0
  have hmn := hm p.next (Nat.le_refl _)
  have hmnext : (p.mid p.next).next = p.next := rfl
  have hle : p.next ≤ p.l.length := by have := h0.nextle; have := h0.len; omega
  -- those that are asked again
  have hS1 : ∀ (k : Nat) (u : Int), (p.sendTo p.next)[k]? = some u → 0 ≤ u ∧ u < 9 ∧ Ov.getD u.toNat 0 = 0 ∧ 0 ≤ (((p.sendTo p.next).take k).foldl sentOne (Tm, fs)).1.getD u.toNat 0 ∧ (((p.sendTo p.next).take k).foldl sentOne (Tm, fs)).1.getD u.toNat 0 < T := by
    intro k u hk
    obtain ⟨i, x, hi, hx, hfx, htk⟩ := flatMap_at (sendOf_le p.now p.wait p.tries) hk
    obtain ⟨hf, rfl⟩ := sendOf_one hfx
    obtain ⟨ho, hb⟩ := Up.fate_op hf
    have hu := hr x.u (List.mem_of_getElem? (h0.us i x hx))
    have hmi := hm i (by omega)
    have e1 := hmi.tm i x (p.mid_get hx)
    have hn := h0.nn i x hx
    have ht : (p.sendTo p.next).take k = p.sendTo i := htk
    rw [ht, e1]
    refine ⟨hu.1, hu.2, ?_, hn.1, by rw [← hT0]; simpa using hb⟩
    rw [h0.ov i x hx, if_neg (by rw [ho]; simp)]
  -- those that are given up
  have hG1 : ∀ (k : Nat) (u : Int), (p.goneTo p.next)[k]? = some u → ∃ i x, i < p.next ∧ p.l[i]? = some x ∧ u = x.u ∧ x.n = T ∧ (((p.goneTo p.next).take k).foldl inc Ov).getD u.toNat 0 = 0 ∧ (p.mid p.next).l[i]? = some x.shut := by
    intro k u hk
    obtain ⟨i, x, hi, hx, hfx, htk⟩ := flatMap_at (goneOf_le p.now p.wait p.tries) hk
    obtain ⟨hf, rfl⟩ := goneOf_one hfx
    obtain ⟨ho, hb⟩ := Up.fate_op hf
    have hmi := hm i (by omega)
    have e1 := hmi.ov i x (p.mid_get hx)
    have hn := h0.nn i x hx
    have ht : (p.goneTo p.next).take k = p.goneTo i := htk
    refine ⟨i, x, hi, hx, rfl, by rw [hT0] at hb; simp at hb; omega, ?_, ?_⟩
    · rw [ht, e1, if_neg (by rw [ho]; simp)]
    · simp only [Plan.mid]
      have hil := (List.getElem?_eq_some_iff.1 hx).1
      rw [List.getElem?_append_left (by simp; omega), List.getElem?_map, List.getElem?_take, if_pos hi, hx]
      simp [Up.ticked, hf]
  generalize hQ : p.mid p.next = Q at *
  by_cases hc : Q.ks < (Q.now - Q.start) / Q.every ∧ Q.next < Q.l.length
  · obtain ⟨hc1, hc2⟩ := hc
    have hm : Q.more = ([Q.uAt Q.next], ({ Q with ks := (Q.now - Q.start) / Q.every } : Plan).ask Q.next) := by
      unfold Plan.more
      rw [if_pos hc1]
      exact if_pos hc2
    rw [hm]
    have hx : Q.l[Q.next]? = some Q.l[Q.next] := List.getElem?_eq_getElem hc2
    have hu : Q.uAt Q.next = Q.l[Q.next].u := by unfold Plan.uAt; rw [hx]
    rw [hu]
    have hx' : Q.l[p.next]? = some Q.l[Q.next] := by rw [← hmnext]; exact hx
    generalize Q.l[Q.next] = x at *
    have hn := hmn.nn _ _ hx'
    have hn2 := hmn.nx _ _ hx'
    have hn0 : x.n = 0 := by omega
    have hop : x.op = false := by
      cases e : x.op with
      | false => rfl
      | true => have := hn.2.2 e; omega
    have hux := hr x.u (List.mem_of_getElem? (hmn.us _ _ hx'))
    have hask := hmn.ask hL hr Q.now hx' (Nat.le_refl _) (by omega) (.inr hn0)
    rw [List.foldl_append]
    have hk2 : ∀ (k : Nat) (u : Int), (p.sendTo p.next ++ [x.u])[k]? = some u → k < (p.sendTo p.next).length ∧ (p.sendTo p.next)[k]? = some u ∨ k = (p.sendTo p.next).length ∧ u = x.u := by
      intro k u hk
      by_cases hkl : k < (p.sendTo p.next).length
      · rw [List.getElem?_append_left hkl] at hk
        exact .inl ⟨hkl, hk⟩
      · rw [List.getElem?_append_right (by omega)] at hk
        obtain ⟨hj, e⟩ := List.getElem?_eq_some_iff.1 hk
        simp at hj e
        exact .inr ⟨by omega, e.symm⟩
    -- whoever is given up is not the one that is asked first here
    have hovx : Ov.getD x.u.toNat 0 = 0 := by
      have hpl : p.next < p.l.length := by
        have : Q.l.length = p.l.length := by rw [← hQ]; exact Plan.mid_len _ _
        omega
      have hy : p.l[p.next]? = some p.l[p.next] := List.getElem?_eq_getElem hpl
      have e1 := h0.us _ _ hy
      have e2 := hmn.us _ _ hx'
      rw [e1] at e2
      have e3 := Option.some.inj e2
      rw [← e3, h0.ov _ _ hy, if_neg]
      rintro ⟨_, h2⟩
      have := (h0.nx _ _ hy).2 h2
      omega
    refine ⟨?_, ?_, ?_⟩
    · have e : (({ Q with ks := (Q.now - Q.start) / Q.every } : Plan).ask Q.next).next = max p.next (p.next + 1) := by simp only [Plan.ask]; rw [hmnext]
      have e2 : (({ Q with ks := (Q.now - Q.start) / Q.every } : Plan).ask Q.next).l = Q.l.modify p.next (fun y => y.ask Q.now) := by simp only [Plan.ask]; rw [hmnext]
      rw [e, e2]
      exact hask
    · intro k u hk
      rcases hk2 k u hk with ⟨hkl, hk⟩ | ⟨rfl, rfl⟩
      · have := hS1 k u hk
        rw [List.take_append_of_le_length (by omega)]
        exact this
      · rw [List.take_left']
        · have e1 := hmn.tm _ _ hx'
          rw [e1]
          exact ⟨hux.1, hux.2, hovx, by omega, by omega⟩
        · rfl
    · intro k u hk
      obtain ⟨i, y, hi, hy, rfl, hyT, hov, hyQ⟩ := hG1 k u hk
      have huy := hr y.u (List.mem_of_getElem? (h0.us i y hy))
      refine ⟨huy.1, huy.2, hov, ?_⟩
      have hne := hmn.u_ne hL hx' hyQ (show p.next ≠ i by omega)
      have e1 := hmn.tm _ _ hyQ
      simp only [List.foldl_cons, List.foldl_nil, sentOne]
      simp only [Up.shut] at e1 hne
      rw [inc_ne hux.1 huy.1 hne, e1, hyT]
  · have hm : Q.more.1 = [] ∧ Q.more.2.l = Q.l ∧ Q.more.2.next = Q.next := by
      unfold Plan.more
      split
      · rename_i hc1
        dsimp only
        split
        · rename_i hc2; exact absurd ⟨hc1, hc2⟩ hc
        · exact ⟨rfl, rfl, rfl⟩
      · exact ⟨rfl, rfl, rfl⟩
    obtain ⟨m1, m2, m3⟩ := hm
    rw [m1, m2, m3, List.append_nil, hmnext]
    refine ⟨hmn, hS1, ?_⟩
    intro k u hk
    obtain ⟨i, y, hi, hy, rfl, hyT, hov, hyQ⟩ := hG1 k u hk
    have huy := hr y.u (List.mem_of_getElem? (h0.us i y hy))
    have e1 := hmn.tm _ _ hyQ
    simp only [Up.shut] at e1
    exact ⟨huy.1, huy.2, hov, by rw [e1, hyT]⟩

theorem findIdx_some {α : Type} {p : α → Bool} : ∀ {l : List α} {i : Nat}, l.findIdx? p = some i → ∃ x, l[i]? = some x ∧ p x = true
  | [], _, h => by simp at h
  | y :: l, i, h => by
    rw [List.findIdx?_cons] at h
    split at h
    · rename_i hp
      obtain rfl := Option.some.inj h
      exact ⟨y, rfl, hp⟩
    · rw [Option.map_eq_some_iff] at h
      obtain ⟨j, hj, rfl⟩ := h
      obtain ⟨x, hx, hp⟩ := findIdx_some hj
      exact ⟨x, by simpa using hx, hp⟩

/-- Close: nothing; or one that is open is over. -/
theorem RowInv.close {L : List Int} {T : Int} {P : Plan} {Tm Ov fs : List Int} (hL : L.Nodup) (hr : ∀ u ∈ L, 0 ≤ u ∧ u < 9) (h : RowInv L T P.l P.next Tm Ov fs) (u : Int) :
    ((P.close u).1 = false ∧ (P.close u).2 = P) ∨
    ((P.close u).1 = true ∧ 0 ≤ u ∧ u < 9 ∧ 0 < Tm.getD u.toNat 0 ∧ Tm.getD u.toNat 0 ≤ T ∧ Ov.getD u.toNat 0 = 0 ∧ RowInv L T (P.close u).2.l (P.close u).2.next Tm (inc Ov u) fs) := by
  unfold Plan.close
  split
  · rename_i i hi
    obtain ⟨x, hx, hp⟩ := findIdx_some hi
    simp only [Bool.and_eq_true, beq_iff_eq] at hp
    obtain ⟨rfl, ho⟩ := hp
    have hu := hr x.u (List.mem_of_getElem? (h.us i x hx))
    have hn := h.nn i x hx
    refine .inr ⟨rfl, hu.1, hu.2, by rw [h.tm i x hx]; exact hn.2.2 ho, by rw [h.tm i x hx]; exact hn.2.1, by rw [h.ov i x hx, if_neg (by rw [ho]; simp)], h.shut hL hr hx ho⟩
  · exact .inl ⟨rfl, rfl⟩

/-- More: nobody; or the next one. -/
theorem RowInv.moreQ {L : List Int} {T : Int} {P : Plan} {Tm Ov fs : List Int} (hL : L.Nodup) (hr : ∀ u ∈ L, 0 ≤ u ∧ u < 9) (hT1 : 1 ≤ T) (h : RowInv L T P.l P.next Tm Ov fs) (t : Int) :
    ((P.moreQ t).1.2 = false ∧ RowInv L T (P.moreQ t).2.l (P.moreQ t).2.next Tm Ov fs) ∨
    ((P.moreQ t).1.2 = true ∧ SentOk [(P.moreQ t).1.1] Ov Tm fs T ∧ RowInv L T (P.moreQ t).2.l (P.moreQ t).2.next (sentOne (Tm, fs) (P.moreQ t).1.1).1 Ov (sentOne (Tm, fs) (P.moreQ t).1.1).2) := by
  unfold Plan.moreQ
  split
  · rename_i hlt
    have hx : P.l[P.next]? = some P.l[P.next] := List.getElem?_eq_getElem hlt
    have hu : P.uAt P.next = P.l[P.next].u := by unfold Plan.uAt; rw [hx]
    rw [hu]
    generalize P.l[P.next] = x at *
    have hn := h.nn _ _ hx
    have hn2 := h.nx _ _ hx
    have hn0 : x.n = 0 := by omega
    have hux := hr x.u (List.mem_of_getElem? (h.us _ _ hx))
    refine .inr ⟨rfl, ?_, h.ask hL hr (P.to t).now hx (Nat.le_refl _) (by omega) (.inr hn0)⟩
    intro k u hk
    obtain ⟨hj, e⟩ := List.getElem?_eq_some_iff.1 hk
    have hk0 : k = 0 := by simpa using hj
    subst hk0
    simp at e
    subst e
    simp only [List.take_zero, List.foldl_nil]
    rw [h.tm _ _ hx, h.ov _ _ hx, if_neg (by rintro ⟨_, h2⟩; omega)]
    exact ⟨hux.1, hux.2, rfl, by omega, by omega⟩
  · exact .inl ⟨rfl, h⟩

/-- Who asks how often u was asked hears the row's number. -/
theorem RowInv.asked {L : List Int} {T : Int} {l : List Up} {next : Nat} {Tm Ov fs : List Int} (h : RowInv L T l next Tm Ov fs) {u : Int} (h0 : 0 ≤ u) (h9 : u < 9) : askedN l u = Tm.getD u.toNat 0 := by
  unfold askedN
  split
  · rename_i x hx
    have hm := List.mem_of_find?_eq_some hx
    have hp := List.find?_some hx
    simp only [beq_iff_eq] at hp
    obtain ⟨i, hi, e⟩ := List.mem_iff_getElem.1 hm
    have := h.tm i x (by rw [← e]; exact List.getElem?_eq_getElem hi)
    rw [← hp, this]
  · rename_i hx
    have hno := List.find?_eq_none.1 hx
    refine (h.out u h0 h9 ?_).1.symm
    intro hu
    obtain ⟨i, hi, e⟩ := List.mem_iff_getElem.1 hu
    have hil : i < l.length := by rw [h.len]; exact hi
    have h2 := h.us i _ (List.getElem?_eq_getElem hil)
    rw [List.getElem?_eq_getElem hi, e] at h2
    have h3 := Option.some.inj h2
    exact hno _ (List.getElem_mem hil) (by simp [← h3])

/-- How many of the first k are open, as the rows say. -/
def cnt (Tm Ov : List Int) (k : Nat) : Nat := ((List.range k).filter (fun j => decide (0 < Tm.getD j 0) && decide (Ov.getD j 0 = 0))).length

theorem cnt_succ (Tm Ov : List Int) (k : Nat) : cnt Tm Ov (k + 1) = cnt Tm Ov k + if 0 < Tm.getD k 0 ∧ Ov.getD k 0 = 0 then 1 else 0 := by
  unfold cnt
  rw [List.range_succ, List.filter_append, List.length_append]
  by_cases h : 0 < Tm.getD k 0 ∧ Ov.getD k 0 = 0
  · rw [if_pos h]
    simp only [List.filter_cons, h.1, h.2]
    simp
  · rw [if_neg h]
    have : (decide (0 < Tm.getD k 0) && decide (Ov.getD k 0 = 0)) = false := by
      simp only [Bool.and_eq_false_iff, decide_eq_false_iff_not]
      by_cases h1 : 0 < Tm.getD k 0
      · exact .inr (fun h2 => h ⟨h1, h2⟩)
      · exact .inl h1
    simp only [List.filter_cons, this]
    simp

theorem RowInv.opens {L : List Int} {T : Int} {l : List Up} {next : Nat} {Tm Ov fs : List Int} (hL : L.Nodup) (hr : ∀ u ∈ L, 0 ≤ u ∧ u < 9) (h : RowInv L T l next Tm Ov fs) : openN l = (cnt Tm Ov 9 : Int) := by
  have hmem : ∀ u, u ∈ l.map (fun x => x.u) ↔ u ∈ L := by
    intro u
    constructor
    · intro hu
      obtain ⟨x, hx, rfl⟩ := List.mem_map.1 hu
      obtain ⟨i, hi, e⟩ := List.mem_iff_getElem.1 hx
      exact List.mem_of_getElem? (h.us i x (by rw [← e]; exact List.getElem?_eq_getElem hi))
    · intro hu
      obtain ⟨i, hi, e⟩ := List.mem_iff_getElem.1 hu
      have hil : i < l.length := by rw [h.len]; exact hi
      have h2 := h.us i _ (List.getElem?_eq_getElem hil)
      rw [List.getElem?_eq_getElem hi, e] at h2
      exact List.mem_map.2 ⟨_, List.getElem_mem hil, (Option.some.inj h2).symm⟩
  have hmap : l.map (fun x => x.u) = L := by
    apply List.ext_getElem?
    intro i
    rw [List.getElem?_map]
    cases hx : l[i]? with
    | none =>
      have := List.getElem?_eq_none_iff.1 hx
      have := h.len
      rw [Option.map_none, eq_comm, List.getElem?_eq_none_iff]
      omega
    | some x => rw [Option.map_some, h.us i x hx]
  have hd1 : ((l.filter (fun x => x.op)).map (fun x => x.u.toNat)).Nodup := by
    have h1 : (l.map (fun x => x.u)).Nodup := by rw [hmap]; exact hL
    have h2 : ((l.filter (fun x => x.op)).map (fun x => x.u)).Nodup := (List.filter_sublist.map _).nodup h1
    rw [List.nodup_iff_pairwise_ne, List.pairwise_map] at h2 ⊢
    refine List.Pairwise.imp_of_mem ?_ h2
    intro a b ha hb hab e
    have ha' := hr a.u ((hmem a.u).1 (List.mem_map.2 ⟨a, (List.mem_filter.1 ha).1, rfl⟩))
    have hb' := hr b.u ((hmem b.u).1 (List.mem_map.2 ⟨b, (List.mem_filter.1 hb).1, rfl⟩))
    exact hab (by omega)
  have hd2 : ((List.range 9).filter (fun j => decide (0 < Tm.getD j 0) && decide (Ov.getD j 0 = 0))).Nodup := List.filter_sublist.nodup List.nodup_range
  have hs1 : (l.filter (fun x => x.op)).map (fun x => x.u.toNat) ⊆ (List.range 9).filter (fun j => decide (0 < Tm.getD j 0) && decide (Ov.getD j 0 = 0)) := by
    intro j hj
    obtain ⟨x, hx, rfl⟩ := List.mem_map.1 hj
    obtain ⟨hx, ho⟩ := List.mem_filter.1 hx
    obtain ⟨i, hi, e⟩ := List.mem_iff_getElem.1 hx
    have hxi : l[i]? = some x := by rw [← e]; exact List.getElem?_eq_getElem hi
    have hu := hr x.u (List.mem_of_getElem? (h.us i x hxi))
    have hn := h.nn i x hxi
    simp only [List.mem_filter, List.mem_range, Bool.and_eq_true, decide_eq_true_eq]
    rw [h.tm i x hxi, h.ov i x hxi, if_neg (by rw [ho]; simp)]
    exact ⟨by omega, hn.2.2 ho, rfl⟩
  have hs2 : (List.range 9).filter (fun j => decide (0 < Tm.getD j 0) && decide (Ov.getD j 0 = 0)) ⊆ (l.filter (fun x => x.op)).map (fun x => x.u.toNat) := by
    intro j hj
    simp only [List.mem_filter, List.mem_range, Bool.and_eq_true, decide_eq_true_eq] at hj
    obtain ⟨hj9, ht, ho⟩ := hj
    by_cases hm : (j : Int) ∈ L
    · rw [← hmem] at hm
      obtain ⟨x, hx, e⟩ := List.mem_map.1 hm
      obtain ⟨i, hi, e2⟩ := List.mem_iff_getElem.1 hx
      have hxi : l[i]? = some x := by rw [← e2]; exact List.getElem?_eq_getElem hi
      have e3 : x.u.toNat = j := by omega
      have h1 := h.tm i x hxi
      have h2 := h.ov i x hxi
      rw [e3] at h1 h2
      refine List.mem_map.2 ⟨x, List.mem_filter.2 ⟨hx, ?_⟩, e3⟩
      cases hop : x.op with
      | true => rfl
      | false =>
        rw [if_pos ⟨hop, by omega⟩] at h2
        omega
    · have := h.out (j : Int) (by omega) (by omega) hm
      simp only [Int.toNat_natCast] at this
      omega
  have h1 := List.Nodup.length_le_of_subset hd1 hs1
  have h2 := List.Nodup.length_le_of_subset hd2 hs2
  unfold openN cnt
  rw [List.length_map] at h1 h2
  omega

end Go.Proofs.Ytbpbhccgnfakiaa.Hg
