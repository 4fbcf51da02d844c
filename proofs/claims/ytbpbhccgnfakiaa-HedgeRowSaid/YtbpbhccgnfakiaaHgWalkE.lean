/- Small functions over lists of integers: slices.Index, slices.Contains, hustingsref12.Ints, and hedge.within. -/
import Derived.Test.YtbpbhccgnfakiaaHgWalkC
namespace Go.Proofs.Ytbpbhccgnfakiaa.Hg
open Go.RowKit

/-- A slice of ints reads as a list. -/
def IntsAt (w : World) (v : Value) (l : List Int) : Prop :=
  ∃ a c, v = .slice a l.length c ∧ l.length ≤ c ∧ (l = [] ∨ ∃ b off, a = some ⟨b, off, none⟩ ∧ ∀ i x, l[i]? = some x → w.cell? ⟨b, off + i, none⟩ = some (.int .i64 x))

theorem IntsAt.of_own {w : World} {base : Nat} {v : Value} {l : List Int} (h : w.ownsRow base 3 1 v l.length (ints l)) : IntsAt w v l := by
  rcases h.2 with ⟨rfl, h2⟩ | ⟨g, cap, cur, rfl, _, _, hcap, _⟩
  · have : l = [] := List.eq_nil_of_length_eq_zero h2
    subst this
    exact ⟨none, 0, rfl, Nat.le_refl _, .inl rfl⟩
  · refine ⟨_, _, rfl, hcap, .inr ⟨g, 0, rfl, fun i x hx => ?_⟩⟩
    obtain ⟨hi, _⟩ := List.getElem?_eq_some_iff.1 hx
    rw [Nat.zero_add, h.cellAt i (by omega)]
    simp [hx]

theorem IntsAt.chg {S : Nat → Prop} {w w' : World} {v : Value} {l : List Int} (h : IntsAt w v l) (hc : Chg S w w') (hs : ∀ k, v.ownBlock = some k → ¬ S k) : IntsAt w' v l := by
  obtain ⟨a, c, rfl, hlc, h⟩ := h
  refine ⟨a, c, rfl, hlc, ?_⟩
  rcases h with h | ⟨b, off, rfl, h⟩
  · exact .inl h
  · exact .inr ⟨b, off, rfl, fun i x hx => hc.cell (h i x hx) (hs b rfl)⟩

theorem IntsAt.nob {w w' : World} {v : Value} {l : List Int} (h : IntsAt w v l) (hc : Chg Nob w w') : IntsAt w' v l := h.chg hc (fun _ _ h => h)

theorem within_yes (n m : Int) (w : World) (h1 : 1 ≤ n) (h2 : n ≤ m) :
    Calls Try.prog 25 #[.int .i64 n, .int .i64 m] w fun e w' => e = .returned (.bool true) ∧ w = w' := by
  go_enter Try.func25, Try.ntmps25
  go_wp2
  go_ret
  exact ⟨rfl, rfl⟩

/-- The place of u in l; below 0: it isn't there. -/
def idx (l : List Int) (u : Int) : Int := match l.findIdx? (fun x => x == u) with | some i => i | none => -1

theorem findIdx_step1 {p : Int → Bool} {l : List Int} {k : Nat} {x : Int} (h : (l.take k).findIdx? p = none) (hx : l[k]? = some x) :
    (p x = true → l.findIdx? p = some k) ∧ (p x = false → (l.take (k + 1)).findIdx? p = none) := findIdx_step h hx

set_option maxHeartbeats 400000 in
theorem index_any (w : World) (v : Value) (l : List Int) (u : Int) (h : IntsAt w v l) (hl : l.length ≤ 1000) :
    Calls Try.prog 27 #[v, .int .i64 u] w fun e w' => e = .returned (.int .i64 (idx l u)) ∧ w = w' := by
  obtain ⟨a, c, rfl, hlc, h⟩ := h
  clear hlc
  rcases h with h | ⟨b, off, rfl, h⟩
  · have hn : l.length = 0 := by simp [h]
    have H := Lib.hid h
    rw [hn]
    clear h hn hl
    go_enter Try.func27, Try.ntmps27
    go_wp2
    go_rounds 1
    go_ret
    exact ⟨by rw [H.out]; rfl, rfl⟩
  · have H := Lib.hid h
    clear h
    go_enter Try.func27, Try.ntmps27
    go_wp2
    go_loop [8] (fun i => ∃ k : Nat, k ≤ l.length ∧ i = .int .i64 k ∧ Hid ((l.take k).findIdx? (fun x => x == u) = none)) (fun i => l.length - (intOf i).toNat)
    case atStart => exact ⟨0, Nat.zero_le _, rfl, rfl⟩
    case round =>
      obtain ⟨k, hk, rfl, hf⟩ := hrel
      by_cases hlt : k < l.length
      · have hx : l[k]? = some l[k] := List.getElem?_eq_getElem hlt
        have hc := H.out k _ hx
        have hs := Lib.hid (findIdx_step hf.out hx)
        generalize l[k] = x at *
        clear hx
        by_cases he : x = u
        · have he' : (x == u) = true := by simpa using he
          have hret : idx l u = k := by unfold idx; rw [hs.out.1 he']
          have HR := Lib.hid hret
          subst he
          clear hret
          go_wp2
          go_ret
          exact ⟨ret_int HR.out.symm, rfl⟩
        · have he' : (x == u) = false := by simpa using he
          have he'' : (u == x) = false := by simpa using fun e => he e.symm
          clear he
          go_wp2
          exact ⟨⟨k + 1, by omega, by go_num, hs.out.2 he'⟩, by simp [intOf]; omega⟩
      · go_wp2
        go_ret
        refine ⟨ret_int ?_, rfl⟩
        have := hf.out
        rw [List.take_of_length_le (by omega)] at this
        unfold idx; rw [this]

theorem idx_neg {l : List Int} {u : Int} (h : u ∉ l) : idx l u = -1 := by
  unfold idx
  have : l.findIdx? (fun x => x == u) = none := by
    rw [List.findIdx?_eq_none_iff]
    intro x hx
    simp only [beq_eq_false_iff_ne]
    intro e
    exact h (e ▸ hx)
  rw [this]

set_option maxHeartbeats 400000 in
theorem contains_no (w : World) (v : Value) (l : List Int) (u : Int) (h : IntsAt w v l) (hl : l.length ≤ 1000) (hu : u ∉ l) :
    Calls Try.prog 26 #[v, .int .i64 u] w fun e w' => e = .returned (.bool false) ∧ w = w' := by
  have hc := index_any w v l u h hl
  rw [idx_neg hu] at hc
  have HC := Lib.hid hc
  clear hc
  go_enter Try.func26, Try.ntmps26
  go_wp2_with fail
  refine HC.out.mono ?_
  rintro e w' ⟨rfl, rfl⟩
  go_wp2_with fail
  go_ret
  exact ⟨rfl, rfl⟩

theorem take_eq_step {l m : List Int} {k : Nat} {x y : Int} (hx : l[k]? = some x) (hy : m[k]? = some y) :
    (l.take k = m.take k → x = y → l.take (k + 1) = m.take (k + 1)) ∧ (x ≠ y → l ≠ m) := by
  constructor
  · intro h e
    rw [take_succ_some hx, take_succ_some hy, h, e]
  · intro h e
    subst e
    rw [hx] at hy
    exact h (Option.some.inj hy)

set_option maxHeartbeats 1000000 in
theorem ints_any (w : World) (u v : Value) (l m : List Int) (h1 : IntsAt w u l) (h2 : IntsAt w v m) (hl : l.length ≤ 1000) :
    Calls Try.prog 16 #[u, v] w fun e w' => e = .returned (.bool (decide (l = m))) ∧ ∃ n, w' = w.drewN n := by
  obtain ⟨a, c, rfl, hq1, h1⟩ := h1
  obtain ⟨a', c', rfl, hq2, h2⟩ := h2
  clear hq1 hq2
  by_cases hn : l.length = m.length
  · rcases h1 with h | ⟨b, off, rfl, h1⟩
    · have hd : decide (l = m) = true := by simp only [decide_eq_true_eq]; subst h; simp at hn; exact (List.eq_nil_of_length_eq_zero hn.symm).symm
      have hm : m.length = 0 := by rw [← hn]; simp [h]
      rw [hd, hn, hm]
      clear h2 h hl hn hd hm
      go_enter Try.func16, Try.ntmps16
      go_wp2
      go_rounds 1
      go_ret
      exact ⟨rfl, 0, rfl⟩
    · rcases h2 with h | ⟨b', off', rfl, h2⟩
      · have hd : decide (l = m) = true := by simp only [decide_eq_true_eq]; subst h; simp at hn; exact hn
        have hm : m.length = 0 := by simp [h]
        rw [hd, hn, hm]
        clear h1 h hl hn hd hm
        go_enter Try.func16, Try.ntmps16
        go_wp2
        go_rounds 1
        go_ret
        exact ⟨rfl, 0, rfl⟩
      · have H1 := Lib.hid h1
        have H2 := Lib.hid h2
        have HN := Lib.hid hn
        rw [← hn]
        clear h1 h2 hn
        go_enter Try.func16, Try.ntmps16
        go_wp2
        go_loopw [5] (fun i wr => ∃ k n : Nat, k ≤ l.length ∧ i = .int .i64 k ∧ Hid (l.take k = m.take k) ∧ wr = w.drewN n) (fun i _ => l.length - (intOf i).toNat)
        case atStart => exact ⟨0, 0, Nat.zero_le _, rfl, rfl, rfl⟩
        case round =>
          obtain ⟨k, n, hk, rfl, hf, rfl⟩ := hrel
          by_cases hlt : k < l.length
          · have hx : l[k]? = some l[k] := List.getElem?_eq_getElem hlt
            have hy : m[k]? = some (m[k]'(by have := HN.out; omega)) := List.getElem?_eq_getElem _
            have c1 := H1.out k _ hx
            have c2 := H2.out k _ hy
            have hs := Lib.hid (take_eq_step hx hy)
            generalize l[k] = x at *
            generalize m[k]'(by have := HN.out; omega) = y at *
            clear hx hy
            by_cases he : x = y
            · have HE := Lib.hid (hs.out.1 hf.out he)
              subst he
              go_wp2
              go_quiet (fail)
              go_wp2
              exact ⟨⟨k + 1, _, by omega, by go_num, HE, rfl⟩, by simp [intOf]; omega⟩
            · have hd : decide (l = m) = false := by simpa using hs.out.2 he
              have HD := Lib.hid hd
              have he' : (x == y) = false := by simpa using he
              have he'' : (x != y) = true := by simpa using he
              clear hd he
              go_wp2
              go_quiet (fail)
              go_wp2
              go_ret
              exact ⟨by rw [HD.out]; rfl, _, World.drewN_drewN _ _ _⟩
          · have hd : decide (l = m) = true := by
              have := hf.out
              rw [List.take_of_length_le (by omega), List.take_of_length_le (by have := HN.out; omega)] at this
              simpa using this
            have HD := Lib.hid hd
            clear hd
            go_wp2
            go_ret
            exact ⟨by rw [HD.out]; rfl, _, rfl⟩
  · have hd : decide (l = m) = false := by simp only [decide_eq_false_iff_not]; intro e; exact hn (by rw [e])
    rw [hd]
    have hn' : ((l.length : Int) != (m.length : Int)) = true := by simp; omega
    clear h1 h2 hd hn
    go_enter Try.func16, Try.ntmps16
    go_wp2
    go_ret
    exact ⟨rfl, 0, rfl⟩
end Go.Proofs.Ytbpbhccgnfakiaa.Hg
