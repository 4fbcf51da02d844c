/- Names in messages: whether bytes are a name; what is put. No program is named here. -/
import Derived.Test.YtngmdefhdknggaaDoorCmP
namespace Go.Proofs.YtngmdefhdknggaaDoor.Cm

/-- A name's labels; none: it is no name. (But for how long it may be.) -/
def labsF : Nat → List UInt8 → Option (List (List UInt8))
  | 0, _ => none
  | f + 1, l =>
    if l = [0] then some []
    else if l = [] ∨ bt l 0 = 0 ∨ 63 < bt l 0 ∨ l.length < bt l 0 + 2 then none
    else (labsF f (l.drop (bt l 0 + 1))).map (seg l 1 (bt l 0) :: ·)
def labs (l : List UInt8) : Option (List (List UInt8)) := if 255 < l.length then none else labsF (l.length + 1) l
def mayB (l : List UInt8) : Bool := (labs l).isSome

theorem nam_of_labsF : ∀ (f : Nat) (l : List UInt8) (t : List (List UInt8)), labsF f l = some t → Nam l
  | 0, l, t, h => by cases h
  | f + 1, l, t, h => by
    rw [labsF] at h
    by_cases c1 : l = [0]
    · rw [c1]
      exact .root
    rw [if_neg c1] at h
    by_cases c2 : l = [] ∨ bt l 0 = 0 ∨ 63 < bt l 0 ∨ l.length < bt l 0 + 2
    · rw [if_pos c2] at h
      cases h
    rw [if_neg c2] at h
    have c3 : l ≠ [] := fun e => c2 (.inl e)
    have c4 : bt l 0 ≠ 0 := fun e => c2 (.inr (.inl e))
    have c5 : ¬ 63 < bt l 0 := fun e => c2 (.inr (.inr (.inl e)))
    have c6 : ¬ l.length < bt l 0 + 2 := fun e => c2 (.inr (.inr (.inr e)))
    obtain ⟨t', h1, h2⟩ := Option.map_eq_some_iff.1 h
    have h3 := nam_of_labsF f _ _ h1
    obtain ⟨k, r, rfl⟩ := List.exists_cons_of_ne_nil c3
    have e : bt (k :: r) 0 = k.toNat := rfl
    rw [e] at c4 c5 c6 h3
    rw [List.drop_succ_cons] at h3
    rw [← List.take_append_drop k.toNat r]
    simp at c6
    exact .lab k _ _ (by omega) (by omega) (by rw [List.length_take]; omega) h3

theorem labsF_of_nam {l : List UInt8} (h : Nam l) : ∀ f, l.length < f → ∃ t, labsF f l = some t := by
  induction h with
  | root =>
    intro f hf
    obtain ⟨f, rfl⟩ : ∃ g, f = g + 1 := ⟨f - 1, by omega⟩
    exact ⟨[], by rw [labsF, if_pos rfl]⟩
  | lab k s n h1 h2 h3 h4 ih =>
    intro f hf
    obtain ⟨f, rfl⟩ : ∃ g, f = g + 1 := ⟨f - 1, by omega⟩
    have hp := h4.pos
    obtain ⟨t, ht⟩ := ih f (by simp at hf; omega)
    have e : bt (k :: (s ++ n)) 0 = k.toNat := rfl
    refine ⟨seg (k :: (s ++ n)) 1 k.toNat :: t, ?_⟩
    rw [labsF, if_neg (by intro h; injection h with h5 h6; rw [h5] at h1; simp at h1), e, if_neg (by simp; omega), List.drop_succ_cons, List.drop_left' h3, ht]
    rfl

theorem mayB_iff (l : List UInt8) : mayB l = true ↔ Nam l ∧ l.length ≤ 255 := by
  unfold mayB labs
  by_cases h : 255 < l.length
  · rw [if_pos h]
    simp
    omega
  · rw [if_neg h]
    constructor
    · intro h2
      obtain ⟨t, ht⟩ := Option.isSome_iff_exists.1 h2
      exact ⟨nam_of_labsF _ _ _ ht, by omega⟩
    · intro h2
      obtain ⟨t, ht⟩ := labsF_of_nam h2.1 (l.length + 1) (by omega)
      rw [ht]
      rfl

/-- A table of endings. -/
abbrev Tbl := List UInt8 → Option Nat
def upd (t : Tbl) (n : List UInt8) (a : Nat) : Tbl := fun m => if m = n then some a else t m
def two (n : Nat) : List UInt8 := [UInt8.ofNat (n / 256), UInt8.ofNat n]

/-- What a round keeps. -/
def kept (t : Tbl) (kn : Bool) (n out : List UInt8) : Tbl := if kn = true ∧ t n = none ∧ out.length ≤ 16383 then upd t n out.length else t
/-- A name is put behind bytes: the bytes, the table. -/
def put (cm kn : Bool) : Nat → List UInt8 → List UInt8 → Tbl → List UInt8 × Tbl
  | 0, _, out, t => (out, t)
  | f + 1, n, out, t =>
    if n = [0] then (out ++ [0], t)
    else if cm = true ∧ (t n).isSome then (out ++ two (49152 + (t n).getD 0), t)
    else put cm kn f (n.drop (1 + bt n 0)) (out ++ n.take (1 + bt n 0)) (kept t kn n out)
def putTop (cm kn : Bool) (n out : List UInt8) (t : Tbl) : List UInt8 × Tbl := put cm kn (n.length + 1) n out t

/-- The table's places are places of these bytes. -/
def Inv (b : List UInt8) (t : Tbl) : Prop := ∀ m a, t m = some a → a ≤ 16383 ∧ a < b.length ∧ ∃ nx, Nm b a a m none nx
theorem Inv.nil (b : List UInt8) : Inv b fun _ => none := fun m a h => by cases h
theorem Inv.app {b : List UInt8} {t : Tbl} (h : Inv b t) (x : List UInt8) : Inv (b ++ x) t := fun m a hm => by
  obtain ⟨h1, h2, nx, h3⟩ := h m a hm
  exact ⟨h1, by rw [List.length_append]; omega, nx, h3.app x⟩

theorem Nam.split {n : List UInt8} (h : Nam n) (hn : n ≠ [0]) : 0 < bt n 0 ∧ bt n 0 < 64 ∧ bt n 0 + 2 ≤ n.length ∧ Nam (n.drop (1 + bt n 0)) := by
  cases h with
  | root => exact absurd rfl hn
  | lab k s n h1 h2 h3 h4 =>
    have e : bt (k :: (s ++ n)) 0 = k.toNat := rfl
    have := h4.pos
    rw [e]
    refine ⟨h1, h2, by simp; omega, ?_⟩
    rw [Nat.add_comm, List.drop_succ_cons, List.drop_left' h3]
    exact h4

theorem bt_two {a : Nat} (h : a < 65536) (b c : List UInt8) : bt (b ++ (two a ++ c)) b.length = a / 256 ∧ bt (b ++ (two a ++ c)) (b.length + 1) = a % 256 := by
  unfold bt two
  simp [List.getD]
  omega

/-- What is put, is read; the table's places are the new bytes'. -/
theorem put_ok (cm kn : Bool) : ∀ (f : Nat) (n out : List UInt8) (t : Tbl) (b0 : List UInt8), Nam n → n.length ≤ f → (∃ x, out = b0 ++ x) →
    (∀ m a, t m = some a → (a ≤ 16383 ∧ a < b0.length ∧ ∃ nx, Nm b0 a a m none nx) ∨ n.length < m.length) →
    ∃ e, (put cm kn f n out t).1 = out ++ e ∧ 1 ≤ e.length ∧ (e = n ∨ (cm = true ∧ e.length < n.length ∧ 2 ≤ e.length ∧ ∃ y a, e = y ++ two (49152 + a) ∧ a ≤ 16383 ∧ a < b0.length)) ∧ Nm (out ++ e) out.length b0.length n none (out ++ e).length ∧
      ∀ m a, (put cm kn f n out t).2 m = some a → (a ≤ 16383 ∧ a < b0.length ∧ ∃ nx, Nm b0 a a m none nx) ∨ (t m = some a ∧ n.length < m.length) ∨ (a ≤ 16383 ∧ a < (out ++ e).length ∧ ∃ nx, Nm (out ++ e) a a m none nx)
  | 0, n, out, t, b0, hn, hf, hx, ht => by have := hn.pos; omega
  | f + 1, n, out, t, b0, hn, hf, hx, ht => by
    rw [put]
    by_cases c1 : n = [0]
    · rw [if_pos c1]
      subst c1
      refine ⟨[0], rfl, by simp, .inl rfl, ?_, fun m a hm => ?_⟩
      · simpa using nm_of_nam .root out [] b0.length
      · rcases ht m a hm with h | h
        · exact .inl h
        · exact .inr (.inl ⟨hm, h⟩)
    rw [if_neg c1]
    obtain ⟨h1, h2, h3, h4⟩ := hn.split c1
    by_cases c2 : cm = true ∧ (t n).isSome = true
    · rw [if_pos c2]
      obtain ⟨a, ha⟩ := Option.isSome_iff_exists.1 c2.2
      rw [ha]
      obtain ⟨h5, h6, nx, h7⟩ := (ht n a ha).resolve_right (by omega)
      obtain ⟨x, rfl⟩ := hx
      have hb := bt_two (a := 49152 + a) (by omega) (b0 ++ x) []
      rw [List.append_nil] at hb
      refine ⟨two (49152 + a), rfl, by simp [two], .inr ⟨c2.1, by simp [two]; omega, by simp [two], [], a, rfl, h5, h6⟩, ?_, fun m a' hm => ?_⟩
      · obtain ⟨nx', h8⟩ := h7.other (some ((b0 ++ x).length + 2))
        have h9 := h8.next.1 _ rfl
        subst h9
        have hp : (bt ((b0 ++ x) ++ two (49152 + a)) (b0 ++ x).length - 192) * 256 + bt ((b0 ++ x) ++ two (49152 + a)) ((b0 ++ x).length + 1) = a := by
          rw [hb.1, hb.2]
          omega
        have hlen : ((b0 ++ x) ++ two (49152 + a)).length = (b0 ++ x).length + 2 := by rw [List.length_append]; rfl
        rw [hlen]
        refine .ptr _ _ _ none _ (by rw [hlen]; omega) (by rw [hb.1]; omega) (by rw [hp]; exact h6) ?_
        rw [hp]
        have := h8.app (x ++ two (49152 + a))
        rwa [← List.append_assoc] at this
      · rcases ht m a' hm with h | h
        · exact .inl h
        · exact .inr (.inl ⟨hm, h⟩)
    rw [if_neg c2]
    have hx' : ∃ x, out ++ n.take (1 + bt n 0) = b0 ++ x := by
      obtain ⟨x, rfl⟩ := hx
      exact ⟨x ++ n.take (1 + bt n 0), by rw [List.append_assoc]⟩
    have hlt : (n.drop (1 + bt n 0)).length = n.length - (1 + bt n 0) := List.length_drop
    have hkt : ∀ m a, kept t kn n out m = some a → (m = n ∧ a = out.length ∧ a ≤ 16383) ∨ t m = some a := by
      intro m a hm
      unfold kept at hm
      split at hm
      · rename_i hk
        unfold upd at hm
        split at hm
        · rename_i hmn
          injection hm with hm
          exact .inl ⟨hmn, hm.symm, by omega⟩
        · exact .inr hm
      · exact .inr hm
    obtain ⟨e, he1, he2, he3, he4, he5⟩ := put_ok cm kn f (n.drop (1 + bt n 0)) (out ++ n.take (1 + bt n 0)) (kept t kn n out) b0 h4 (by omega) hx' (fun m a hm => by
      rcases hkt m a hm with ⟨rfl, rfl, _⟩ | h
      · exact .inr (by omega)
      · rcases ht m a h with h5 | h5
        · exact .inl h5
        · exact .inr (by omega))
    have hks : (n.take (1 + bt n 0)).length = 1 + bt n 0 := by rw [List.length_take]; omega
    have hbt : bt (out ++ (n.take (1 + bt n 0) ++ e)) out.length = bt n 0 := by
      obtain ⟨k, r, rfl⟩ : ∃ k r, n = k :: r := by
        cases n with
        | nil => simp at h3
        | cons k r => exact ⟨k, r, rfl⟩
      unfold bt
      rw [Nat.add_comm 1, List.take_succ_cons]
      simp [List.getD]
    have hsg : seg (out ++ (n.take (1 + bt n 0) ++ e)) out.length (1 + bt n 0) = n.take (1 + bt n 0) := by
      unfold seg
      rw [List.drop_left, List.take_left' hks]
    have hnm : Nm (out ++ (n.take (1 + bt n 0) ++ e)) out.length b0.length n none (out ++ (n.take (1 + bt n 0) ++ e)).length := by
      rw [List.append_assoc, List.length_append, hks] at he4
      have h9 := Nm.lab (l := out ++ (n.take (1 + bt n 0) ++ e)) out.length b0.length (n.drop (1 + bt n 0)) none _ (by rw [hbt]; exact h1) (by rw [hbt]; exact h2) (by rw [hbt, List.length_append, List.length_append, hks]; omega)
        (by rw [hbt, show out.length + 1 + bt n 0 = out.length + (1 + bt n 0) by omega]; exact he4)
      rw [hbt, hsg, List.take_append_drop] at h9
      exact h9
    refine ⟨n.take (1 + bt n 0) ++ e, by rw [he1, List.append_assoc], by rw [List.length_append]; omega, ?_, hnm, fun m a hm => ?_⟩
    · rcases he3 with he3 | ⟨hc, hl, hl2, y, a, hy, ha, ha2⟩
      · left
        rw [he3, List.take_append_drop]
      · right
        refine ⟨hc, by rw [List.length_append, hks]; omega, by rw [List.length_append]; omega, n.take (1 + bt n 0) ++ y, a, by rw [hy, List.append_assoc], ha, ha2⟩
    · rw [List.append_assoc] at he5
      rcases he5 m a hm with h | ⟨h, hl⟩ | h
      · exact .inl h
      · rcases hkt m a h with ⟨rfl, rfl, hq⟩ | h
        · obtain ⟨x, rfl⟩ := hx
          exact .inr (.inr ⟨hq, by simp only [List.length_append] at *; omega, _, hnm.ahead _ (by rw [List.length_append]; omega)⟩)
        · rcases ht m a h with h5 | h5
          · exact .inl h5
          · exact .inr (.inl ⟨h, h5⟩)
      · exact .inr (.inr h)

/-- What is put at the top. -/
theorem putTop_ok {cm kn : Bool} {n out : List UInt8} {t : Tbl} (hn : Nam n) (ht : Inv out t) :
    ∃ e, (putTop cm kn n out t).1 = out ++ e ∧ 1 ≤ e.length ∧ (e = n ∨ (cm = true ∧ e.length < n.length ∧ 2 ≤ e.length ∧ ∃ y a, e = y ++ two (49152 + a) ∧ a ≤ 16383 ∧ a < out.length)) ∧ Nm (out ++ e) out.length out.length n none (out ++ e).length ∧ Inv (out ++ e) (putTop cm kn n out t).2 := by
  obtain ⟨e, h1, h2, h3, h4, h5⟩ := put_ok cm kn (n.length + 1) n out t out hn (by omega) ⟨[], by simp⟩ (fun m a hm => .inl (ht m a hm))
  refine ⟨e, h1, h2, h3, h4, fun m a hm => ?_⟩
  rcases h5 m a hm with h | ⟨h, _⟩ | h
  · exact ⟨h.1, by rw [List.length_append]; omega, _, h.2.2.choose_spec.app e⟩
  · obtain ⟨h6, h7, nx, h8⟩ := ht m a h
    exact ⟨h6, by rw [List.length_append]; omega, nx, h8.app e⟩
  · exact h

/-- By a table that knows nothing so short, a name is put as it is. -/
theorem put_plain (cm kn : Bool) : ∀ (f : Nat) (n out : List UInt8) (t : Tbl), Nam n → n.length ≤ f → (∀ m a, t m = some a → n.length < m.length) → (put cm kn f n out t).1 = out ++ n
  | 0, n, out, t, hn, hf, _ => by have := hn.pos; omega
  | f + 1, n, out, t, hn, hf, ht => by
    rw [put]
    by_cases c1 : n = [0]
    · rw [if_pos c1, c1]
    rw [if_neg c1]
    obtain ⟨h1, h2, h3, h4⟩ := hn.split c1
    have c3 : t n = none := by
      cases h : t n with
      | none => rfl
      | some a => have := ht n a h; omega
    rw [if_neg (by rw [c3]; simp)]
    have hlt : (n.drop (1 + bt n 0)).length = n.length - (1 + bt n 0) := List.length_drop
    rw [put_plain cm kn f _ _ _ h4 (by omega) (fun m a hm => ?_), List.append_assoc, List.take_append_drop]
    unfold kept at hm
    split at hm
    · unfold upd at hm
      split at hm
      · rename_i hmn
        rw [hmn]
        omega
      · have := ht m a hm
        omega
    · have := ht m a hm
      omega
theorem putTop_new {cm kn : Bool} {n out : List UInt8} (hn : Nam n) : (putTop cm kn n out fun _ => none).1 = out ++ n :=
  put_plain cm kn _ n out _ hn (by omega) (fun m a h => by cases h)
end Go.Proofs.YtngmdefhdknggaaDoor.Cm
