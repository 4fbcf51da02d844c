/- Names in messages: what is read at a place, what is put, in plain Lean. No program is named here. -/
import Derived.Test.YtngmdefhdknggaaDoorCurP
namespace Go.Proofs.YtngmdefhdknggaaDoor.Cm

def bt (l : List UInt8) (i : Nat) : Nat := (l.getD i 0).toNat
def seg (l : List UInt8) (i n : Nat) : List UInt8 := (l.drop i).take n
theorem bt_lt (l : List UInt8) (i : Nat) : bt l i < 256 := UInt8.toNat_lt _
theorem bt_app {l : List UInt8} (m : List UInt8) {i : Nat} (h : i < l.length) : bt (l ++ m) i = bt l i := by
  unfold bt
  rw [List.getD_eq_getElem?_getD, List.getD_eq_getElem?_getD, List.getElem?_append_left h]
theorem seg_app {l : List UInt8} (m : List UInt8) {i n : Nat} (h : i + n ≤ l.length) : seg (l ++ m) i n = seg l i n := by
  unfold seg
  rw [List.drop_append_of_le_length (by omega), List.take_append_of_le_length (by rw [List.length_drop]; omega)]
theorem seg_len {l : List UInt8} {i n : Nat} (h : i + n ≤ l.length) : (seg l i n).length = n := by
  unfold seg
  rw [List.length_take, List.length_drop]
  omega
theorem seg_split (l : List UInt8) (i n m : Nat) : seg l i (n + m) = seg l i n ++ seg l (i + n) m := by
  unfold seg
  rw [List.take_add, List.drop_drop]
theorem seg_cons {l : List UInt8} {i : Nat} (n : Nat) (h : i < l.length) : seg l i (1 + n) = l.getD i 0 :: seg l (i + 1) n := by
  rw [seg_split, List.getD_eq_getElem?_getD, List.getElem?_eq_getElem h]
  unfold seg
  rw [List.drop_eq_getElem_cons h]
  rfl
theorem u8_zero {x : UInt8} (h : x.toNat = 0) : x = 0 := UInt8.toNat_inj.1 h

/-- What is read at a place: the name, the place behind it, what is wrong. `ah`: where a pointer must lead ahead of; `acc`: what was read; `nx`: the place behind, if it is known. -/
def rd (l : List UInt8) : Nat → Nat → Nat → List UInt8 → Option Nat → List UInt8 × Nat × Nat
  | 0, _, _, _, _ => ([], 0, 4)
  | f + 1, p, ah, acc, nx =>
    if l.length ≤ p then ([], 0, 4)
    else if bt l p = 0 then (acc ++ [0], nx.getD (p + 1), 0)
    else if 192 ≤ bt l p then
      if l.length ≤ p + 1 then ([], 0, 4)
      else if ah ≤ (bt l p - 192) * 256 + bt l (p + 1) then ([], 0, 8)
      else rd l f ((bt l p - 192) * 256 + bt l (p + 1)) ((bt l p - 192) * 256 + bt l (p + 1)) acc (some (nx.getD (p + 2)))
    else if 64 ≤ bt l p then ([], 0, 3)
    else if l.length < p + 1 + bt l p then ([], 0, 4)
    else if 254 < acc.length + (1 + bt l p) then ([], 0, 5)
    else rd l f (p + 1 + bt l p) ah (acc ++ seg l p (1 + bt l p)) nx
def rdTop (l : List UInt8) (i : Int) : List UInt8 × Nat × Nat :=
  if i < 0 ∨ (l.length : Int) < i then ([], 0, 1) else rd l (i.toNat + 256) i.toNat i.toNat [] none

/-- A name stands at a place. -/
inductive Nm (l : List UInt8) : Nat → Nat → List UInt8 → Option Nat → Nat → Prop
  | root (p ah : Nat) (nx : Option Nat) : p < l.length → bt l p = 0 → Nm l p ah [0] nx (nx.getD (p + 1))
  | ptr (p ah : Nat) (n : List UInt8) (nx : Option Nat) (next : Nat) : p + 1 < l.length → 192 ≤ bt l p → (bt l p - 192) * 256 + bt l (p + 1) < ah →
      Nm l ((bt l p - 192) * 256 + bt l (p + 1)) ((bt l p - 192) * 256 + bt l (p + 1)) n (some (nx.getD (p + 2))) next → Nm l p ah n nx next
  | lab (p ah : Nat) (n : List UInt8) (nx : Option Nat) (next : Nat) : 0 < bt l p → bt l p < 64 → p + 1 + bt l p ≤ l.length →
      Nm l (p + 1 + bt l p) ah n nx next → Nm l p ah (seg l p (1 + bt l p) ++ n) nx next

/-- A name's bytes. -/
inductive Nam : List UInt8 → Prop
  | root : Nam [0]
  | lab (k : UInt8) (s n : List UInt8) : 0 < k.toNat → k.toNat < 64 → s.length = k.toNat → Nam n → Nam (k :: (s ++ n))

theorem Nam.len {n : List UInt8} (h : Nam n) : n.length = 1 ∨ 3 ≤ n.length := by
  cases h with
  | root => exact .inl rfl
  | lab k s n h1 h2 h3 h4 =>
    right
    have : 1 ≤ n.length := by cases h4 <;> simp
    simp
    omega
theorem Nam.pos {n : List UInt8} (h : Nam n) : 1 ≤ n.length := by have := h.len; omega

theorem Nm.nam {l : List UInt8} {p ah next : Nat} {n : List UInt8} {nx : Option Nat} (h : Nm l p ah n nx next) : Nam n := by
  induction h with
  | root => exact .root
  | ptr p ah n nx next h1 h2 h3 h4 ih => exact ih
  | lab p ah n nx next h1 h2 h3 h4 ih =>
    rw [seg_cons _ (by omega), List.cons_append]
    exact .lab _ _ _ h1 h2 (seg_len (by omega)) ih

theorem rd_of_nm {l : List UInt8} {p ah next : Nat} {n : List UInt8} {nx : Option Nat} (h : Nm l p ah n nx next) : ∀ (f : Nat) (acc : List UInt8), (acc ++ n).length ≤ 255 → ah + 255 < f + acc.length → rd l f p ah acc nx = (acc ++ n, next, 0) := by
  induction h with
  | root p ah nx h1 h2 =>
    intro f acc ha hf
    rw [List.length_append, List.length_singleton] at ha
    obtain ⟨f, rfl⟩ : ∃ g, f = g + 1 := ⟨f - 1, by omega⟩
    rw [rd, if_neg (by omega), if_pos h2]
  | ptr p ah n nx next h1 h2 h3 h4 ih =>
    intro f acc ha hf
    have hp := h4.nam.pos
    have ha' := ha
    rw [List.length_append] at ha'
    obtain ⟨f, rfl⟩ : ∃ g, f = g + 1 := ⟨f - 1, by omega⟩
    rw [rd, if_neg (by omega), if_neg (by omega), if_pos h2, if_neg (by omega), if_neg (by omega)]
    exact ih f acc ha (Nat.lt_of_lt_of_le (Nat.add_lt_add_right h3 255) (by omega))
  | lab p ah n nx next h1 h2 h3 h4 ih =>
    intro f acc ha hf
    have hp := h4.nam.pos
    have hs := seg_len (l := l) (i := p) (n := 1 + bt l p) (by omega)
    have ha' := ha
    rw [List.length_append, List.length_append, hs] at ha'
    obtain ⟨f, rfl⟩ : ∃ g, f = g + 1 := ⟨f - 1, by omega⟩
    rw [rd, if_neg (by omega), if_neg (by omega), if_neg (by omega), if_neg (by omega), if_neg (by omega), if_neg (by omega)]
    rw [ih f (acc ++ seg l p (1 + bt l p)) (by rw [List.append_assoc]; exact ha) (by rw [List.length_append, hs]; omega), List.append_assoc]

theorem nm_of_rd {l : List UInt8} : ∀ (f p ah : Nat) (acc : List UInt8) (nx : Option Nat) (r : List UInt8) (next e : Nat), acc.length ≤ 254 → rd l f p ah acc nx = (r, next, e) →
    (e = 0 ∧ ∃ n, r = acc ++ n ∧ r.length ≤ 255 ∧ Nm l p ah n nx next) ∨ ((e = 3 ∨ e = 4 ∨ e = 5 ∨ e = 8) ∧ r = [] ∧ next = 0)
  | 0, p, ah, acc, nx, r, next, e, _, h => by
    rw [rd] at h
    injection h with h1 h2
    injection h2 with h2 h3
    exact .inr ⟨by omega, h1.symm, h2.symm⟩
  | f + 1, p, ah, acc, nx, r, next, e, ha, h => by
    rw [rd] at h
    have hno : ∀ x : Nat, (x = 3 ∨ x = 4 ∨ x = 5 ∨ x = 8) → (([] : List UInt8), (0 : Nat), x) = (r, next, e) → (e = 3 ∨ e = 4 ∨ e = 5 ∨ e = 8) ∧ r = [] ∧ next = 0 := by
      intro x hx hh
      injection hh with h1 h2
      injection h2 with h2 h3
      subst h3
      exact ⟨hx, h1.symm, h2.symm⟩
    by_cases c1 : l.length ≤ p
    · rw [if_pos c1] at h
      exact .inr (hno 4 (by simp) h)
    rw [if_neg c1] at h
    by_cases c2 : bt l p = 0
    · rw [if_pos c2] at h
      injection h with h1 h2
      injection h2 with h2 h3
      subst h1 h2 h3
      exact .inl ⟨rfl, [0], rfl, by simp; omega, .root p ah nx (by omega) c2⟩
    rw [if_neg c2] at h
    by_cases c3 : 192 ≤ bt l p
    · rw [if_pos c3] at h
      by_cases c4 : l.length ≤ p + 1
      · rw [if_pos c4] at h
        exact .inr (hno 4 (by simp) h)
      rw [if_neg c4] at h
      by_cases c5 : ah ≤ (bt l p - 192) * 256 + bt l (p + 1)
      · rw [if_pos c5] at h
        exact .inr (hno 8 (by simp) h)
      rw [if_neg c5] at h
      rcases nm_of_rd f _ _ acc _ r next e ha h with ⟨he, n, h1, h2, h3⟩ | h1
      · exact .inl ⟨he, n, h1, h2, .ptr p ah n nx next (by omega) c3 (by omega) h3⟩
      · exact .inr h1
    rw [if_neg c3] at h
    by_cases c6 : 64 ≤ bt l p
    · rw [if_pos c6] at h
      exact .inr (hno 3 (by simp) h)
    rw [if_neg c6] at h
    by_cases c7 : l.length < p + 1 + bt l p
    · rw [if_pos c7] at h
      exact .inr (hno 4 (by simp) h)
    rw [if_neg c7] at h
    by_cases c8 : 254 < acc.length + (1 + bt l p)
    · rw [if_pos c8] at h
      exact .inr (hno 5 (by simp) h)
    rw [if_neg c8] at h
    have hs := seg_len (l := l) (i := p) (n := 1 + bt l p) (by omega)
    rcases nm_of_rd f _ _ _ _ r next e (by rw [List.length_append, hs]; omega) h with ⟨he, n, h1, h2, h3⟩ | h1
    · exact .inl ⟨he, seg l p (1 + bt l p) ++ n, by rw [h1, List.append_assoc], h2, .lab p ah n nx next (by omega) (by omega) (by omega) h3⟩
    · exact .inr h1

/-- Bytes behind change nothing, but where the bytes were too few. -/
theorem rd_app {l : List UInt8} (m : List UInt8) : ∀ (f p ah : Nat) (acc : List UInt8) (nx : Option Nat), rd (l ++ m) f p ah acc nx = rd l f p ah acc nx ∨ rd l f p ah acc nx = ([], 0, 4)
  | 0, p, ah, acc, nx => .inr rfl
  | f + 1, p, ah, acc, nx => by
    rw [rd, rd]
    by_cases c1 : l.length ≤ p
    · rw [if_pos c1]
      exact .inr rfl
    rw [if_neg c1, if_neg (by rw [List.length_append]; omega), bt_app m (by omega)]
    by_cases c2 : bt l p = 0
    · rw [if_pos c2, if_pos c2]
      exact .inl rfl
    rw [if_neg c2, if_neg c2]
    by_cases c3 : 192 ≤ bt l p
    · rw [if_pos c3, if_pos c3]
      by_cases c4 : l.length ≤ p + 1
      · rw [if_pos c4]
        exact .inr rfl
      rw [if_neg c4, if_neg (by rw [List.length_append]; omega), bt_app m (by omega)]
      by_cases c5 : ah ≤ (bt l p - 192) * 256 + bt l (p + 1)
      · rw [if_pos c5, if_pos c5]
        exact .inl rfl
      rw [if_neg c5, if_neg c5]
      exact rd_app m f _ _ _ _
    rw [if_neg c3, if_neg c3]
    by_cases c6 : 64 ≤ bt l p
    · rw [if_pos c6, if_pos c6]
      exact .inl rfl
    rw [if_neg c6, if_neg c6]
    by_cases c7 : l.length < p + 1 + bt l p
    · rw [if_pos c7]
      exact .inr rfl
    rw [if_neg c7, if_neg (by rw [List.length_append]; omega)]
    by_cases c8 : 254 < acc.length + (1 + bt l p)
    · rw [if_pos c8, if_pos c8]
      exact .inl rfl
    rw [if_neg c8, if_neg c8, seg_app m (by omega)]
    exact rd_app m f _ _ _ _

/-! What stands at a place. -/
theorem Nm.next {l : List UInt8} {p ah next : Nat} {n : List UInt8} {nx : Option Nat} (h : Nm l p ah n nx next) : (∀ x, nx = some x → next = x) ∧ (nx = none → p < next ∧ next ≤ l.length) := by
  induction h with
  | root p ah nx h1 h2 =>
    refine ⟨fun x hx => by rw [hx]; rfl, fun hx => ?_⟩
    subst hx
    exact ⟨Nat.lt_succ_self p, h1⟩
  | ptr p ah n nx next h1 h2 h3 h4 ih =>
    have h5 := ih.1 _ rfl
    refine ⟨fun x hx => by rw [h5, hx]; rfl, fun hx => ?_⟩
    subst hx
    rw [h5]
    show p < p + 2 ∧ p + 2 ≤ l.length
    omega
  | lab p ah n nx next h1 h2 h3 h4 ih =>
    refine ⟨ih.1, fun hx => ?_⟩
    have := ih.2 hx
    omega

theorem Nm.app {l : List UInt8} (m : List UInt8) {p ah next : Nat} {n : List UInt8} {nx : Option Nat} (h : Nm l p ah n nx next) : Nm (l ++ m) p ah n nx next := by
  induction h with
  | root p ah nx h1 h2 => exact .root p ah nx (by rw [List.length_append]; omega) (by rw [bt_app m h1]; exact h2)
  | ptr p ah n nx next h1 h2 h3 h4 ih =>
    have e1 := bt_app m (l := l) (i := p) (by omega)
    have e2 := bt_app m h1
    rw [← e1, ← e2] at ih h3
    exact .ptr p ah n nx next (by rw [List.length_append]; omega) (by rw [e1]; exact h2) h3 ih
  | lab p ah n nx next h1 h2 h3 h4 ih =>
    have e1 := bt_app m (l := l) (i := p) (by omega)
    rw [← seg_app m (by omega), ← e1]
    rw [← e1] at ih
    exact .lab p ah n nx next (by omega) (by omega) (by rw [List.length_append]; omega) ih

theorem Nm.ahead {l : List UInt8} {p ah next : Nat} {n : List UInt8} {nx : Option Nat} (h : Nm l p ah n nx next) : ∀ ah', ah ≤ ah' → Nm l p ah' n nx next := by
  induction h with
  | root p ah nx h1 h2 => exact fun _ _ => .root _ _ _ h1 h2
  | ptr p ah n nx next h1 h2 h3 h4 ih => exact fun ah' ha => .ptr _ _ _ _ _ h1 h2 (by omega) h4
  | lab p ah n nx next h1 h2 h3 h4 ih => exact fun ah' ha => .lab _ _ _ _ _ h1 h2 h3 (ih _ ha)

theorem Nm.other {l : List UInt8} {p ah next : Nat} {n : List UInt8} {nx : Option Nat} (h : Nm l p ah n nx next) : ∀ nx', ∃ next', Nm l p ah n nx' next' := by
  induction h with
  | root p ah nx h1 h2 => exact fun nx' => ⟨_, .root _ _ _ h1 h2⟩
  | ptr p ah n nx next h1 h2 h3 h4 ih =>
    intro nx'
    obtain ⟨next', h5⟩ := ih (some (nx'.getD (p + 2)))
    exact ⟨next', .ptr _ _ _ _ _ h1 h2 h3 h5⟩
  | lab p ah n nx next h1 h2 h3 h4 ih =>
    intro nx'
    obtain ⟨next', h5⟩ := ih nx'
    exact ⟨next', .lab _ _ _ _ _ h1 h2 h3 h5⟩

/-- What is read is what stands there, or a pointer does. -/
theorem Nm.flat {l : List UInt8} {p ah next : Nat} {n : List UInt8} {nx : Option Nat} (h : Nm l p ah n nx next) : nx = none → (n = seg l p (next - p) ∧ ∀ m, next ≤ m → Nm (l.take m) p ah n nx next) ∨ n.length ≠ next - p := by
  induction h with
  | root p ah nx h1 h2 =>
    intro hx
    subst hx
    left
    show [0] = seg l p (p + 1 - p) ∧ _
    rw [show p + 1 - p = 1 + 0 by omega, seg_cons 0 h1]
    refine ⟨by rw [u8_zero h2]; simp [seg], fun m hm => ?_⟩
    have hm2 : p + 1 ≤ m := hm
    refine .root p ah none (by rw [List.length_take]; omega) ?_
    rw [← h2, ← bt_app (l.drop m) (l := l.take m) (i := p) (by rw [List.length_take]; omega), List.take_append_drop]
  | ptr p ah n nx next h1 h2 h3 h4 ih =>
    intro hx
    subst hx
    right
    have h5 := h4.next.1 _ rfl
    have h6 := h4.nam.len
    rw [h5]
    show n.length ≠ p + 2 - p
    omega
  | lab p ah n nx next h1 h2 h3 h4 ih =>
    intro hx
    have h5 := (h4.next).2 hx
    have hs := seg_len (l := l) (i := p) (n := 1 + bt l p) (by omega)
    rcases ih hx with ⟨h6, h7⟩ | h6
    · left
      refine ⟨?_, fun m hm => ?_⟩
      · rw [show next - p = (1 + bt l p) + (next - (p + 1 + bt l p)) by omega, seg_split l p (1 + bt l p), show p + (1 + bt l p) = p + 1 + bt l p by omega, ← h6]
      · have e0 : l = l.take m ++ l.drop m := (List.take_append_drop m l).symm
        have e1 : bt (l.take m) p = bt l p := by
          rw [← bt_app (l.drop m) (l := l.take m) (i := p) (by rw [List.length_take]; omega), List.take_append_drop]
        have e2 : seg (l.take m) p (1 + bt l p) = seg l p (1 + bt l p) := by
          rw [← seg_app (l.drop m) (l := l.take m) (by rw [List.length_take]; omega), List.take_append_drop]
        rw [← e2, ← e1]
        refine .lab p ah n nx next (by omega) (by omega) (by rw [List.length_take]; omega) ?_
        rw [e1]
        exact h7 m hm
    · right
      rw [List.length_append, hs]
      omega

/-- A name's bytes are read as that name. -/
theorem nm_of_nam {n : List UInt8} (h : Nam n) : ∀ (A R : List UInt8) (ah : Nat), Nm (A ++ (n ++ R)) A.length ah n none (A.length + n.length) := by
  induction h with
  | root =>
    intro A R ah
    refine .root A.length ah none (by simp) ?_
    simp [bt]
  | lab k s n h1 h2 h3 h4 ih =>
    intro A R ah
    have e1 : bt (A ++ (k :: (s ++ n) ++ R)) A.length = k.toNat := by simp [bt]
    have e2 : seg (A ++ (k :: (s ++ n) ++ R)) A.length (1 + k.toNat) = k :: s := by
      unfold seg
      rw [List.drop_left, show 1 + k.toNat = k.toNat + 1 by omega, List.cons_append, List.take_succ_cons, List.append_assoc, List.take_left' h3]
    have h5 := ih (A ++ (k :: s)) R ah
    rw [List.append_assoc, List.length_append, List.length_cons, h3] at h5
    have h6 := Nm.lab (l := A ++ (k :: (s ++ n) ++ R)) A.length ah n none (A.length + (k.toNat + 1) + n.length) (by omega) (by omega) (by rw [e1]; simp; omega)
      (by rw [e1, show A.length + 1 + k.toNat = A.length + (k.toNat + 1) by omega]; simpa using h5)
    rw [e1, e2] at h6
    rw [show A.length + (k :: (s ++ n)).length = A.length + (k.toNat + 1) + n.length by simp; omega]
    exact h6

/-! Reading from outside. -/
theorem rdTop_ok {l : List UInt8} {i : Int} {r : List UInt8} {next e : Nat} (h : rdTop l i = (r, next, e)) :
    (e = 0 ∧ 0 ≤ i ∧ i ≤ l.length ∧ r.length ≤ 255 ∧ Nm l i.toNat i.toNat r none next) ∨ ((e = 1 ∨ e = 3 ∨ e = 4 ∨ e = 5 ∨ e = 8) ∧ r = [] ∧ next = 0) := by
  unfold rdTop at h
  split at h
  · injection h with h1 h2
    injection h2 with h2 h3
    exact .inr ⟨by omega, h1.symm, h2.symm⟩
  · rcases nm_of_rd _ _ _ [] none r next e (by simp) h with ⟨h1, n, h2, h3, h4⟩ | ⟨h1, h2, h3⟩
    · rw [List.nil_append] at h2
      subst h2
      exact .inl ⟨h1, by omega, by omega, h3, h4⟩
    · exact .inr ⟨by omega, h2, h3⟩
theorem rdTop_nm {l : List UInt8} {p next : Nat} {n : List UInt8} (hp : p ≤ l.length) (hn : n.length ≤ 255) (h : Nm l p p n none next) : rdTop l (p : Int) = (n, next, 0) := by
  unfold rdTop
  rw [if_neg (by omega)]
  exact rd_of_nm h _ [] (by simpa using hn) (by simp)
theorem rdTop_app {l : List UInt8} (m : List UInt8) {i : Int} {r : List UInt8} {next : Nat} (h : rdTop l i = (r, next, 0)) : rdTop (l ++ m) i = (r, next, 0) := by
  rcases rdTop_ok h with ⟨_, h1, h2, h3, h4⟩ | ⟨h1, _⟩
  · have := rdTop_nm (l := l ++ m) (p := i.toNat) (by rw [List.length_append]; omega) h3 (h4.app m)
    rwa [Int.toNat_of_nonneg h1] at this
  · omega
theorem rdTop_cut {l : List UInt8} {i : Int} {r : List UInt8} {next k : Nat} (h : rdTop l i = (r, next, 0)) (hk : i ≤ k) (hk2 : k < next) : rdTop (l.take k) i = ([], 0, 4) := by
  rcases rdTop_ok h with ⟨_, h1, h2, h3, h4⟩ | ⟨h1, _⟩
  · have hx := (h4.next).2 rfl
    obtain ⟨r', next', e', hr⟩ : ∃ a b c, rdTop (l.take k) i = (a, b, c) := ⟨_, _, _, rfl⟩
    have hlen : (l.take k).length = k := by rw [List.length_take]; omega
    have hg : rdTop (l.take k) i = rd (l.take k) (i.toNat + 256) i.toNat i.toNat [] none := by
      unfold rdTop
      rw [if_neg (by omega)]
    rcases rd_app (l := l.take k) (l.drop k) (i.toNat + 256) i.toNat i.toNat [] none with h5 | h5
    · rw [List.take_append_drop] at h5
      rw [hg, ← h5]
      have h6 : rdTop l i = rd l (i.toNat + 256) i.toNat i.toNat [] none := by
        unfold rdTop
        rw [if_neg (by omega)]
      rw [← h6, h]
      rw [hg, ← h5, ← h6, h] at hr
      injection hr with hr1 hr2
      injection hr2 with hr2 hr3
      subst hr1 hr2 hr3
      rcases rdTop_ok (hg.trans (h5.symm.trans (h6.symm.trans h))) with ⟨_, _, _, _, h7⟩ | ⟨h7, _⟩
      · have := (h7.next).2 rfl
        omega
      · omega
    · rw [hg, h5]
  · omega
/-- Cut off behind what was read: the same, or too short, and then a pointer stood there. -/
theorem rdTop_take {l : List UInt8} {i : Int} {r : List UInt8} {next : Nat} (h : rdTop l i = (r, next, 0)) : rdTop (l.take next) i = (r, next, 0) ∨ (rdTop (l.take next) i = ([], 0, 4) ∧ r.length ≠ next - i.toNat) := by
  rcases rdTop_ok h with ⟨_, h1, h2, h3, h4⟩ | ⟨h1, _⟩
  · have hx := (h4.next).2 rfl
    rcases h4.flat rfl with ⟨_, h5⟩ | h5
    · left
      have := rdTop_nm (l := l.take next) (p := i.toNat) (by rw [List.length_take]; omega) h3 (h5 next (Nat.le_refl _))
      rwa [Int.toNat_of_nonneg h1] at this
    · have hlen : (l.take next).length = next := by rw [List.length_take]; omega
      have hg : rdTop (l.take next) i = rd (l.take next) (i.toNat + 256) i.toNat i.toNat [] none := by
        unfold rdTop
        rw [if_neg (by omega)]
      have h6 : rdTop l i = rd l (i.toNat + 256) i.toNat i.toNat [] none := by
        unfold rdTop
        rw [if_neg (by omega)]
      rcases rd_app (l := l.take next) (l.drop next) (i.toNat + 256) i.toNat i.toNat [] none with h7 | h7
      · left
        rw [List.take_append_drop] at h7
        rw [hg, ← h7, ← h6, h]
      · right
        exact ⟨by rw [hg, h7], h5⟩
  · omega
end Go.Proofs.YtngmdefhdknggaaDoor.Cm
