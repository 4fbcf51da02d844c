/- EdnsBehind, walked. -/
import Derived.Test.YtgfgmaiddmohaaaDoorEdBack
import Derived.Test.YtgfgmaiddmohaaaDoorEdA
namespace Go.Proofs.YtgfgmaiddmohaaaDoor.Ed
open Go.RowKit Go.Proofs.YtgfgmaiddmohaaaDoor.Cur Go.Proofs.YtgfgmaiddmohaaaDoor.Put

/-- How many options begin ahead of a place; where the last one of them ends. -/
def endsAt : List Opt → Nat → Nat × Nat
  | [], _ => (0, 0)
  | o :: l, j => if j = 0 then (0, 0) else ((endsAt l (j - o.bytes.length)).1 + 1, (endsAt l (j - o.bytes.length)).2 + o.bytes.length)

theorem endsAt_zero (l : List Opt) : endsAt l 0 = (0, 0) := by cases l <;> simp [endsAt]
/-- A text of options, cut off, ends behind so many of them, or within one. -/
theorem cutN_ends : ∀ (l : List Opt) (j : Nat), j ≤ (total l).length → cutN l j = if (endsAt l j).2 = j then some (endsAt l j).1 else none
  | [], j, h => by
    have : j = 0 := by simpa [total] using h
    subst this
    rfl
  | o :: l, j, h => by
    have hb := Opt.bytes_len o
    rw [total, List.length_append] at h
    rw [cutN, endsAt]
    by_cases h0 : j = 0
    · subst h0
      simp
    · rw [if_neg h0, if_neg h0]
      by_cases hj : j < o.bytes.length
      · rw [if_pos hj, show j - o.bytes.length = 0 by omega, endsAt_zero, if_neg (by simp only; omega)]
      · rw [if_neg hj, cutN_ends l _ (by omega)]
        by_cases he : (endsAt l (j - o.bytes.length)).2 = j - o.bytes.length
        · rw [if_pos he, if_pos (by simp only; omega)]
          rfl
        · rw [if_neg he, if_neg (by simp only; omega)]
          rfl

/-- The loop of the law: from the place up to which it has come. -/
theorem endsAt_step {l : List Opt} {i : Nat} {o : Opt} (ho : l[i]? = some o) : ∀ (j a : Nat), a < j → endsAt (l.drop i) (j - a) = ((endsAt (l.drop (i + 1)) (j - (a + o.bytes.length))).1 + 1, (endsAt (l.drop (i + 1)) (j - (a + o.bytes.length))).2 + o.bytes.length) := by
  intro j a ha
  obtain ⟨hi, rfl⟩ := List.getElem?_eq_some_iff.1 ho
  rw [List.drop_eq_getElem_cons hi, endsAt, if_neg (by omega), show j - a - l[i].bytes.length = j - (a + l[i].bytes.length) by omega]

/-! Appending options to options of the call's own. -/
theorem run_app_opts (w : World) (ty : TypeId) (base : Nat) (v : Value) (l : List Opt) (hown : w.ownsRow base 61 2 v l.length (optsV l)) (hlk : ∀ o ∈ l, o.Ok)
    (y : Value) (u : List Opt) (hy : OptsAt w y u) (hn : l.length + u.length ≤ 1000) (hbase : base ≤ w.heap.size) :
    ∃ v' w', (Builtin.append_ #[53, 53] ty #[v, y]).run Tryd.prog w = .ok v' w' ∧ w'.ownsRow base 61 2 v' (l ++ u).length (optsV (l ++ u)) ∧ OptsAt w' v' (l ++ u) ∧ Chg (fun j => base ≤ j) w w' := by
  obtain ⟨i0, hi, hz0, hz1, hz2⟩ := info_parts infoOpt
  obtain ⟨ad, c, rfl, _, huk, hu⟩ := hy
  have hge : ∀ k, v.ownBlock = some k → base ≤ k := fun k hk => by
    rcases hown.2 with ⟨rfl, _⟩ | ⟨g, cap, cur, rfl, hbg, _⟩
    · cases hk
    · have : g = k := by simpa [Value.ownBlock] using hk
      omega
  have hall : ∀ o ∈ l ++ u, o.Ok := fun p hp => by
    rcases List.mem_append.1 hp with hp | hp
    · exact hlk p hp
    · exact huk p hp
  have hdone : ∀ v' w', (Builtin.append_ #[53, 53] ty #[v, .slice ad u.length c]).run Tryd.prog w = .ok v' w' → w'.ownsRow base 61 2 v' (l.length + u.length) (optsV l ++ optsV u) → w.grownBy w' v.ownBlock → ∃ v' w', (Builtin.append_ #[53, 53] ty #[v, .slice ad u.length c]).run Tryd.prog w = .ok v' w' ∧ w'.ownsRow base 61 2 v' (l ++ u).length (optsV (l ++ u)) ∧ OptsAt w' v' (l ++ u) ∧ Chg (fun j => base ≤ j) w w' := by
    intro v' w' h0 h1 h2
    rw [← List.length_append, ← optsV_append] at h1
    exact ⟨v', w', h0, h1, own_opts h1 (by rw [List.length_append]; omega) hall, (Chg.refl _ w).grown h2 fun k hk => .inl (hge k hk)⟩
  rcases hu with hu | ⟨b, off, rfl, _, hcell⟩
  · subst hu
    rcases ad with _ | ad
    · have hrun : (Builtin.append_ #[53, 53] ty #[v, .slice none 0 c]).run Tryd.prog w = .ok v w := by
        rcases hown.2 with ⟨rfl, _⟩ | ⟨g, cap, cur, rfl, _, _, hnc, _⟩
        · simp [Builtin.append_, run_underlying Tryd.underlying53, sizeOf, typeInfo, hi, Builtin.lenOf, Builtin.firstCells]
        · simp [Builtin.append_, run_underlying Tryd.underlying53, sizeOf, typeInfo, hi, Builtin.lenOf, Builtin.firstCells, hnc, storeCells]
      exact hdone v w hrun (by simpa [optsV] using hown) (World.grownBy.refl w _)
    · obtain ⟨v', w', hr, h1, h2, _⟩ := run_append_own2 (P := Tryd.prog) w base 53 ty 61 i0 _ 2 24 Tryd.underlying53 hi hz0 hz1 hz2 rfl (by decide) v l.length (optsV l) hown ad 0 c [] rfl (by intro j z hj; cases hj) (by intro z hz; cases hz) (by unfold maxLen; omega) (by simp only [List.length_nil] at hn; omega) hbase
      exact hdone v' w' hr (by simpa [optsV] using h1) h2
  · obtain ⟨v', w', hr, h1, h2, _⟩ := run_append_own2 (P := Tryd.prog) w base 53 ty 61 i0 _ 2 24 Tryd.underlying53 hi hz0 hz1 hz2 rfl (by decide) v l.length (optsV l) hown ⟨b, off, none⟩ u.length c (optsV u) (by rw [optsV_len]) (by
      intro j z hj
      rw [show ((⟨b, off, none⟩ : Addr).add j) = ⟨b, off + j, none⟩ by unfold Addr.add; split <;> simp_all]
      exact optsV_at hcell j z hj) (optsV_one u) (by unfold maxLen; omega) (by omega) hbase
    exact hdone v' w' hr h1 h2

theorem set_false {listed : Array Bool} {i j : Nat} (hi : i < listed.size) (h : (listed.setIfInBounds i true).getD j false = false) : listed.getD j false = false := by
  rw [Reg.set_at hi] at h
  split at h
  · cases h
  · exact h
theorem set_ne {listed : Array Bool} {i j : Nat} (hi : i < listed.size) (hij : i ≠ j) (h : (listed.setIfInBounds i true).getD j false = true) : listed.getD j false = true := by
  rwa [Reg.set_at hi, if_neg hij] at h
theorem set_self {listed : Array Bool} {i : Nat} (hi : i < listed.size) : (listed.setIfInBounds i true).getD i false = true := by rw [Reg.set_at hi, if_pos rfl]

/-- What is told of the slots of the region that appends. -/
def BehT (B mx my mb : Nat) (sx sy : Value) (X Y : List Opt) (cs : Array Value) (listed : Array Bool) (j : Nat) (v : Value) (w : World) : Prop :=
  match j with
  | 0 => listed.getD 3 false = false → ∃ base, B ≤ base ∧ base ≤ w.heap.size ∧ w.ownsRow base 61 2 v ([] : List Opt).length (optsV [])
  | 3 => listed.getD 6 false = false → ∃ base, B ≤ base ∧ base ≤ w.heap.size ∧ w.ownsRow base 61 2 v X.length (optsV X)
  | 6 => listed.getD 8 false = false → ∃ a c, v = .slice a (X ++ Y).length c ∧ OptsAt w (.slice a (X ++ Y).length c) (X ++ Y) ∧ ∀ z, a = some z → B ≤ z.block
  | 7 => v = .pointer (some ⟨mb, 4, none⟩) ∧ (listed.getD 8 false = true → ∃ a c, w.heap[mb]? = some (.cells (cs.setIfInBounds 4 (.slice a (X ++ Y).length c)) 55 (0, 0)) ∧ OptsAt w (.slice a (X ++ Y).length c) (X ++ Y))
  | j => v = [undef, .pointer (some ⟨mx, 4, none⟩), sx, undef, .pointer (some ⟨my, 4, none⟩), sy, undef, undef, undef].getD j undef
theorem own_nob2 {w w' : World} {base n : Nat} {v : Value} {xs : List Value} (h : w.ownsRow base 61 2 v n xs) (hc : Chg Nob w w') : w'.ownsRow base 61 2 v n xs := hc.own h (fun _ _ h => h)
theorem behT_nob {B mx my mb : Nat} {sx sy : Value} {X Y : List Opt} {cs : Array Value} {listed : Array Bool} {i j : Nat} {v : Value} {w w' : World} (hi : i < listed.size) (hne : i ≠ 8) (hC : Chg Nob w w') (h : BehT B mx my mb sx sy X Y cs listed j v w) : BehT B mx my mb sx sy X Y cs (listed.setIfInBounds i true) j v w' := by
  unfold BehT at *
  split at h
  · intro hl
    obtain ⟨base, h1, h2, h3⟩ := h (set_false hi hl)
    exact ⟨base, h1, Nat.le_trans h2 hC.size, own_nob2 h3 hC⟩
  · intro hl
    obtain ⟨base, h1, h2, h3⟩ := h (set_false hi hl)
    exact ⟨base, h1, Nat.le_trans h2 hC.size, own_nob2 h3 hC⟩
  · intro hl
    obtain ⟨a, c, h1, h2, h3⟩ := h (set_false hi hl)
    exact ⟨a, c, h1, h2.nob hC, h3⟩
  · refine ⟨h.1, fun hl => ?_⟩
    obtain ⟨a, c, h1, h2⟩ := h.2 (set_ne hi hne hl)
    exact ⟨a, c, hC.heap h1 (fun h => h), h2.nob hC⟩
  · exact h
end Go.Proofs.YtgfgmaiddmohaaaDoor.Ed
