/- comp.Table: how it lies in memory; New, At, keep, walked. -/
import Derived.Test.YtngmdefhdknggaaDoorCmRead
import Derived.Maps.OwnSet
import Derived.Maps.Views
import Derived.WalkSpells
namespace Go.Proofs.YtngmdefhdknggaaDoor.Cm
open Go.RowKit Go.Maps Go.Proofs.YtngmdefhdknggaaDoor.Cur Go.Proofs.YtngmdefhdknggaaDoor.Put Go.Proofs.YtngmdefhdknggaaDoor.Nm

theorem lawS : Keyed Tryd.prog 9 := string_keyed Tryd.underlying9
theorem zeroI (w : World) : (zeroValue 3).run Tryd.prog w = .ok (.int .i64 0) w := by kernel_rfl

/-- What a datum says, as a table of endings. -/
def Says (D : DataW Unit) (t : Tbl) : Prop := IsMap D ∧ ∀ m : List UInt8, Maps.has D (.string m) = (t m).isSome ∧ ∀ a, t m = some a → D.atKey (.string m) (.lit (.int .i64 0)) = .lit (.int .i64 (a : Int))
/-- A table lies at a block. -/
def TblAt (w : World) (b n : Nat) (t : Tbl) : Prop :=
  (w.heap[b]? = some (.cells #[.map none] 32 (0, 0)) ∧ t = fun _ => none) ∨
  ∃ mb D, w.heap[b]? = some (.cells #[.map (some mb)] 32 (0, 0)) ∧ w.ownsMap Tryd.prog 9 (plainElem Tryd.prog 3) mb n D ∧ Says D t
/-- The blocks that a table has. -/
def TblS (w : World) (b : Nat) : Nat → Prop := fun k => k = b ∨ w.heap[b]? = some (.cells #[.map (some k)] 32 (0, 0))

theorem TblAt.chg {S : Nat → Prop} {w w' : World} {b n : Nat} {t : Tbl} (h : TblAt w b n t) (hc : Chg S w w') (hs : ∀ k, TblS w b k → ¬ S k) : TblAt w' b n t := by
  rcases h with ⟨h1, h2⟩ | ⟨mb, D, h1, ⟨es, ck, h2, h3⟩, h4⟩
  · exact .inl ⟨hc.heap h1 (hs b (.inl rfl)), h2⟩
  · exact .inr ⟨mb, D, hc.heap h1 (hs b (.inl rfl)), ⟨es, ck, hc.heap h2 (hs mb (.inr h1)), h3⟩, h4⟩
theorem TblAt.nob {w w' : World} {b n : Nat} {t : Tbl} (h : TblAt w b n t) (hc : Chg Nob w w') : TblAt w' b n t := h.chg hc (fun _ _ h => h)
theorem TblAt.more {w : World} {b n m : Nat} {t : Tbl} (h : TblAt w b n t) (hm : n ≤ m) : TblAt w b m t := by
  rcases h with h | ⟨mb, D, h1, h2, h3⟩
  · exact .inl h
  · exact .inr ⟨mb, D, h1, h2.mono hm, h3⟩
theorem TblS.same {S : Nat → Prop} {w w' : World} {b : Nat} (hl : b < w.heap.size) (hc : Chg S w w') (hs : ¬ S b) {k : Nat} (h : TblS w' b k) : TblS w b k := by
  rcases h with h | h
  · exact .inl h
  · right
    rw [← h]
    exact (hc.block b hl hs).symm
theorem TblAt.blk {w : World} {b n : Nat} {t : Tbl} (h : TblAt w b n t) : ∃ r, w.heap[b]? = some (.cells #[.map r] 32 (0, 0)) := by
  rcases h with ⟨h1, _⟩ | ⟨mb, D, h1, _⟩
  · exact ⟨_, h1⟩
  · exact ⟨_, h1⟩
theorem TblAt.lt {w : World} {b n : Nat} {t : Tbl} (h : TblAt w b n t) : b < w.heap.size := by
  obtain ⟨r, hr⟩ := h.blk
  exact lt_of_block hr
/-- Cells of another type are no block of a table. -/
theorem TblAt.no {w : World} {b n k : Nat} {t : Tbl} (h : TblAt w b n t) {cs : Array Value} {ty : TypeId} {fz : Nat × Nat} (hk : w.heap[k]? = some (.cells cs ty fz)) (ht : ty ≠ 32) : ¬ TblS w b k := by
  intro hs
  have hb : ∀ r, w.heap[b]? = some (.cells #[.map r] 32 (0, 0)) → k ≠ b := by
    intro r hr e
    subst e
    rw [hk] at hr
    injection hr with hr
    injection hr with _ h2
    exact ht h2
  rcases h with ⟨h1, _⟩ | ⟨mb, D, h1, ⟨es, ck, h2, h3⟩, _⟩
  · rcases hs with hs | hs
    · exact hb _ h1 hs
    · rw [h1] at hs
      injection hs with hs
      injection hs with hs
      simp at hs
  · rcases hs with hs | hs
    · exact hb _ h1 hs
    · rw [h1] at hs
      injection hs with hs
      injection hs with hs
      simp at hs
      subst hs
      rw [hk] at h2
      cases h2
/-- A block that holds a cell of another form is no block of a table. -/
theorem TblAt.no_cell {w : World} {b n k i : Nat} {t : Tbl} (h : TblAt w b n t) {u : Value} (hk : w.cell? ⟨k, i, none⟩ = some u) (hu : ∀ r, u ≠ .map r) : ¬ TblS w b k := by
  intro hs
  have hb : ∀ r, w.heap[b]? = some (.cells #[.map r] 32 (0, 0)) → k ≠ b := by
    intro r hr e
    subst e
    rw [cell_blk hr] at hk
    rcases i with _ | i
    · simp at hk
      exact hu r hk.symm
    · simp at hk
  rcases h with ⟨h1, _⟩ | ⟨mb, D, h1, ⟨es, ck, h2, h3⟩, _⟩
  · rcases hs with hs | hs
    · exact hb _ h1 hs
    · rw [h1] at hs
      injection hs with hs
      injection hs with hs
      simp at hs
  · rcases hs with hs | hs
    · exact hb _ h1 hs
    · rw [h1] at hs
      injection hs with hs
      injection hs with hs
      simp at hs
      subst hs
      simp [World.cell?, h2] at hk
theorem bytes_tbl {w w' : World} {b n : Nat} {t : Tbl} {v : Value} {l : List UInt8} (hB : BytesAt w v l) (hT : TblAt w b n t) (hC : Chg (TblS w b) w w') : BytesAt w' v l := by
  obtain ⟨a, c, rfl, hl, h⟩ := hB
  refine ⟨a, c, rfl, hl, ?_⟩
  rcases h with h | ⟨g, off, rfl, hg, h⟩
  · exact .inl h
  · cases l with
    | nil => exact .inl rfl
    | cons x l =>
      have hn := hT.no_cell (h 0 x rfl) (by intro r e; cases e)
      exact .inr ⟨g, off, rfl, Nat.lt_of_lt_of_le hg hC.size, fun i x hx => hC.cell (h i x hx) hn⟩

theorem new_any (w : World) : Calls Tryd.prog 21 #[] w fun e w' => e = .returned (.pointer (some ⟨w.heap.size, 0, none⟩)) ∧ TblAt w' w.heap.size 0 (fun _ => none) ∧ w'.heap[w.heap.size]? = some (.cells #[.map none] 32 (0, 0)) ∧ Chg Nob w w' := by
  go_enter Tryd.func21, Tryd.ntmps21
  go_wp2
  go_ret
  exact ⟨rfl, .inl ⟨alloc_new _ _, rfl⟩, alloc_new _ _, (Chg.refl Nob w).alloc _⟩

set_option maxRecDepth 100000 in
theorem at_tbl (w : World) (b n : Nat) (t : Tbl) (s : ByteArray) (hs : s.size ≤ 9223372036854775807) (h : TblAt w b n t) :
    Calls Tryd.prog 19 #[.pointer (some ⟨b, 0, none⟩), .string s] w fun e w' => e = .returned (.tuple #[.int .i64 (((t s.data.toList).getD 0 : Nat) : Int), .bool (t s.data.toList).isSome]) ∧ w = w' := by
  have hkey : keyOf Tryd.prog 9 (.string s) = some (.string s.data.toList) := WideMaps.keyOf_string_mk Tryd.underlying9 (by unfold maxLen; omega)
  rcases h with ⟨h1, h2⟩ | ⟨mb, D, h1, h2, h3, h4⟩
  · have hrun := look_nil (w := w) true lawS Tryd.underlying30 (zeroI w) hkey
    have c0 := cell_blk h1 0
    rw [h2]
    clear h2
    go_enter Tryd.func19, Tryd.ntmps19
    go_wp2
    go_ret2
    exact ⟨rfl, rfl⟩
  · have c0 := cell_blk h1 0
    obtain ⟨h5, h6⟩ := h4 s.data.toList
    obtain ⟨q, hq⟩ : ∃ q, q = Maps.has D (.string s.data.toList) := ⟨_, rfl⟩
    have HQ := Lib.hid hq
    have H5 := Lib.hid h5
    have H6 := Lib.hid h6
    clear h4 h5 h6 hq
    go_enter Tryd.func19, Tryd.ntmps19
    go_wp2_with (at_lookup; refine wpList_lookup_own_ok_int _ rfl _ _ 30 rfl 9 3 .i64 lawS Tryd.underlying30 Tryd.underlying3 (zeroI _) mb n D rfl h2 _ _ rfl hkey ?_; rw [← HQ.out]; intro c hat hwc; have HA := Lib.hid hat; clear hat)
    have e : q = (t s.data.toList).isSome ∧ c = (((t s.data.toList).getD 0 : Nat) : Int) := by
      refine ⟨HQ.out.trans H5.out, ?_⟩
      have hA := HA.out
      cases ht : t s.data.toList with
      | none =>
        rw [atKey_of_not_has (by rw [H5.out, ht]; rfl)] at hA
        injection hA with hA
        injection hA with _ hA
        exact hA.symm
      | some a =>
        rw [H6.out a ht] at hA
        injection hA with hA
        injection hA with _ hA
        exact hA.symm
    obtain ⟨e1, e2⟩ := e
    have HE1 := Lib.hid e1
    have HE2 := Lib.hid e2
    clear e1 e2
    go_ret2
    exact ⟨by rw [← HE1.out, ← HE2.out]; rfl, rfl⟩

theorem Says.put {D : DataW Unit} {t : Tbl} (h : Says D t) (m : List UInt8) (a : Nat) : Says (D.put (.string m) (.lit (.int .i64 (a : Int)))) (upd t m a) := by
  obtain ⟨h1, h2⟩ := h
  refine ⟨h1.put _ _, fun m' => ?_⟩
  unfold upd
  by_cases e : m' = m
  · subst e
    rw [if_pos rfl]
    refine ⟨has_put_same h1 (show WideAt.IsKeyLit (.string m') from trivial) _, fun a' ha => ?_⟩
    injection ha with ha
    subst ha
    exact atKey_put_same h1 (show WideAt.IsKeyLit (.string m') from trivial) _ _
  · rw [if_neg e]
    have hne : (Lit.string m') ≠ (Lit.string m) := fun h => e (by injection h)
    refine ⟨(has_put_other hne _).trans (h2 m').1, fun a' ha => ?_⟩
    rw [atKey_put_other hne]
    exact (h2 m').2 a' ha
theorem Says.nil : Says (.map []) (fun _ => none) := ⟨isMap_empty, fun m => ⟨rfl, fun a h => by cases h⟩⟩

set_option maxRecDepth 100000 in
theorem keep_no (w : World) (p : Value) (v : Value) (a : Int) (ha : 16383 < a) :
    Calls Tryd.prog 45 #[p, v, .int .i64 a] w fun e w' => e = .returned (.tuple #[]) ∧ w = w' := by
  go_enter Tryd.func45, Tryd.ntmps45
  go_wp2
  exact bodyPost_ret (v := .tuple #[]) (by simp [results, Tryd.results45, go_sem]) rfl ⟨rfl, rfl⟩
set_option maxRecDepth 100000 in
theorem keep_yes (w : World) (b n : Nat) (t : Tbl) (s : ByteArray) (a : Nat) (hs : s.size ≤ 9223372036854775807) (h : TblAt w b n t) (ha : a ≤ 16383) (hn : n < 4611686018427387904) :
    Calls Tryd.prog 45 #[.pointer (some ⟨b, 0, none⟩), .string s, .int .i64 (a : Int)] w fun e w' => e = .returned (.tuple #[]) ∧ TblAt w' b (n + 1) (upd t s.data.toList a) ∧ Chg (TblS w b) w w' ∧ ∀ k, TblS w' b k → TblS w b k ∨ w.heap.size ≤ k := by
  have hkey : keyOf Tryd.prog 9 (.string s) = some (.string s.data.toList) := WideMaps.keyOf_string_mk Tryd.underlying9 (by unfold maxLen; omega)
  have hwf : (Lit.int .i64 (a : Int)).wf = true := by
    simp [Lit.wf, IntKind.min, IntKind.max, IntKind.signed, IntKind.bits]
    omega
  have hm2 : n < maxLen := by unfold maxLen; omega
  have a0 : ¬ (16383 : Int) < (a : Int) := by omega
  have a1 : (0 : Int) ≤ (a : Int) := by omega
  have hlt := h.lt
  have qT : ∀ (w : World) (r : Option Nat), (binOp .eql 30 (.map r) (.map none)).run Tryd.prog w = .ok (.bool r.isNone) w := fun w r => run_eql_map_nil w _ _ _ r Tryd.underlying30
  have hmm := @run_makeMap Tryd.prog
  rcases h with ⟨h1, h2⟩ | ⟨mb, D, h1, h2, h3⟩
  · have c0 := cell_blk h1 0
    have z0 := frozen_blk h1 0
    rw [h2]
    clear h2
    go_enter Tryd.func45, Tryd.ntmps45
    have hsz : (w.setCell ⟨b, 0, none⟩ (.map (some w.heap.size))).heap.size = w.heap.size := by simp
    have hown0 := World.ownsMap_made (w.setCell ⟨b, 0, none⟩ (.map (some w.heap.size))) Tryd.prog 9 (plainElem (H := Unit) Tryd.prog 3)
    rw [hsz] at hown0
    have hr0 := alloc_blk (set_blk h1 0 (.map (some w.heap.size))) (.map #[] 0)
    have HC0 := Lib.hid (((Chg.refl (TblS w b) w).setCell (p := ⟨b, 0, none⟩) (.inl (.inl rfl)) (.map (some w.heap.size))).alloc (.map #[] 0))
    have HR0 := Lib.hid hr0
    clear hr0
    go_wp2_with (at_mapUpdate; refine wpList_mapUpdate_own _ rfl _ _ _ 30 rfl 9 3 lawS Tryd.underlying30 _ w.heap.size 0 (.map []) rfl hown0 (by unfold maxLen; omega) _ _ _ rfl rfl hkey _ [] (plainElem_int Tryd.underlying3 hwf) ?_; intro w1 hown1 hgrow1)
    have hC := HC0.out.grown hgrow1 (fun k hk => by cases hk; exact .inr (Nat.le_refl _))
    have hb1 : w1.heap[b]? = some (.cells #[.map (some w.heap.size)] 32 (0, 0)) := ((Chg.refl (Only w.heap.size) _).grown hgrow1 (fun k hk => by cases hk; exact .inl rfl)).heap HR0.out (fun e => by have e2 : b = w.heap.size := e; omega)
    go_end0
    refine ⟨rfl, .inr ⟨w.heap.size, _, hb1, hown1.mono (by omega), Says.nil.put _ _⟩, hC, fun k hk => ?_⟩
    rcases hk with hk | hk
    · exact .inl (.inl hk)
    · rw [hb1] at hk
      injection hk with hk
      injection hk with hk
      simp at hk
      omega
  · have c0 := cell_blk h1 0
    have H3 := Lib.hid h3
    clear h3
    go_enter Tryd.func45, Tryd.ntmps45
    go_wp2_with (at_mapUpdate; refine wpList_mapUpdate_own _ rfl _ _ _ 30 rfl 9 3 lawS Tryd.underlying30 _ mb n D rfl h2 hm2 _ _ _ rfl rfl hkey _ [] (plainElem_int Tryd.underlying3 hwf) ?_; intro w1 hown1 hgrow1)
    have hC : Chg (TblS w b) w w1 := (Chg.refl (TblS w b) w).grown hgrow1 (fun k hk => by cases hk; exact .inl (.inr h1))
    have hne : b ≠ mb := by
      intro e
      subst e
      obtain ⟨es, ck, h5, _⟩ := h2
      rw [h5] at h1
      cases h1
    have hb1 : w1.heap[b]? = some (.cells #[.map (some mb)] 32 (0, 0)) := ((Chg.refl (Only mb) w).grown hgrow1 (fun k hk => by cases hk; exact .inl rfl)).heap h1 hne
    go_end0
    refine ⟨rfl, .inr ⟨mb, _, hb1, hown1, H3.out.put _ _⟩, hC, fun k hk => ?_⟩
    rcases hk with hk | hk
    · exact .inl (.inl hk)
    · exact .inl (.inr (by rw [h1, ← hb1]; exact hk))
end Go.Proofs.YtngmdefhdknggaaDoor.Cm
