/- HedgeRow's closure: it counts those that are sent to, and notes those that are asked first. -/
import Derived.Test.YtbpbhccgnfakiaaHgRowP
import Derived.Test.YtbpbhccgnfakiaaHgWalkH
import Derived.Deep.RegionHeld3
import Derived.Deep.RegionWith
namespace Go.Proofs.Ytbpbhccgnfakiaa.Hg
open Go.RowKit

theorem arr_set {w : World} {b : Nat} {F : List Int} {t : TypeId} {fz : Nat × Nat} (h : w.heap[b]? = some (.cells (ints F).toArray t fz)) (i : Nat) (x : Int) :
    (w.setCell ⟨b, i, none⟩ (.int .i64 x)).heap[b]? = some (.cells (ints (F.set i x)).toArray t fz) := by
  rw [set_blk h i (.int .i64 x)]
  simp [ints, List.map_set]

theorem arr_cell {w : World} {b : Nat} {F : List Int} {t : TypeId} {fz : Nat × Nat} (h : w.heap[b]? = some (.cells (ints F).toArray t fz)) (hl : F.length = 9) (i : Nat) (hi : i < 9) :
    w.cell? ⟨b, i, none⟩ = some (.int .i64 (F.getD i 0)) := by
  rw [cell_blk h]
  simp [ints, List.getD, hl, hi]

theorem IntsAt.get {w : World} {pa : Option Addr} {n pc : Nat} {l : List Int} (h : IntsAt w (.slice pa n pc) l) {i : Nat} {x : Int} (hx : l[i]? = some x) : ∃ b off, pa = some ⟨b, off, Option.none⟩ ∧ w.cell? ⟨b, off + i, Option.none⟩ = some (.int .i64 x) ∧ n = l.length := by
  obtain ⟨a, c, e, _, h⟩ := h
  injection e with e1 e2 e3
  subst e1
  rcases h with h | ⟨b, off, rfl, h⟩
  · simp [h] at hx
  · exact ⟨b, off, rfl, h i x hx, e2⟩

/-- The closure's blocks: over, times, first's box, the plan's box; and what they hold. -/
structure Book (base bo bt bf bp : Nat) (lst : Value) (r : Raw) (Ov Tm fs : List Int) (fv : Value) (w : World) : Prop where
  o : w.heap[bo]? = some (.cells (ints Ov).toArray 35 (0, 0))
  t : w.heap[bt]? = some (.cells (ints Tm).toArray 35 (0, 0))
  f : w.heap[bf]? = some (.cells #[fv] 22 (0, 0))
  p : w.heap[bp]? = some (.cells (r.cells lst) 24 (0, 0))
  own : w.ownsRow base 3 1 fv fs.length (ints fs)
  lenO : Ov.length = 9
  lenT : Tm.length = 9

/-- They lie apart. -/
structure Apart4 (bo bt bf bp : Nat) (fv : Value) : Prop where
  ne : bo ≠ bt ∧ bo ≠ bf ∧ bo ≠ bp ∧ bt ≠ bf ∧ bt ≠ bp ∧ bf ≠ bp
  fv : ∀ k, fv.ownBlock = some k → k ≠ bo ∧ k ≠ bt ∧ k ≠ bf ∧ k ≠ bp

theorem Book.mem {base bo bt bf bp : Nat} {lst : Value} {r : Raw} {Ov Tm fs : List Int} {fv : Value} {w : World} (h : Book base bo bt bf bp lst r Ov Tm fs fv w) : bo < w.heap.size ∧ bt < w.heap.size ∧ bf < w.heap.size ∧ bp < w.heap.size :=
  ⟨lt_of_block h.o, lt_of_block h.t, lt_of_block h.f, lt_of_block h.p⟩

theorem Book.chg {base bo bt bf bp : Nat} {lst : Value} {r : Raw} {Ov Tm fs : List Int} {fv : Value} {w w' : World} {C : Nat → Prop} (h : Book base bo bt bf bp lst r Ov Tm fs fv w) (hc : Chg C w w')
    (h1 : ¬ C bo) (h2 : ¬ C bt) (h3 : ¬ C bf) (h4 : ¬ C bp) (h5 : ∀ k, fv.ownBlock = some k → ¬ C k) : Book base bo bt bf bp lst r Ov Tm fs fv w' :=
  ⟨hc.heap h.o h1, hc.heap h.t h2, hc.heap h.f h3, hc.heap h.p h4, hc.own h.own h5, h.lenO, h.lenT⟩

theorem Book.setT {base bo bt bf bp : Nat} {lst : Value} {r : Raw} {Ov Tm fs : List Int} {fv : Value} {w : World} (h : Book base bo bt bf bp lst r Ov Tm fs fv w) (ha : Apart4 bo bt bf bp fv) (i : Nat) (x : Int) :
    Book base bo bt bf bp lst r Ov (Tm.set i x) fs fv (w.setCell ⟨bt, i, none⟩ (.int .i64 x)) := by
  have hc : Chg (Only bt) w (w.setCell ⟨bt, i, none⟩ (.int .i64 x)) := Chg.setCell (p := ⟨bt, i, none⟩) (Chg.refl (Only bt) w) (.inl (Only.self bt)) _
  exact ⟨hc.heap h.o ha.ne.1, arr_set h.t i x, hc.heap h.f (fun e => ha.ne.2.2.2.1 (show bf = bt from e).symm), hc.heap h.p (fun e => ha.ne.2.2.2.2.1 (show bp = bt from e).symm), hc.own h.own (fun k hk e => (ha.fv k hk).2.1 e), h.lenO, by rw [List.length_set]; exact h.lenT⟩

theorem Book.setO {base bo bt bf bp : Nat} {lst : Value} {r : Raw} {Ov Tm fs : List Int} {fv : Value} {w : World} (h : Book base bo bt bf bp lst r Ov Tm fs fv w) (ha : Apart4 bo bt bf bp fv) (i : Nat) (x : Int) :
    Book base bo bt bf bp lst r (Ov.set i x) Tm fs fv (w.setCell ⟨bo, i, none⟩ (.int .i64 x)) := by
  have hc : Chg (Only bo) w (w.setCell ⟨bo, i, none⟩ (.int .i64 x)) := Chg.setCell (p := ⟨bo, i, none⟩) (Chg.refl (Only bo) w) (.inl (Only.self bo)) _
  exact ⟨arr_set h.o i x, hc.heap h.t (fun e => ha.ne.1 (show bt = bo from e).symm), hc.heap h.f (fun e => ha.ne.2.1 (show bf = bo from e).symm), hc.heap h.p (fun e => ha.ne.2.2.1 (show bp = bo from e).symm), hc.own h.own (fun k hk e => (ha.fv k hk).1 e), by rw [List.length_set]; exact h.lenO, h.lenT⟩

/-- first = append(first, u). -/
theorem Book.setF {base bo bt bf bp : Nat} {lst : Value} {r : Raw} {Ov Tm fs fs' : List Int} {fv v' : Value} {w w' : World} (h : Book base bo bt bf bp lst r Ov Tm fs fv w) (ha : Apart4 bo bt bf bp fv)
    (hown : w'.ownsRow base 3 1 v' fs'.length (ints fs')) (hg : w.grownBy w' fv.ownBlock) (hst : Stays w fv v') :
    Book base bo bt bf bp lst r Ov Tm fs' v' (w'.setCell ⟨bf, 0, none⟩ v') := by
  have hm := h.mem
  have hc : Chg (fun j => fv.ownBlock = some j) w w' := (Chg.refl _ w).grown hg (fun k hk => .inl hk)
  have hcb : Chg (Only bf) w' (w'.setCell ⟨bf, 0, none⟩ v') := Chg.setCell (p := ⟨bf, 0, none⟩) (Chg.refl (Only bf) w') (.inl (Only.self bf)) _
  have hf := hc.heap h.f (fun e => (ha.fv _ e).2.2.1 rfl)
  refine ⟨hcb.heap (hc.heap h.o (fun e => (ha.fv _ e).1 rfl)) ha.ne.2.1, hcb.heap (hc.heap h.t (fun e => (ha.fv _ e).2.1 rfl)) ha.ne.2.2.2.1, ?_, hcb.heap (hc.heap h.p (fun e => (ha.fv _ e).2.2.2 rfl)) (fun e => ha.ne.2.2.2.2.2 (show bp = bf from e).symm), hcb.own hown ?_, h.lenO, h.lenT⟩
  · rw [set_blk hf 0 v']
    rfl
  · intro k hk e
    have e' : k = bf := e
    rcases hst with h1 | h1
    · rw [h1] at hk; exact (ha.fv k hk).2.2.1 e'
    · have := h1 k hk; omega

theorem Apart4.stays {base bo bt bf bp : Nat} {lst : Value} {r : Raw} {Ov Tm fs : List Int} {fv fv' : Value} {w : World} (ha : Apart4 bo bt bf bp fv) (h : Book base bo bt bf bp lst r Ov Tm fs fv w) (hst : Stays w fv fv') : Apart4 bo bt bf bp fv' := by
  have hm := h.mem
  refine ⟨ha.ne, fun k hk => ?_⟩
  rcases hst with h1 | h1
  · rw [h1] at hk; exact ha.fv k hk
  · have := h1 k hk; omega

set_option maxRecDepth 100000 in
set_option maxHeartbeats 4000000 in
theorem sent_any (w : World) (base bo bt bf bp : Nat) (lst lv fv : Value) (r : Raw) (S Ov Tm fs : List Int) (hb : Book base bo bt bf bp lst r Ov Tm fs fv w) (ha : Apart4 bo bt bf bp fv)
    (hS : IntsAt w lv S) (hl : ∀ k, lv.ownBlock = some k → k ≠ bt ∧ k ≠ bf ∧ fv.ownBlock ≠ some k ∧ k < w.heap.size) (hok : SentOk S Ov Tm fs r.tries) (hT : 1 ≤ r.tries ∧ r.tries ≤ 4) (hSl : S.length ≤ 20) (hfl : fs.length ≤ 500) (hbase : base ≤ w.heap.size) :
    Calls Try.prog 12 #[lv, .pointer (some ⟨bo, 0, none⟩), .pointer (some ⟨bt, 0, none⟩), .pointer (some ⟨bf, 0, none⟩), .pointer (some ⟨bp, 0, none⟩)] w fun e w' =>
      e = .returned (.bool true) ∧ ∃ fv', Book base bo bt bf bp lst r Ov (S.foldl sentOne (Tm, fs)).1 (S.foldl sentOne (Tm, fs)).2 fv' w' ∧ Stays w fv fv' ∧ Chg (fun j => j = bt ∨ j = bf ∨ fv.ownBlock = some j) w w' := by
  have HOK := Lib.hid hok
  obtain ⟨n, hn⟩ : ∃ n, n = S.length := ⟨_, rfl⟩
  obtain ⟨la, lc, rfl, hlc, hS0⟩ := hS
  rw [← hn] at hl hlc ⊢
  have hSS : IntsAt w (.slice la n lc) S := ⟨la, lc, by rw [hn], by omega, hS0⟩
  have hn20 : n ≤ 20 := by omega
  have HN := Lib.hid hn
  clear hn hok hS0 hSl
  go_enter Try.func12, Try.ntmps12
  go_wp2_with fail
  go_loopw [7] (fun i wx => ∃ (k : Nat) (Tm' fs' : List Int) (fv' : Value), k ≤ n ∧ i = .int .i64 k ∧ Book base bo bt bf bp lst r Ov Tm' fs' fv' wx ∧ Stays w fv fv' ∧ fs'.length ≤ 500 + k ∧ Hid ((Tm', fs') = (S.take k).foldl sentOne (Tm, fs)) ∧ Chg (fun j => j = bt ∨ j = bf ∨ fv.ownBlock = some j) w wx) (fun i _ => 1001 - (intOf i).toNat)
  case atStart => exact ⟨0, Tm, fs, fv, by omega, rfl, hb, .inl rfl, by omega, Lib.hid rfl, Chg.refl _ _⟩
  case round =>
    obtain ⟨k, Tm', fs', fv', hk, rfl, hB, hst, hfl', hF, hC⟩ := hrel
    have hA := ha.stays hb hst
    have hIS := hSS.chg hC (fun j hj e => by
      have := hl j hj
      rcases e with e | e | e
      · exact this.1 e
      · exact this.2.1 e
      · exact this.2.2.1 e)
    by_cases hkn : k < n
    · have hx : S[k]? = some (S[k]'(by have := HN.out; omega)) := List.getElem?_eq_getElem _
      obtain ⟨hu0, hu9, ho0, ht0, ht1⟩ := HOK.out k _ hx
      obtain ⟨lb, lo, rfl, hc, hnn⟩ := hIS.get hx
      clear hnn
      rw [← hF.out] at ht0 ht1
      generalize hue : S[k]'(by have := HN.out; omega) = u at *
      have cO := arr_cell hB.o hB.lenO u.toNat (by omega)
      rw [ho0] at cO
      have cT := arr_cell hB.t hB.lenT u.toNat (by omega)
      have zT := frozen_blk hB.t u.toNat
      obtain ⟨y, hy⟩ : ∃ y, y = Tm'.getD u.toNat 0 := ⟨_, rfl⟩
      have hBT := hB.setT hA u.toNat (y + 1)
      simp only at ht0 ht1
      rw [← hy] at cT ht0 ht1
      have HY := Lib.hid hy
      clear hy ho0
      have hy4 : y < 4 := by omega
      have cT1 := arr_cell hBT.t hBT.lenT u.toNat (by omega)
      have cF1 := cell_blk hBT.f 0
      have zF1 := frozen_blk hBT.f 0
      have hgd : (Tm'.set u.toNat (y + 1)).getD u.toNat 0 = y + 1 := by
        have : u.toNat < Tm'.length := by have := hB.lenT; omega
        simp [List.getD, List.getElem?_set_self this]
      rw [hgd] at cT1
      have hb4 := cell_blk hBT.p 4
      simp only [Raw.cells] at hb4
      have hkn1 : (k : Int) < (n : Int) := by omega
      have hk0 : (0 : Int) ≤ (k : Int) := by omega
      have hn20' : (n : Int) ≤ 20 := by omega
      have hu0' : ¬ u < 0 := by omega
      have hu9' : ¬ 9 ≤ u := by omega
      by_cases hy0 : y = 0
      · subst hy0
        rw [Int.zero_add] at hBT cT1 cF1 zF1 hb4 hgd
        have hwl := hC.size
        have hfl2 : fs'.length ≤ 1000 := by omega
        have HOWN := Lib.hid hBT.own
        have HBA := Lib.hid (hBT.chg ((Chg.refl Nob _).alloc (.cells #[.int .i64 u] 3)) (fun h => h) (fun h => h) (fun h => h) (fun h => h) (fun _ _ h => h))
        have hty : ¬ r.tries < 1 := by omega
        go_wp2_with (at_builtin; go_loud (refine app_int _ rfl _ _ rfl base fv' fs' rfl (HOWN.out.alloc _) ⟨wr.heap.size, 0, none⟩ 1 u rfl (by rw [World.cell?_alloc_at _ _ _ _ (by first | (rw [World.size_setCell]; done) | (rw [World.size_setCell]; rfl))]; first | done | rfl) hfl2 (by rw [World.size_alloc, World.size_setCell]; exact Nat.le_trans hbase (Nat.le_trans hwl (Nat.le_succ _))) ?_); intro v' w3 hown3 hgr3 hst3; obtain ⟨a3, c3, hv3, _⟩ := own_form hown3; rw [show (fs' ++ [u]).length = fs'.length + 1 from by simp] at hv3; subst hv3; have hc3 : Chg (fun j => fv'.ownBlock = some j) (wr.setCell ⟨bt, u.toNat, none⟩ (.int .i64 1)) w3 := ((Chg.refl _ _).alloc _).grown hgr3 (fun k hk => .inl hk); have cB := hc3.heap hBT.f (fun e => (hA.fv _ e).2.2.1 rfl); have cB1 := cell_blk cB 0; have zB := frozen_blk cB 0; have hBF := HBA.out.setF hA hown3 hgr3 hst3; have cT3 := arr_cell hBF.t hBF.lenT u.toNat (by omega); rw [hgd] at cT3; have cP3 := cell_blk hBF.p 4; simp only [Raw.cells] at cP3)
        go_quiet (fail)
        go_wp2_with fail
        refine ⟨⟨k + 1, inc Tm' u, fs' ++ [u], .slice a3 (fs'.length + 1) c3, by omega, rfl, ?_, ?_, by simp; omega, Lib.hid ?_, ?_⟩, by simp [intOf]; omega⟩
        · have : inc Tm' u = Tm'.set u.toNat 1 := by unfold inc; rw [← HY.out]; rfl
          rw [this]
          exact hBF.chg ((Chg.refl Nob _).drewN _) (fun h => h) (fun h => h) (fun h => h) (fun h => h) (fun _ _ h => h)
        · rcases hst3 with h1 | h1
          · rcases hst with h2 | h2
            · exact .inl (h1.trans h2)
            · exact .inr (fun j hj => h2 j (by rw [← h1]; exact hj))
          · refine .inr (fun j hj => ?_)
            have := h1 j hj
            rw [World.size_alloc, World.size_setCell] at this
            omega
        · rw [take_succ_some hx, List.foldl_append, ← hF.out, List.foldl_cons, List.foldl_nil, sentOne, ← HY.out]
          rfl
        · refine ((((hC.setCell (p := ⟨bt, u.toNat, none⟩) (.inl (.inl rfl)) _).alloc _).grown hgr3 (fun j hj => ?_)).setCell (p := ⟨bf, 0, none⟩) (.inl (.inr (.inl rfl))) _).drewN _
          rcases hst with h2 | h2
          · exact .inl (.inr (.inr (by rw [← h2]; exact hj)))
          · exact .inr (h2 j hj)
      · have hy1 : ¬ y + 1 = 1 := by omega
        have hy1' : decide (y + 1 = 1) = false := by simp; omega
        have hty : ¬ r.tries < y + 1 := by omega
        go_wp2_with fail
        go_quiet (fail)
        go_wp2_with fail
        refine ⟨⟨k + 1, inc Tm' u, fs', fv', by omega, rfl, ?_, hst, by omega, Lib.hid ?_, ?_⟩, by simp [intOf]; omega⟩
        · have : inc Tm' u = Tm'.set u.toNat (y + 1) := by unfold inc; rw [← HY.out]
          rw [this]
          exact hBT.chg ((Chg.refl Nob _).drewN _) (fun h => h) (fun h => h) (fun h => h) (fun h => h) (fun _ _ h => h)
        · rw [take_succ_some hx, List.foldl_append, ← hF.out, List.foldl_cons, List.foldl_nil, sentOne, ← HY.out, if_neg hy1]
        · exact (hC.setCell (.inl (.inl rfl)) _).drewN _
    · have hkn1 : ¬ (k : Int) < (n : Int) := by omega
      go_wp2_with fail
      go_ret
      have e : (S.take k) = S := List.take_of_length_le (by have := HN.out; omega)
      have hF2 := hF.out
      rw [e] at hF2
      rw [← hF2]
      exact ⟨rfl, fv', hB, hst, hC⟩
end Go.Proofs.Ytbpbhccgnfakiaa.Hg
