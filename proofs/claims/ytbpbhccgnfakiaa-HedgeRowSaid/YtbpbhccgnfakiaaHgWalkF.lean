/- Package hedge, walked: New, Copy; and told. -/
import Derived.Test.YtbpbhccgnfakiaaHgWalkE
namespace Go.Proofs.Ytbpbhccgnfakiaa.Hg
open Go.RowKit

theorem infoUp : (Try.prog.info? 62).map (fun i => (i.zero, i.size, i.bytes)) = some (some (.agg #[.int .i64 0, .int .i64 0, .int .i64 0, .bool false]), 4, 32) := by kernel_rfl

def up0 (u : Int) : Up := ⟨u, 0, 0, false⟩
def Plan.fresh (l : List Int) (want every wait tries now : Int) : Plan := ⟨l.map up0, 0, want, tries, every, wait, now, now, 0, false⟩

/-- append(l, up{u: u}). -/
theorem app_up {ops : Array Oper} {rest : List Oper} {o : Oper} {a : Act} {Q : Exit → Act → World → Prop} (w : World) (hgd : o.guard = none) (s x : Operand)
    (ho : o.op = .call { callee := .builtin .append, args := #[s, x], argTypes := #[56, 56] })
    (base : Nat) (v : Value) (l : List Up) (hs : a.eval s = v) (hown : w.ownsRow base 62 4 v l.length (upCells l))
    (g : Nat) (c : Nat) (u : Up) (hx : a.eval x = .slice (some ⟨g, 0, none⟩) 1 c) (hcell : w.heap[g]? = some (.cells u.cells.toArray 62 (0, 0))) (hn : l.length ≤ 1000) (hbase : base ≤ w.heap.size)
    (h : ∀ v' w', w'.ownsRow base 62 4 v' (l ++ [u]).length (upCells (l ++ [u])) → w.grownBy w' v.ownBlock → Stays w v v' → wpList Try.prog ops Q rest (a.put o.dst v') w') : wpList Try.prog ops Q (o :: rest) a w := by
  obtain ⟨i0, hi, hz0, hz1, hz2⟩ := info_parts infoUp
  refine wpList_append_own2 w hgd s x 56 ho base 62 i0 _ 4 32 Try.underlying56 hi hz0 hz1 hz2 rfl (by decide) v l.length (upCells l) hs hown ⟨g, 0, none⟩ 1 c u.cells hx rfl ?_ ?_ ?_ ?_ hbase ?_
  · intro j y hj
    rw [show ((⟨g, 0, none⟩ : Addr).add j) = ⟨g, j, none⟩ by unfold Addr.add; split <;> simp_all]
    rw [cell_blk hcell]
    simpa using hj
  · intro y hy; simp [Up.cells] at hy; rcases hy with rfl | rfl | rfl | rfl <;> rfl
  · unfold maxLen; omega
  · omega
  · intro v' w' h1 h2 h3
    refine h v' w' ?_ h2 h3
    simpa [upCells] using h1

set_option maxHeartbeats 2000000 in
theorem new_any (w : World) (lv : Value) (L : List Int) (want every wait tries now : Int) (h : IntsAt w lv L) (hl : L.length ≤ 9) (hr : ∀ u ∈ L, 0 ≤ u ∧ u < 9) (hd : L.Nodup)
    (h1 : 1 ≤ want ∧ want ≤ 9) (h2 : 1 ≤ every ∧ every ≤ 1000) (h3 : 1 ≤ wait ∧ wait ≤ 1000) (h4 : 1 ≤ tries ∧ tries ≤ 4) (h5 : 0 ≤ now ∧ now ≤ 1099511627776) :
    Calls Try.prog 18 #[lv, .int .i64 want, .int .i64 every, .int .i64 wait, .int .i64 tries, .int .i64 now] w fun e w' =>
      ∃ v, e = .returned (.tuple #[.pointer (some ⟨w.heap.size, 0, none⟩), .int .i64 0]) ∧ PlanAt w' w.heap.size v (Plan.fresh L want every wait tries now) ∧ (∀ k, v.ownBlock = some k → w.heap.size ≤ k) ∧ Chg Nob w w' := by
  have HR := Lib.hid hr
  have HD := Lib.hid hd
  obtain ⟨a, c, rfl, hlc, h⟩ := h
  have H := Lib.hid h
  clear h hr hd
  obtain ⟨n, hn⟩ : ∃ n, n = L.length := ⟨_, rfl⟩
  have hln : (n : Int) ≤ 9 := by omega
  have HN := Lib.hid hn
  rw [← hn]
  rw [← hn] at hl hlc
  clear hn
  have d1 : decide ((9 : Int) < (n : Int)) = false := by simp; omega
  have d2 : decide (now < 0) = false := by simp; omega
  have d3 : decide (1099511627776 < now) = false := by simp; omega
  go_enter Try.func18, Try.ntmps18
  go_wp2_with (first | (go_at_call 25; refine (within_yes _ _ _ (by omega) (by omega)).mono ?_; rintro e w' ⟨rfl, rfl⟩))
  go_loopw [58] (fun i wr => ∃ (k : Nat) (v : Value), k ≤ n ∧ i = .int .i64 k ∧ wr.heap[w.heap.size]? = some (.cells ((Plan.fresh (L.take k) want every wait tries now).cells v) 58 (0, 0)) ∧
      wr.ownsRow (w.heap.size + 1) 62 4 v ((L.take k).map up0).length (upCells ((L.take k).map up0)) ∧ Chg Nob w wr) (fun i _ => n - (intOf i).toNat)
  case atStart => exact ⟨0, .slice none 0 0, Nat.zero_le _, rfl, alloc_new _ _, World.ownsRow_nil _ _ _ _, (Chg.refl _ _).alloc _⟩
  case round =>
    obtain ⟨k, v, hk, rfl, hb, hown, hC⟩ := hrel
    by_cases hlt : k < n
    · have hlL : k < L.length := by have := HN.out; omega
      have hx : L[k]? = some L[k] := List.getElem?_eq_getElem hlL
      have hu := HR.out L[k] (List.getElem_mem hlL)
      have hni : L[k] ∉ L.take k := by
        intro hm
        rw [List.mem_take_iff_getElem] at hm
        obtain ⟨j, hj, e⟩ := hm
        have hj2 : j < k := by omega
        exact (List.pairwise_iff_getElem.1 HD.out j k (by omega) hlL hj2) e
      rcases H.out with h | ⟨b, off, ha, hc⟩
      · simp [h] at hlL
      have hcell := hC.cell (hc k _ hx) (fun h => h)
      have hin : IntsAt wr (.slice a k c) (L.take k) := by
        refine ⟨a, c, by rw [List.length_take, Nat.min_eq_left (by omega)], by rw [List.length_take]; omega, .inr ⟨b, off, ha, fun i x hi => ?_⟩⟩
        rw [List.getElem?_take] at hi
        split at hi
        · exact hC.cell (hc i x hi) (fun h => h)
        · simp at hi
      have h0 : wr.cell? ⟨w.heap.size, 0, none⟩ = some v := cell_blk hb 0
      have hfr := frozen_blk hb
      have hbs := lt_of_block hb
      have hcon := contains_no wr (.slice a k c) (L.take k) L[k] hin (by rw [List.length_take]; omega) hni
      subst ha
      generalize L[k] = u at *
      have HC := Lib.hid hcon
      have HX := Lib.hid hx
      clear hcon hx hni hin hc
      have e1 : ¬ u < 0 := by omega
      have e2 : ¬ (9 : Int) ≤ u := by omega
      have hlt1 : ((L.take k).map up0).length ≤ 1000 := by rw [List.length_map, List.length_take]; omega
      have hkc : k ≤ c := by omega
      go_wp2_with (first | (go_at_call 26; refine HC.out.mono ?_; rintro e w' ⟨rfl, rfl⟩) | (at_builtin; refine app_up _ rfl _ _ rfl (w.heap.size + 1) v ((L.take k).map up0) rfl (hown.alloc _) wr.heap.size 1 (up0 u) rfl (alloc_new _ _) hlt1 (by simp; omega) ?_; intro v' w3 hown3 hgr3 hst3; obtain ⟨a3, c3, rfl, _⟩ := own_form hown3; have hC3 := ((Chg.refl (fun j => v.ownBlock = some j) wr).alloc _).grown hgr3 (fun j hj => .inl hj); have hb3 := hC3.heap hb (fun hj => by have := (hown.lt _ hj).1; omega); have hc3 := cell_blk hb3 0; have hf3 := frozen_blk hb3))
      have e : ((L.take k).map up0 ++ [up0 u]).length = min k L.length + 1 := by simp
      have e2 : (L.take (k + 1)).map up0 = (L.take k).map up0 ++ [up0 u] := by rw [take_succ_some HX.out]; simp
      have hne : (Value.slice a3 (min k L.length + 1) c3).ownBlock ≠ some w.heap.size := fun h => by
        rw [e] at hown3
        have := (hown3.lt _ h).1
        omega
      refine ⟨⟨k + 1, .slice a3 (min k L.length + 1) c3, by omega, by go_num, ?_, ?_, ?_⟩, by simp [intOf]; omega⟩
      · rw [set_blk hb3]; simp [Plan.cells, Plan.fresh]
      · rw [e2]
        rw [e] at hown3
        rw [e]
        exact ownsRow_setCell_other hown3 hne _
      · exact (hC.trans' hC3 (fun j hj => .inr (by have := (hown.lt j hj).1; omega))).setCell (.inr (Nat.le_refl _)) _
    · have hkn : k = n := by omega
      go_wp2
      go_ret2
      have e : L.take k = L := List.take_of_length_le (by have := HN.out; omega)
      rw [e] at hb hown
      refine ⟨v, rfl, ⟨hb, own_base hown (Nat.zero_le _), fun h => by have := (hown.lt _ h).1; omega⟩, fun j hj => by have := (hown.lt j hj).1; omega, hC⟩

theorem upCells_one (l : List Up) : ∀ u ∈ upCells l, u.oneCell' = true := by
  intro u hu
  simp only [upCells, List.mem_flatMap] at hu
  obtain ⟨x, _, hu⟩ := hu
  simp [Up.cells] at hu
  rcases hu with rfl | rfl | rfl | rfl <;> rfl

set_option maxHeartbeats 1000000 in
/-- slices.Clone of a plan's list. -/
theorem clone_any (w : World) (v : Value) (l : List Up) (h : w.ownsRow 0 62 4 v l.length (upCells l)) (hl : l.length ≤ 1000) :
    Calls Try.prog 24 #[v] w fun e w' => ∃ a c, e = .returned (.slice a l.length c) ∧ w'.ownsRow w.heap.size 62 4 (.slice a l.length c) l.length (upCells l) ∧ Chg Nob w w' := by
  obtain ⟨i0, hi, hz0, hz1, hz2⟩ := info_parts infoUp
  rcases h.2 with ⟨rfl, h2⟩ | ⟨g, cap, cur, rfl, _⟩
  · have : l = [] := List.eq_nil_of_length_eq_zero h2
    subst this
    have hq := Lib.run_eql_slice_nil (P := Try.prog) w 56 62 none 0 0 0 0 Try.underlying56
    go_enter Try.func24, Try.ntmps24
    go_wp2
    go_ret
    exact ⟨none, 0, rfl, World.ownsRow_nil _ _ _ _, Chg.refl _ _⟩
  · have hcl := h.cellAt
    have HCL := Lib.hid hcl
    clear hcl
    have hul := length_upCells l
    have HUL := Lib.hid hul
    clear hul
    have H := Lib.hid h
    have hq := Lib.run_eql_slice_nil (P := Try.prog) w 56 62 (some ⟨g, 0, none⟩) l.length cap 0 0 Try.underlying56
    clear h
    go_enter Try.func24, Try.ntmps24
    have hgl : g < w.heap.size := (H.out.lt g rfl).2
    have HN : Hid (∀ o, ∀ j u, (upCells l)[j]? = some u → (w.alloc o).cell? ((⟨g, 0, none⟩ : Addr).add j) = some u) := by
      intro o j u hj
      rw [show ((⟨g, 0, none⟩ : Addr).add j) = ⟨g, j, none⟩ by unfold Addr.add; split <;> simp_all]
      rw [World.cell?_alloc_past _ _ _ hgl]
      obtain ⟨hj2, _⟩ := List.getElem?_eq_some_iff.1 hj
      rw [HCL.out j (by rw [← HUL.out]; exact hj2)]
      exact hj
    have H1 : Hid (∀ u ∈ upCells l, u.oneCell' = true) := upCells_one l
    go_wp2_with (at_builtin; refine wpList_append_own2 _ rfl _ _ 56 rfl w.heap.size 62 i0 _ 4 32 Try.underlying56 hi hz0 hz1 hz2 rfl (by decide) (.slice (some ⟨w.heap.size, 0, none⟩) 0 0) 0 [] rfl (World.ownsRow_lit w #[] 0 (Nat.le_refl _) (by unfold maxLen; omega) rfl) ⟨g, 0, none⟩ l.length cap (upCells l) rfl HUL.out (HN.out _) H1.out (by unfold maxLen; omega) (by omega) (by simp) ?_; intro v' w3 hown3 hgr3 _)
    go_ret
    rw [Nat.zero_add, List.nil_append] at hown3
    obtain ⟨a3, c3, rfl, _⟩ := own_form hown3
    exact ⟨a3, c3, rfl, hown3, ((Chg.refl Nob w).alloc _).grown hgr3 (fun j hj => .inr (by simp [Value.ownBlock] at hj; omega))⟩

set_option maxHeartbeats 1000000 in
/-- Copy: another plan that says the same. -/
theorem copy_any (w : World) (b : Nat) (v : Value) (P : Plan) (hP : PlanAt w b v P) (hl : P.l.length ≤ 1000) :
    Calls Try.prog 17 #[.pointer (some ⟨b, 0, none⟩)] w fun e w' =>
      ∃ v', e = .returned (.pointer (some ⟨w.heap.size, 0, none⟩)) ∧ PlanAt w' w.heap.size v' P ∧ (∀ k, v'.ownBlock = some k → w.heap.size ≤ k) ∧ Chg Nob w w' := by
  have hb := hP.blk
  obtain ⟨a0, c0, hv, hc0⟩ := own_form hP.own
  have h0 := hP.c0
  have h1 := hP.c1
  have h2 := hP.c2
  have h3 := hP.c3
  have h4 := hP.c4
  have h5 := hP.c5
  have h6 := hP.c6
  have h7 := hP.c7
  have h8 := hP.c8
  have h9 := hP.c9
  rw [hv] at h0
  have hbl := lt_of_block hb
  have HV := Lib.hid hv
  clear hv hb
  go_enter Try.func17, Try.ntmps17
  go_wp2_with fail
  have hown1 := hP.own.alloc (.cells #[.slice a0 P.l.length c0, i64 P.next, i64 P.want, i64 P.tries, i64 P.every, i64 P.wait, i64 P.start, i64 P.now, i64 P.ks, .bool P.begun] 58)
  rw [HV.out] at hown1
  refine (clone_any _ _ P.l hown1 hl).mono ?_
  rintro e w2 ⟨a3, c3, rfl, hown2, hC2⟩
  have hb2 := hC2.heap (alloc_new w _) (fun h => h)
  have hC3 : Chg Nob w w2 := ((Chg.refl Nob w).alloc _).trans hC2
  have hc2 := cell_blk hb2 0
  have hf2 := frozen_blk hb2
  have hs2 := hC3.size
  clear h0 h1 h2 h3 h4 h5 h6 h7 h8 h9
  go_wp2_with fail
  go_ret
  simp only [World.size_alloc] at hown2
  have hne : (Value.slice a3 P.l.length c3).ownBlock ≠ some w.heap.size := fun h => by
    have := (hown2.lt _ h).1
    omega
  refine ⟨.slice a3 P.l.length c3, rfl, ⟨?_, ownsRow_setCell_other (own_base hown2 (Nat.zero_le _)) hne _, hne⟩, fun k hk => by have := (hown2.lt k hk).1; omega, hC3.setCell (.inr (Nat.le_refl _)) _⟩
  rw [set_blk hb2]
  simp [Plan.cells]
end Go.Proofs.Ytbpbhccgnfakiaa.Hg
