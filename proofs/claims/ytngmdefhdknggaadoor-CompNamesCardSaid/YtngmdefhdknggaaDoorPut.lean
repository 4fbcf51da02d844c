/- Rows of bytes; slices.Concat and package cursor's put, walked. -/
import Derived.Test.YtngmdefhdknggaaDoorCurP
import Derived.Test.YtngmdefhdknggaaDoorProg
import Derived.Lib.AppendZerosOnto
import Derived.Lib.SliceRun
import Derived.Lib.Walk
namespace Go.Proofs.YtngmdefhdknggaaDoor.Put
open Go.RowKit

def bytesV (l : List UInt8) : List Value := l.map fun x => .int .u8 (x.toNat : Int)
theorem bytesV_len (l : List UInt8) : (bytesV l).length = l.length := by simp [bytesV]
theorem bytesV_append (l m : List UInt8) : bytesV (l ++ m) = bytesV l ++ bytesV m := by simp [bytesV]
theorem bytesV_get (l : List UInt8) (i : Nat) : (bytesV l)[i]? = l[i]?.map fun x => .int .u8 (x.toNat : Int) := by simp [bytesV]

/-- A slice of bytes reads as l. -/
def BytesAt (w : World) (v : Value) (l : List UInt8) : Prop :=
  ∃ a c, v = .slice a l.length c ∧ l.length ≤ c ∧ (l = [] ∨ ∃ b off, a = some ⟨b, off, none⟩ ∧ b < w.heap.size ∧ ∀ i x, l[i]? = some x → w.cell? ⟨b, off + i, none⟩ = some (.int .u8 (x.toNat : Int)))

theorem BytesAt.nil (w : World) : BytesAt w (.slice none 0 0) [] := ⟨none, 0, rfl, Nat.le_refl _, .inl rfl⟩
theorem BytesAt.chg {S : Nat → Prop} {w w' : World} {v : Value} {l : List UInt8} (h : BytesAt w v l) (hc : Chg S w w') (hs : ∀ k, v.ownBlock = some k → ¬ S k) : BytesAt w' v l := by
  obtain ⟨a, c, rfl, hl, h⟩ := h
  refine ⟨a, c, rfl, hl, ?_⟩
  rcases h with h | ⟨b, off, rfl, hb, h⟩
  · exact .inl h
  · exact .inr ⟨b, off, rfl, Nat.lt_of_lt_of_le hb hc.size, fun i x hx => hc.cell (h i x hx) (hs b rfl)⟩
theorem BytesAt.nob {w w' : World} {v : Value} {l : List UInt8} (h : BytesAt w v l) (hc : Chg Nob w w') : BytesAt w' v l := h.chg hc (fun _ _ h => h)
theorem BytesAt.of_own {w : World} {base : Nat} {v : Value} {l : List UInt8} (h : w.ownsRow base 5 1 v l.length (bytesV l)) : BytesAt w v l := by
  rcases h.2 with ⟨rfl, h2⟩ | ⟨g, cap, cur, rfl, _, hg, hcap, _, _, htake⟩
  · have : l = [] := List.length_eq_zero_iff.1 h2
    subst this
    exact BytesAt.nil w
  · refine ⟨_, cap, rfl, hcap, .inr ⟨g, 0, rfl, lt_of_block hg, fun i x hx => ?_⟩⟩
    rw [Nat.zero_add, cell_blk hg]
    have h1 : (bytesV l)[i]? = some (.int .u8 (x.toNat : Int)) := by rw [bytesV_get, hx]; rfl
    rw [← htake, List.getElem?_take] at h1
    split at h1
    · simpa using h1
    · cases h1

theorem infoU8 : (Tryd.prog.info? 5).map (fun i => (i.zero, i.size, i.bytes)) = some (some (.int .u8 0), 1, 1) := by kernel_rfl

/-- append(v, u...), rows of bytes. -/
theorem app_bytes {ops : Array Oper} {rest : List Oper} {o : Oper} {a : Act} {Q : Exit → Act → World → Prop} (w : World) (hgd : o.guard = none) (s x : Operand)
    (ho : o.op = .call { callee := .builtin .append, args := #[s, x], argTypes := #[33, 33] })
    (base : Nat) (v : Value) (l : List UInt8) (hs : a.eval s = v) (hown : w.ownsRow base 5 1 v l.length (bytesV l))
    (y : Value) (u : List UInt8) (hx : a.eval x = y) (hy : BytesAt w y u) (hn : l.length + u.length ≤ 140737488355328) (hbase : base ≤ w.heap.size)
    (h : ∀ v' w', w'.ownsRow base 5 1 v' (l ++ u).length (bytesV (l ++ u)) → w.grownBy w' v.ownBlock → Stays w v v' → wpList Tryd.prog ops Q rest (a.put o.dst v') w') : wpList Tryd.prog ops Q (o :: rest) a w := by
  obtain ⟨i0, hi, hz0, hz1, hz2⟩ := info_parts infoU8
  obtain ⟨ad, c, rfl, _, hu⟩ := hy
  have hdone : ∀ v' w', w'.ownsRow base 5 1 v' (l.length + u.length) (bytesV l ++ bytesV u) → w.grownBy w' v.ownBlock → Stays w v v' → wpList Tryd.prog ops Q rest (a.put o.dst v') w' :=
    fun v' w' h1 h2 h3 => h v' w' (by rw [List.length_append, bytesV_append]; exact h1) h2 h3
  rcases hu with hu | ⟨b, off, rfl, _, hcell⟩
  · subst hu
    rcases ad with _ | ad
    · have hrun : (Builtin.append_ #[33, 33] o.type #[v, .slice none 0 c]).run Tryd.prog w = .ok v w := by
        rcases hown.2 with ⟨rfl, _⟩ | ⟨g, cap, cur, rfl, _, _, hnc, _⟩
        · simp [Builtin.append_, run_underlying Tryd.underlying33, sizeOf, typeInfo, hi, Builtin.lenOf, Builtin.firstCells]
        · simp [Builtin.append_, run_underlying Tryd.underlying33, sizeOf, typeInfo, hi, Builtin.lenOf, Builtin.firstCells, hnc, storeCells]
      refine Lib.wpList_append_run _ hgd _ _ _ _ ho _ _ hs hx _ _ hrun ?_
      exact hdone v w (by simpa [bytesV] using hown) (World.grownBy.refl w _) (.inl rfl)
    · exact wpList_append_own2 w hgd s x 33 ho base 5 i0 _ 1 1 Tryd.underlying33 hi hz0 hz1 hz2 rfl (by decide) v l.length (bytesV l) hs hown ad 0 c [] hx rfl (by intro j z hj; cases hj) (by intro z hz; cases hz) (by unfold maxLen; omega) (by simp only [List.length_nil] at hn; omega) hbase
        (fun v' w' h1 h2 h3 => hdone v' w' (by simpa [bytesV] using h1) h2 h3)
  · refine wpList_append_own2 w hgd s x 33 ho base 5 i0 _ 1 1 Tryd.underlying33 hi hz0 hz1 hz2 rfl (by decide) v l.length (bytesV l) hs hown ⟨b, off, none⟩ u.length c (bytesV u) hx (by simp [bytesV]) ?_ ?_ (by unfold maxLen; omega) (by omega) hbase hdone
    · intro j z hj
      rw [show ((⟨b, off, none⟩ : Addr).add j) = ⟨b, off + j, none⟩ by unfold Addr.add; split <;> simp_all]
      rw [bytesV_get] at hj
      cases hu : u[j]? with
      | none => rw [hu] at hj; cases hj
      | some x0 =>
        rw [hu] at hj
        simp at hj
        rw [← hj]
        exact hcell j x0 hu
    · intro z hz
      obtain ⟨x0, _, rfl⟩ := List.mem_map.1 hz
      rfl

set_option maxRecDepth 100000 in
set_option maxHeartbeats 2000000 in
/-- slices.Grow of nil. -/
theorem grow_any (n : Nat) (w : World) (hn : n ≤ 140737488355328) :
    Calls Tryd.prog 90 #[.slice none 0 0, .int .i64 (n : Int)] w fun e w' => ∃ v, e = .returned v ∧ w'.ownsRow w.heap.size 5 1 v ([] : List UInt8).length (bytesV []) ∧ Chg Nob w w' := by
  obtain ⟨i0, hi, hz0, hz1, hz2⟩ := info_parts infoU8
  have h1 : ¬ ((n : Int) < 0) := by omega
  have h0 : (0 : Int) ≤ (n : Int) := by omega
  have h3 : (n : Int) ≤ 140737488355328 := by omega
  by_cases hn0 : n = 0
  · subst hn0
    go_enter Tryd.func90, Tryd.ntmps90
    go_wp2
    go_ret
    exact ⟨_, rfl, World.ownsRow_nil w _ _ _, Chg.refl _ _⟩
  · have hpos : 0 < (n : Int) := by omega
    have hfit : Builtin.nextslicecap (0 + n) 0 * i0.bytes ≤ 281474976710656 := growslice_fits (by omega) (by rw [hz2]; omega)
    have hrz : ∀ ty, (Builtin.append_ #[33, 3] ty #[.slice none 0 0, .int .i64 (n : Int)]).run Tryd.prog w =
        .ok (.slice (some ⟨w.heap.size, 0, none⟩) (0 + n) (grownCap w (0 + n) 0 5)) (w.drew.alloc (.cells ((([] : List Value).toArray) ++ Builtin.zeroCells (Value.int .u8 0).cells n ++ Builtin.zeroCells (Value.int .u8 0).cells (grownCap w (0 + n) 0 5 - (0 + n))) 5)) := fun ty =>
      Lib.run_append_grow_zeros w 33 3 ty 5 i0 _ .i64 .i64 Tryd.underlying33 Tryd.underlying3 hi hz0 none 0 0 [] (run_firstCells_none w.drew i0.size 0 0 0) n (by omega) (by rw [hz1]; omega) (by omega) (by omega) (by rw [hz2]; omega) hfit
    have hG := grownCap_ge w (0 + n) 0 5
    have hGm := grownCap_le_maxLen w (0 + n) 0 5 (by unfold maxLen; omega)
    rw [Nat.zero_add] at hrz hG hGm
    generalize grownCap w n 0 5 = G at *
    unfold maxLen at hGm
    have hGi : (G : Int) ≤ 9223372036854775807 := by omega
    clear hfit hn0
    go_enter Tryd.func90, Tryd.ntmps90
    go_wp2_with (at_builtin; refine Lib.wpList_append_run _ rfl _ _ _ _ rfl _ _ rfl rfl _ _ (hrz _) ?_)
    go_ret
    refine ⟨_, rfl, ?_, ((Chg.refl Nob w).alloc _).drew⟩
    exact (World.ownsRow_made w _ G (Nat.le_refl _) (by unfold maxLen; exact hGm) (by rw [Array.size_append, size_zeroCells, size_zeroCells]; simp only [List.size_toArray, List.length_cons, List.length_nil]; omega)).drew

set_option maxRecDepth 100000 in
set_option maxHeartbeats 4000000 in
/-- slices.Concat of two. -/
theorem concat_two (g : Nat) (v1 v2 : Value) (l1 l2 : List UInt8) (w : World) (hg : w.heap[g]? = some (.cells #[v1, v2] 33 (0, 0))) (h1 : BytesAt w v1 l1) (h2 : BytesAt w v2 l2) (hn : l1.length + l2.length ≤ 140737488355328) :
    Calls Tryd.prog 76 #[.slice (some ⟨g, 0, none⟩) 2 2] w fun e w' => ∃ v, e = .returned v ∧ w'.ownsRow w.heap.size 5 1 v (l1 ++ l2).length (bytesV (l1 ++ l2)) ∧ Chg Nob w w' := by
  have hc := fun i => cell_blk hg i
  obtain ⟨n1, hn1⟩ : ∃ n, n = l1.length := ⟨_, rfl⟩
  obtain ⟨n2, hn2⟩ : ∃ n, n = l2.length := ⟨_, rfl⟩
  have H1 := Lib.hid h1
  have H2 := Lib.hid h2
  obtain ⟨a1, c1, hv1, _, _⟩ := h1
  obtain ⟨a2, c2, hv2, _, _⟩ := h2
  rw [← hn1] at hv1
  rw [← hn2] at hv2
  rw [← hn1, ← hn2] at hn
  have HV1 := Lib.hid hv1
  have HV2 := Lib.hid hv2
  subst hv1
  subst hv2
  have HN1 := Lib.hid hn1
  have HN2 := Lib.hid hn2
  have HG := Lib.hid hg
  have k1 : (0 : Int) ≤ (n1 : Int) := by omega
  have k2 : (0 : Int) ≤ (n2 : Int) := by omega
  have k3 : (n1 : Int) + (n2 : Int) ≤ 140737488355328 := by omega
  have k4 : ¬ (n1 : Int) < 0 := by omega
  have k5 : ¬ (n1 : Int) + (n2 : Int) < 0 := by omega
  clear hn1 hn2 hg
  go_enter Tryd.func76, Tryd.ntmps76
  go_wp2_with fail
  refine wp_loop_rounds 3 ?_
  rw [rounds_succ]
  go_wp2_with fail
  rw [rounds_succ]
  go_wp2_with fail
  rw [rounds_succ]
  go_wp2_with fail
  have hgr := grow_any (n1 + n2) w (by omega)
  rw [Int.natCast_add] at hgr
  refine hgr.mono ?_
  rintro e w1 ⟨v, rfl, hown, hC⟩
  have hl1 : ([] : List UInt8).length + l1.length ≤ 140737488355328 := by
    have := HN1.out
    have := HN2.out
    simp only [List.length_nil]
    omega
  have hl2 : ([] ++ l1 : List UInt8).length + l2.length ≤ 140737488355328 := by
    have := HN1.out
    have := HN2.out
    simp only [List.nil_append]
    omega
  have HL1 := Lib.hid hl1
  have HL2 := Lib.hid hl2
  have hc1 := fun i => cell_blk (hC.heap HG.out (fun h => h)) i
  clear hc hgr hl1 hl2
  go_wp2_with fail
  refine wp_loop_rounds 3 ?_
  rw [rounds_succ]
  go_wp2_with (at_builtin; refine app_bytes _ rfl _ _ rfl w.heap.size v [] rfl hown _ l1 rfl (H1.out.nob hC) HL1.out hC.size ?_; intro v' w2 hown2 hgr2 hst2; have hC2 : Chg Nob w w2 := hC.grown hgr2 (fun k hk => .inr (hown.lt k hk).1); have hc2 := fun i => cell_blk (hC2.heap HG.out (fun h => h)) i; clear hc1 hgr2 hst2)
  rw [rounds_succ]
  go_wp2_with (at_builtin; refine app_bytes _ rfl _ _ rfl w.heap.size v' ([] ++ l1) rfl hown2 _ l2 rfl (H2.out.nob hC2) HL2.out hC2.size ?_; intro v3 w3 hown3 hgr3 hst3; have hC3 : Chg Nob w w3 := hC2.grown hgr3 (fun k hk => .inr (hown2.lt k hk).1); clear hc2 hgr3 hst3)
  rw [rounds_succ]
  go_wp2_with fail
  go_ret
  rw [List.nil_append] at hown3
  exact ⟨_, rfl, hown3, hC3⟩
end Go.Proofs.YtngmdefhdknggaaDoor.Put
