/- The statements' own function fit: a plan that may be, of raw numbers. -/
import Derived.Test.YtbpbhccgnfakiaaHgWalkE
namespace Go.Proofs.Ytbpbhccgnfakiaa.Hg
open Go.RowKit

/-- A plan's numbers, as the statements hand them on. -/
structure Raw where
  l : List Int
  want : Int
  every : Int
  wait : Int
  tries : Int
  now : Int

structure Raw.Fit (r : Raw) : Prop where
  len : r.l.length ≤ 9
  rng : ∀ u ∈ r.l, 0 ≤ u ∧ u < 9
  nodup : r.l.Nodup
  want : 1 ≤ r.want ∧ r.want ≤ 9
  every : 1 ≤ r.every ∧ r.every ≤ 20
  wait : 1 ≤ r.wait ∧ r.wait ≤ 20
  tries : 1 ≤ r.tries ∧ r.tries ≤ 4
  now : 0 ≤ r.now ∧ r.now < 1000

def Raw.cells (lv : Value) (r : Raw) : Array Value := #[lv, .int .i64 r.want, .int .i64 r.every, .int .i64 r.wait, .int .i64 r.tries, .int .i64 r.now]
def Raw.m (r : Raw) : Nat := (min (r.l.length : Int) r.want).toNat


theorem rem_small (x m : Int) (h : 0 < m) (h2 : m ≤ 1000) : 0 ≤ wrap64 ((IntKind.u64.wrap x).tmod m) ∧ wrap64 ((IntKind.u64.wrap x).tmod m) < m := by
  have h0 : 0 ≤ IntKind.u64.wrap x := by simp only [IntKind.wrap_u64]; omega
  have e : (IntKind.u64.wrap x).tmod m = (IntKind.u64.wrap x) % m := Int.tmod_eq_emod_of_nonneg h0
  have h3 := Int.emod_nonneg (IntKind.u64.wrap x) (show m ≠ 0 by omega)
  have h4 := Int.emod_lt_of_pos (IntKind.u64.wrap x) h
  rw [e, IntWalk.wrap64_in _ ⟨by omega, by omega⟩]
  exact ⟨h3, h4⟩

theorem rem_small1 (x m : Int) (h : 0 < m) (h2 : m ≤ 1000) : 1 ≤ 1 + wrap64 ((IntKind.u64.wrap x).tmod m) ∧ 1 + wrap64 ((IntKind.u64.wrap x).tmod m) ≤ m := by
  have := rem_small x m h h2
  omega

theorem mem_take_succ {l : List Int} {k : Nat} {y : Int} (hy : l[k]? = some y) (u : Int) : decide (u ∈ l.take (k + 1)) = (decide (u ∈ l.take k) || (y == u)) := by
  rw [take_succ_some hy, Bool.eq_iff_iff]
  simp only [List.mem_append, List.mem_singleton, decide_eq_true_eq, Bool.or_eq_true, beq_iff_eq]
  constructor
  · rintro (h | h)
    · exact .inl h
    · exact .inr h.symm
  · rintro (h | h)
    · exact .inl h
    · exact .inr h.symm

/-- Numbers below 9 that are there once: nine at most. -/
theorem nodup_le {L : List Int} (h : L.Nodup) (hr : ∀ u ∈ L, 0 ≤ u ∧ u < 9) : L.length ≤ 9 := by
  have h1 : (L.map Int.toNat).Nodup := by
    rw [List.nodup_iff_pairwise_ne, List.pairwise_map]
    refine List.Pairwise.imp_of_mem ?_ h
    intro a b ha hb hab e
    have := hr a ha
    have := hr b hb
    exact hab (by omega)
  have h2 : (L.map Int.toNat) ⊆ List.range 9 := by
    intro x hx
    obtain ⟨u, hu, rfl⟩ := List.mem_map.1 hx
    have := hr u hu
    exact List.mem_range.2 (by omega)
  have := List.Nodup.length_le_of_subset h1 h2
  simpa using this

theorem six_set {w : World} {b : Nat} {t : TypeId} {a0 a1 a2 a3 a4 a5 : Value} (h : w.heap[b]? = some (.cells #[a0, a1, a2, a3, a4, a5] t (0, 0))) (v0 v1 v2 v3 v4 v5 : Value) :
    ((((((w.setCell ⟨b, 0, none⟩ v0).setCell ⟨b, 1, none⟩ v1).setCell ⟨b, 2, none⟩ v2).setCell ⟨b, 3, none⟩ v3).setCell ⟨b, 4, none⟩ v4).setCell ⟨b, 5, none⟩ v5).heap[b]? = some (.cells #[v0, v1, v2, v3, v4, v5] t (0, 0)) := by
  rw [set_blk (set_blk (set_blk (set_blk (set_blk (set_blk h 0 v0) 1 v1) 2 v2) 3 v3) 4 v4) 5 v5]
  rfl

theorem six_chg (w : World) (b : Nat) (v0 v1 v2 v3 v4 v5 : Value) :
    Chg (Only b) w ((((((w.setCell ⟨b, 0, none⟩ v0).setCell ⟨b, 1, none⟩ v1).setCell ⟨b, 2, none⟩ v2).setCell ⟨b, 3, none⟩ v3).setCell ⟨b, 4, none⟩ v4).setCell ⟨b, 5, none⟩ v5) :=
  ((((((Chg.refl (Only b) w).setCell (.inl (Only.self b)) _).setCell (.inl (Only.self b)) _).setCell (.inl (Only.self b)) _).setCell (.inl (Only.self b)) _).setCell (.inl (Only.self b)) _).setCell (.inl (Only.self b)) _

set_option maxHeartbeats 2000000 in
theorem fit_any (w : World) (rv : Value) (R : List Int) (x1 x2 x3 x4 x5 : Int) (h : IntsAt w rv R) (hR : R.length ≤ 9223372036854775807) :
    Calls Try.prog 6 #[.agg #[rv, .int .i64 x1, .int .i64 x2, .int .i64 x3, .int .i64 x4, .int .i64 x5]] w fun e w' => ∃ lv r, e = .returned (.agg (Raw.cells lv r)) ∧ w'.ownsRow w.heap.size 3 1 lv r.l.length (ints r.l) ∧ r.Fit ∧ Chg Nob w w' := by
  obtain ⟨a, c, rfl, hlc, h⟩ := h
  obtain ⟨n, hn⟩ : ∃ n, n = R.length := ⟨_, rfl⟩
  have H := Lib.hid h
  have hRn := hR
  rw [← hn] at hlc hRn ⊢
  have HN := Lib.hid hn
  clear h hn
  go_enter Try.func6, Try.ntmps6
  go_wp2_with fail
  go_loopw [3, 4] (fun v i wr => ∃ (k : Nat) (L : List Int), k ≤ n ∧ k ≤ 40 ∧ i = .int .i64 k ∧ wr.ownsRow (w.heap.size + 2) 3 1 v L.length (ints L) ∧ L.length ≤ k ∧ Hid (L.Nodup ∧ ∀ u ∈ L, 0 ≤ u ∧ u < 9) ∧ Chg Nob ((w.alloc (.cells #[.slice a n c, .int .i64 x1, .int .i64 x2, .int .i64 x3, .int .i64 x4, .int .i64 x5] 24)).alloc (.cells #[.slice none 0 0, .int .i64 0, .int .i64 0, .int .i64 0, .int .i64 0, .int .i64 0] 24)) wr) (fun _ i _ => 40 - (intOf i).toNat)
  case atStart => exact ⟨0, [], Nat.zero_le _, Nat.zero_le _, rfl, World.ownsRow_nil _ _ _ _, Nat.le_refl _, ⟨List.nodup_nil, by simp⟩, Chg.refl _ _⟩
  case round =>
    obtain ⟨k, L, hk, hk40, rfl, hown, hLk, hL, hC⟩ := hrel
    have hb := hC.heap (alloc_blk (alloc_new w _) _) (fun h => h)
    have c0 : wr.cell? ⟨w.heap.size, 0, none⟩ = some (.slice a n c) := cell_blk hb 0
    obtain ⟨a3, c3, hv3, hc3⟩ := own_form hown
    subst hv3
    by_cases hlt : k < n ∧ k < 40
    · obtain ⟨h1, h2⟩ := hlt
      have hx : R[k]? = some (R[k]'(by have := HN.out; omega)) := List.getElem?_eq_getElem _
      rcases H.out with h | ⟨b, off, ha, hc⟩
      · simp [h] at hx
      have hcell := ((((Chg.refl Nob w).alloc _).alloc _).trans hC).cell (hc k _ hx) (fun h => h)
      generalize R[k]'(by have := HN.out; omega) = x at *
      clear hx hc
      subst ha
      have t1 : decide ((k : Int) < 40) = true := by simp; omega
      have t2 : (k : Int) < 40 := by omega
      have hu := rem_small x 9 (by omega) (by omega)
      go_wp2_with fail
      generalize wrap64 ((IntKind.u64.wrap x).tmod 9) = u at *
      go_loop [6, 7] (fun hr i => ∃ k2 : Nat, k2 ≤ L.length ∧ i = .int .i64 k2 ∧ hr = .bool (decide (u ∈ L.take k2))) (fun _ i => L.length - (intOf i).toNat)
      case atStart => exact ⟨0, Nat.zero_le _, rfl, by simp⟩
      case round =>
        obtain ⟨k2, hk2, rfl, rfl⟩ := hrel
        by_cases hl2 : k2 < L.length
        · have hy : L[k2]? = some L[k2] := List.getElem?_eq_getElem hl2
          have hst := mem_take_succ hy u
          obtain ⟨a4, c4, e4, _, h4⟩ := IntsAt.of_own hown
          simp only [Value.slice.injEq, true_and] at e4
          obtain ⟨rfl, rfl⟩ := e4
          rcases h4 with h4 | ⟨b4, off4, rfl, h4⟩
          · simp [h4] at hl2
          have hcy := h4 _ _ hy
          generalize L[k2] = y at *
          clear hy h4
          cases hd : decide (u ∈ L.take k2)
          · by_cases hyu : y = u
            · have hq : (y == u) = true := by simpa using hyu
              rw [hd, hq] at hst
              have HS := Lib.hid hst
              subst hyu
              clear hst hd
              go_wp2_with fail
              exact ⟨⟨k2 + 1, by omega, by go_num, by rw [HS.out]; rfl⟩, by simp [intOf]; omega⟩
            · have hq : (y == u) = false := by simpa using hyu
              rw [hd, hq] at hst
              have HS := Lib.hid hst
              clear hst hd
              go_wp2_with fail
              exact ⟨⟨k2 + 1, by omega, by go_num, by rw [HS.out]; rfl⟩, by simp [intOf]; omega⟩
          · rw [hd, Bool.true_or] at hst
            have HS := Lib.hid hst
            clear hst hd
            go_wp2_with fail
            exact ⟨⟨k2 + 1, by omega, by go_num, by rw [HS.out]⟩, by simp [intOf]; omega⟩
        · have e : L.take k2 = L := List.take_of_length_le (by omega)
          rw [e]
          clear e
          cases hd : decide (u ∈ L)
          · have hLn : Hid ((L ++ [u]).Nodup ∧ ∀ v ∈ L ++ [u], 0 ≤ v ∧ v < 9) := by
              obtain ⟨p1, p2⟩ := hL.out
              refine ⟨?_, ?_⟩
              · rw [List.nodup_append]
                refine ⟨p1, by simp, ?_⟩
                intro a1 h1 b1 h2 e
                simp at h2
                subst h2; subst e
                simp [h1] at hd
              · intro v hv
                rcases List.mem_append.1 hv with h | h
                · exact p2 v h
                · simp at h; subst h; exact hu
            clear hd
            go_wp2_with (at_builtin; refine app_int _ rfl _ _ rfl (w.heap.size + 2) _ L rfl (hown.alloc _) ⟨wr.heap.size, 0, none⟩ 1 u rfl (by simp) (by omega) (by have := hC.size; simp at this; simp; omega) ?_; intro v' w3 hown3 hgr3 _)
            refine ⟨⟨k + 1, L ++ [u], by omega, by omega, by go_num, hown3, by simp; omega, hLn, (hC.alloc _).grown hgr3 (fun j hj => .inr (by have := (hown.lt j hj).1; simp; omega))⟩, by simp [intOf]; omega⟩
          · clear hd
            go_wp2_with fail
            exact ⟨⟨k + 1, L, by omega, by omega, by go_num, hown, by omega, hL, hC⟩, by simp [intOf]; omega⟩
    · have e1 : wr.cell? ⟨w.heap.size, 1, none⟩ = some (.int .i64 x1) := cell_blk hb 1
      have e2 : wr.cell? ⟨w.heap.size, 2, none⟩ = some (.int .i64 x2) := cell_blk hb 2
      have e3 : wr.cell? ⟨w.heap.size, 3, none⟩ = some (.int .i64 x3) := cell_blk hb 3
      have e4 : wr.cell? ⟨w.heap.size, 4, none⟩ = some (.int .i64 x4) := cell_blk hb 4
      have e5 : wr.cell? ⟨w.heap.size, 5, none⟩ = some (.int .i64 x5) := cell_blk hb 5
      have hb1 := hC.heap (alloc_new _ _) (fun h => h)
      simp only [World.size_alloc] at hb1
      have hf1 := frozen_blk hb1
      have f0 : wr.cell? ⟨w.heap.size + 1, 0, none⟩ = some (.slice none 0 0) := cell_blk hb1 0
      have f1 : wr.cell? ⟨w.heap.size + 1, 1, none⟩ = some (.int .i64 0) := cell_blk hb1 1
      have f2 : wr.cell? ⟨w.heap.size + 1, 2, none⟩ = some (.int .i64 0) := cell_blk hb1 2
      have f3 : wr.cell? ⟨w.heap.size + 1, 3, none⟩ = some (.int .i64 0) := cell_blk hb1 3
      have f4 : wr.cell? ⟨w.heap.size + 1, 4, none⟩ = some (.int .i64 0) := cell_blk hb1 4
      have f5 : wr.cell? ⟨w.heap.size + 1, 5, none⟩ = some (.int .i64 0) := cell_blk hb1 5
      have g1 := rem_small1 x1 9 (by omega) (by omega)
      have g2 := rem_small1 x2 20 (by omega) (by omega)
      have g3 := rem_small1 x3 20 (by omega) (by omega)
      have g4 := rem_small1 x4 4 (by omega) (by omega)
      have g5 := rem_small x5 1000 (by omega) (by omega)
      by_cases hkn : k < n
      · have hk4 : ¬ (k : Int) < 40 := by omega
        go_wp2_with fail
        have hS := six_set hb1 (.slice a3 L.length c3) (.int .i64 (1 + wrap64 ((IntKind.u64.wrap x1).tmod 9))) (.int .i64 (1 + wrap64 ((IntKind.u64.wrap x2).tmod 20))) (.int .i64 (1 + wrap64 ((IntKind.u64.wrap x3).tmod 20))) (.int .i64 (1 + wrap64 ((IntKind.u64.wrap x4).tmod 4))) (.int .i64 (wrap64 ((IntKind.u64.wrap x5).tmod 1000)))
        have hX := six_chg wr (w.heap.size + 1) (.slice a3 L.length c3) (.int .i64 (1 + wrap64 ((IntKind.u64.wrap x1).tmod 9))) (.int .i64 (1 + wrap64 ((IntKind.u64.wrap x2).tmod 20))) (.int .i64 (1 + wrap64 ((IntKind.u64.wrap x3).tmod 20))) (.int .i64 (1 + wrap64 ((IntKind.u64.wrap x4).tmod 4))) (.int .i64 (wrap64 ((IntKind.u64.wrap x5).tmod 1000)))
        generalize ((((((wr.setCell ⟨w.heap.size + 1, 0, none⟩ (.slice a3 L.length c3)).setCell ⟨w.heap.size + 1, 1, none⟩ (.int .i64 (1 + wrap64 ((IntKind.u64.wrap x1).tmod 9)))).setCell ⟨w.heap.size + 1, 2, none⟩ (.int .i64 (1 + wrap64 ((IntKind.u64.wrap x2).tmod 20)))).setCell ⟨w.heap.size + 1, 3, none⟩ (.int .i64 (1 + wrap64 ((IntKind.u64.wrap x3).tmod 20)))).setCell ⟨w.heap.size + 1, 4, none⟩ (.int .i64 (1 + wrap64 ((IntKind.u64.wrap x4).tmod 4)))).setCell ⟨w.heap.size + 1, 5, none⟩ (.int .i64 (wrap64 ((IntKind.u64.wrap x5).tmod 1000)))) = wf at *
        generalize 1 + wrap64 ((IntKind.u64.wrap x1).tmod 9) = y1 at *
        generalize 1 + wrap64 ((IntKind.u64.wrap x2).tmod 20) = y2 at *
        generalize 1 + wrap64 ((IntKind.u64.wrap x3).tmod 20) = y3 at *
        generalize 1 + wrap64 ((IntKind.u64.wrap x4).tmod 4) = y4 at *
        generalize wrap64 ((IntKind.u64.wrap x5).tmod 1000) = y5 at *
        have q0 : wf.cell? ⟨w.heap.size + 1, 0, none⟩ = some (.slice a3 L.length c3) := cell_blk hS 0
        have q1 : wf.cell? ⟨w.heap.size + 1, 1, none⟩ = some (.int .i64 y1) := cell_blk hS 1
        have q2 : wf.cell? ⟨w.heap.size + 1, 2, none⟩ = some (.int .i64 y2) := cell_blk hS 2
        have q3 : wf.cell? ⟨w.heap.size + 1, 3, none⟩ = some (.int .i64 y3) := cell_blk hS 3
        have q4 : wf.cell? ⟨w.heap.size + 1, 4, none⟩ = some (.int .i64 y4) := cell_blk hS 4
        have q5 : wf.cell? ⟨w.heap.size + 1, 5, none⟩ = some (.int .i64 y5) := cell_blk hS 5
        have hCf : Chg Nob w wf := (((Chg.refl Nob w).alloc _).alloc _ |>.trans hC).trans' hX (fun j hj => .inr (by have : j = w.heap.size + 1 := hj; omega))
        have hof := hX.own hown (fun j hj h => by have := (hown.lt j hj).1; have : j = w.heap.size + 1 := h; omega)
        refine bodyPost_ret (v := .agg (Raw.cells (.slice a3 L.length c3) ⟨L, y1, y2, y3, y4, y5⟩)) (by simp [results, Try.results6, go_sem, Raw.cells, q0, q1, q2, q3, q4, q5]) rfl ⟨_, _, rfl, own_base hof (by omega), ⟨nodup_le hL.out.1 hL.out.2, hL.out.2, hL.out.1, g1, g2, g3, g4, g5⟩, hCf⟩
      · go_wp2_with fail
        have hS := six_set hb1 (.slice a3 L.length c3) (.int .i64 (1 + wrap64 ((IntKind.u64.wrap x1).tmod 9))) (.int .i64 (1 + wrap64 ((IntKind.u64.wrap x2).tmod 20))) (.int .i64 (1 + wrap64 ((IntKind.u64.wrap x3).tmod 20))) (.int .i64 (1 + wrap64 ((IntKind.u64.wrap x4).tmod 4))) (.int .i64 (wrap64 ((IntKind.u64.wrap x5).tmod 1000)))
        have hX := six_chg wr (w.heap.size + 1) (.slice a3 L.length c3) (.int .i64 (1 + wrap64 ((IntKind.u64.wrap x1).tmod 9))) (.int .i64 (1 + wrap64 ((IntKind.u64.wrap x2).tmod 20))) (.int .i64 (1 + wrap64 ((IntKind.u64.wrap x3).tmod 20))) (.int .i64 (1 + wrap64 ((IntKind.u64.wrap x4).tmod 4))) (.int .i64 (wrap64 ((IntKind.u64.wrap x5).tmod 1000)))
        generalize ((((((wr.setCell ⟨w.heap.size + 1, 0, none⟩ (.slice a3 L.length c3)).setCell ⟨w.heap.size + 1, 1, none⟩ (.int .i64 (1 + wrap64 ((IntKind.u64.wrap x1).tmod 9)))).setCell ⟨w.heap.size + 1, 2, none⟩ (.int .i64 (1 + wrap64 ((IntKind.u64.wrap x2).tmod 20)))).setCell ⟨w.heap.size + 1, 3, none⟩ (.int .i64 (1 + wrap64 ((IntKind.u64.wrap x3).tmod 20)))).setCell ⟨w.heap.size + 1, 4, none⟩ (.int .i64 (1 + wrap64 ((IntKind.u64.wrap x4).tmod 4)))).setCell ⟨w.heap.size + 1, 5, none⟩ (.int .i64 (wrap64 ((IntKind.u64.wrap x5).tmod 1000)))) = wf at *
        generalize 1 + wrap64 ((IntKind.u64.wrap x1).tmod 9) = y1 at *
        generalize 1 + wrap64 ((IntKind.u64.wrap x2).tmod 20) = y2 at *
        generalize 1 + wrap64 ((IntKind.u64.wrap x3).tmod 20) = y3 at *
        generalize 1 + wrap64 ((IntKind.u64.wrap x4).tmod 4) = y4 at *
        generalize wrap64 ((IntKind.u64.wrap x5).tmod 1000) = y5 at *
        have q0 : wf.cell? ⟨w.heap.size + 1, 0, none⟩ = some (.slice a3 L.length c3) := cell_blk hS 0
        have q1 : wf.cell? ⟨w.heap.size + 1, 1, none⟩ = some (.int .i64 y1) := cell_blk hS 1
        have q2 : wf.cell? ⟨w.heap.size + 1, 2, none⟩ = some (.int .i64 y2) := cell_blk hS 2
        have q3 : wf.cell? ⟨w.heap.size + 1, 3, none⟩ = some (.int .i64 y3) := cell_blk hS 3
        have q4 : wf.cell? ⟨w.heap.size + 1, 4, none⟩ = some (.int .i64 y4) := cell_blk hS 4
        have q5 : wf.cell? ⟨w.heap.size + 1, 5, none⟩ = some (.int .i64 y5) := cell_blk hS 5
        have hCf : Chg Nob w wf := (((Chg.refl Nob w).alloc _).alloc _ |>.trans hC).trans' hX (fun j hj => .inr (by have : j = w.heap.size + 1 := hj; omega))
        have hof := hX.own hown (fun j hj h => by have := (hown.lt j hj).1; have : j = w.heap.size + 1 := h; omega)
        refine bodyPost_ret (v := .agg (Raw.cells (.slice a3 L.length c3) ⟨L, y1, y2, y3, y4, y5⟩)) (by simp [results, Try.results6, go_sem, Raw.cells, q0, q1, q2, q3, q4, q5]) rfl ⟨_, _, rfl, own_base hof (by omega), ⟨nodup_le hL.out.1 hL.out.2, hL.out.2, hL.out.1, g1, g2, g3, g4, g5⟩, hCf⟩
end Go.Proofs.Ytbpbhccgnfakiaa.Hg
