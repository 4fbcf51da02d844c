/- The statements' own functions over plans: told, begun, awake. -/
import Derived.Test.YtbpbhccgnfakiaaHgWalkD
import Derived.Test.YtbpbhccgnfakiaaHgWalkF
import Derived.Test.YtbpbhccgnfakiaaHgWalkH
import Derived.Deep.RegionHeld3
namespace Go.Proofs.Ytbpbhccgnfakiaa.Hg
open Go.RowKit

theorem more_len (p : Plan) : p.more.1.length ≤ 1 := by
  unfold Plan.more
  split
  · dsimp only
    split <;> simp
  · simp

theorem tick_len {p : Plan} (ok : p.Ok) (t : Int) : (p.tick t).1.length ≤ 1000 ∧ (p.tick t).2.1.length ≤ 1000 := by
  have h1 : (p.to t).l.length ≤ 9 := ok.len
  have a := (p.to t).goneTo_len (p.to t).next h1
  have b := flatMap_le (fun x : Up => x.sendOf (p.to t).now (p.to t).wait (p.to t).tries) (fun x => by unfold Up.sendOf; split <;> simp) ((p.to t).l.take (p.to t).next)
  have h3 : ((p.to t).l.take (p.to t).next).length ≤ (p.to t).l.length := by simp; omega
  have c := more_len ((p.to t).mid (p.to t).next)
  refine ⟨a, ?_⟩
  simp only [Plan.tick, List.length_append, Plan.sendTo]
  omega

theorem ints_yes (w : World) (u v : Value) (l m : List Int) (h1 : IntsAt w u l) (h2 : IntsAt w v m) (hl : l.length ≤ 1000) (he : l = m) :
    Calls Try.prog 16 #[u, v] w fun e w' => e = .returned (.bool true) ∧ ∃ n, w' = w.drewN n := by
  have h := ints_any w u v l m h1 h2 hl
  rw [decide_eq_true he] at h
  exact h

set_option maxHeartbeats 1000000 in
theorem told_yes (w : World) (b : Nat) (v : Value) (P : Plan) (t : Int) (gv sv : Value) (G S : List Int) (hP : PlanAt w b v P) (hb : P.begun = true) (ok : P.Ok)
    (hg : IntsAt w gv G) (hs : IntsAt w sv S) (hgd : ∀ k, gv.ownBlock = some k → ¬ PlanS b v k) (hsd : ∀ k, sv.ownBlock = some k → ¬ PlanS b v k) (h1 : (P.tick t).1 = G) (h2 : (P.tick t).2.1 = S) :
    Calls Try.prog 21 #[.pointer (some ⟨b, 0, none⟩), .int .i64 t, gv, sv] w fun e w' => e = .returned (.bool true) ∧ PlanAt w' b v (P.tick t).2.2 ∧ Chg (PlanS b v) w w' := by
  have ht := tick_any w b v P t hP hb ok
  have hl := tick_len ok t
  rw [h1, h2] at hl
  rw [h1, h2] at ht
  have HT := Lib.hid ht
  clear ht h1 h2
  go_enter Try.func21, Try.ntmps21
  go_wp2_with fail
  refine HT.out.mono ?_
  rintro e w1 ⟨g, s, rfl, ho1, ho2, hP1, hC1⟩
  go_wp2_with fail
  refine (ints_yes _ g gv _ _ (IntsAt.of_own ho1) (hg.chg hC1 hgd) hl.1 rfl).mono ?_
  rintro e w2 ⟨rfl, n, rfl⟩
  go_wp2_with fail
  refine (ints_yes _ s sv _ _ ((IntsAt.of_own ho2).nob ((Chg.refl Nob w1).drewN n)) ((hs.chg hC1 hsd).nob ((Chg.refl Nob w1).drewN n)) hl.2 rfl).mono ?_
  rintro e w3 ⟨rfl, m, rfl⟩
  go_wp2_with fail
  go_ret
  exact ⟨rfl, hP1.chg ((Chg.refl Nob w1).drewN _) (fun _ _ h => h), hC1.drewN _⟩

def Raw.plan (r : Raw) : Plan := Plan.fresh r.l r.want r.every r.wait r.tries r.now

theorem firsts_fresh (L : List Int) (want every wait tries now : Int) (k : Nat) : (Plan.fresh L want every wait tries now).firsts k = L.take k := by
  simp [Plan.firsts, Plan.fresh, ← List.map_take, up0, Function.comp_def]

set_option maxHeartbeats 2000000 in
theorem begun_any (w : World) (lv : Value) (r : Raw) (hl : IntsAt w lv r.l) (hlb : ∀ k, lv.ownBlock = some k → k < w.heap.size) (hr : r.Fit) :
    Calls Try.prog 7 #[.agg (r.cells lv)] w fun e w' => ∃ b v, e = .returned (.pointer (some ⟨b, 0, none⟩)) ∧ w.heap.size ≤ b ∧ PlanAt w' b v (r.plan.beg r.m) ∧ (∀ k, v.ownBlock = some k → w.heap.size ≤ k) ∧ Chg Nob w w' := by
  obtain ⟨L, want, every, wait, tries, now⟩ := r
  obtain ⟨hlen, hrng, hnd, hwant, hevery, hwait, htries, hnow⟩ := hr
  simp only at hlen hrng hnd hwant hevery hwait htries hnow hl
  obtain ⟨wn, rfl⟩ : ∃ wn : Nat, want = (wn : Int) := ⟨want.toNat, by omega⟩
  obtain ⟨m, hm⟩ : ∃ m, m = min L.length wn := ⟨_, rfl⟩
  have hmm : (Raw.mk L wn every wait tries now).m = m := by simp only [Raw.m]; omega
  rw [hmm]
  clear hmm
  obtain ⟨a, c, rfl, hlc, h⟩ := hl
  have H : Hid (∀ o, IntsAt (w.alloc o) (.slice a L.length c) L) := fun o => IntsAt.nob ⟨a, c, rfl, hlc, h⟩ ((Chg.refl Nob w).alloc o)
  obtain ⟨n, hn⟩ : ∃ n, n = L.length := ⟨_, rfl⟩
  have HNEW : Hid (∀ o, _) := fun o => new_any (w.alloc o) _ L wn every wait tries now (H.out o) hlen hrng hnd hwant ⟨hevery.1, by omega⟩ ⟨hwait.1, by omega⟩ htries ⟨hnow.1, by omega⟩
  rw [← hn] at H HNEW hlc hm hlen ⊢
  have hml : m ≤ n := by omega
  have hmw : m ≤ wn := by omega
  have HM := Lib.hid hm
  have HN := Lib.hid hn
  clear h hm hrng hnd hn
  unfold Raw.cells
  simp only
  go_enter Try.func7, Try.ntmps7
  go_wp2_with fail
  refine (HNEW.out _).mono ?_
  rintro e w1 ⟨v, rfl, hP1, hv1, hC1⟩
  have hb1 := hC1.heap (alloc_new w _) (fun h => h)
  have hC1' : Chg Nob w w1 := ((Chg.refl Nob w).alloc _).trans hC1
  have hI1 : IntsAt w1 (.slice a n c) L := (H.out _).nob hC1
  simp only [World.size_alloc] at hP1 hv1
  have c0 : w1.cell? ⟨w.heap.size, 0, none⟩ = some (.slice a n c) := cell_blk hb1 0
  have c1 : w1.cell? ⟨w.heap.size, 1, none⟩ = some (.int .i64 wn) := cell_blk hb1 1
  have hk : IntsAt w1 (.slice a m c) (L.take m) := by
    obtain ⟨a', c', e, _, h⟩ := hI1
    simp only [Value.slice.injEq] at e
    obtain ⟨rfl, _, rfl⟩ := e
    have hn := HN.out
    refine ⟨a, c, by rw [List.length_take, Nat.min_eq_left (by omega)], by rw [List.length_take]; omega, ?_⟩
    rcases h with h | ⟨b, off, rfl, h⟩
    · exact .inl (by simp [h])
    · refine .inr ⟨b, off, rfl, fun i x hi => ?_⟩
      rw [List.getElem?_take] at hi
      split at hi
      · exact h i x hi
      · simp at hi
  have hPd : PlanAt w1.drew (w.heap.size + 1) v (Plan.fresh L wn every wait tries now) := hP1.chg ((Chg.refl Nob w1).drew) (fun _ _ h => h)
  have hbeg := begin_any w1.drew _ v _ m hPd rfl rfl (by simp [Plan.fresh]; have := HN.out; omega) hevery.1 hwant (by rw [HM.out]; simp only [Plan.fresh, List.length_map]; have := HN.out; omega) (by intro x hx; simp only [Plan.fresh, List.mem_map] at hx; obtain ⟨u, _, rfl⟩ := hx; simp [up0])
  rw [firsts_fresh] at hbeg
  have HB := Lib.hid hbeg
  have HK := Lib.hid hk
  have HP := Lib.hid hP1
  clear hbeg hk hPd hI1 hP1
  go_wp2_with fail
  go_cut [37] (fun t wx => t = .bool false ∧ PlanAt wx (w.heap.size + 1) v ((Plan.fresh L wn every wait tries now).beg m) ∧ Chg Nob w wx)
  case first =>
    have hlow : ∀ k, (Value.slice a m c).ownBlock = some k → ¬ PlanS (w.heap.size + 1) v k := fun k hk h => by
      have : k < w.heap.size := by
        cases a with
        | none => simp [Value.ownBlock] at hk
        | some ad => exact hlb k hk
      rcases h with h | h
      · have : k = w.heap.size + 1 := h
        omega
      · have := hv1 k h; omega
    have hbig : ∀ j, PlanS (w.heap.size + 1) v j → w.heap.size ≤ j := fun j hj => by
      rcases hj with h | h
      · have : j = w.heap.size + 1 := h
        omega
      · have := hv1 j h; omega
    have hns : ¬ PlanS (w.heap.size + 1) v w.heap.size := (fun h => by rcases h with h | h; exact absurd (show w.heap.size = w.heap.size + 1 from h) (by omega); have := hv1 _ h; omega)
    have hmc : m ≤ c := by omega
    have hmc1 : (m : Int) ≤ (c : Int) := by omega
    have hmc2 : (0 : Int) ≤ (m : Int) := by omega
    by_cases hw : (wn : Int) < (n : Int)
    · have hmn : m = wn := by have := HM.out; omega
      subst hmn
      go_region_held3 (fun w' => w'.cell? ⟨w.heap.size, 0, none⟩ = some (.slice a n c) ∧ w'.cell? ⟨w.heap.size, 1, none⟩ = some (.int .i64 m))
        (first | go_keep | exact ⟨e0, e1⟩)
        (first | (go_at_call 19; refine HB.out.mono ?_; rintro e w2 ⟨out, rfl, hown2, hP2, hC2⟩; have e0 := hC2.cell (w := w1.drew) c0 hns; have e1 := hC2.cell (w := w1.drew) c1 hns) | (go_at_call 16; refine (ints_yes _ out _ _ _ (IntsAt.of_own hown2) ((HK.out.nob ((Chg.refl Nob w1).drew)).chg hC2 hlow) (by simp; omega) rfl).mono ?_; rintro e w3 ⟨rfl, nn, rfl⟩))
      all_goals (go_wp2_with fail)
      all_goals
        go_meet
        case rel => exact ⟨rfl, hP2.chg ((Chg.refl Nob w2).drewN _) (fun _ _ h => h), (hC1'.drew.trans' hC2 (fun j hj => .inr (hbig j hj))).drewN _⟩
    · have hmn : m = n := by have := HM.out; omega
      subst hmn
      have hw' : (m : Int) ≤ (wn : Int) := by omega
      have hw3 : ¬ wn < m := by omega
      go_region_held3 (fun w' => w'.cell? ⟨w.heap.size, 0, none⟩ = some (.slice a m c) ∧ w'.cell? ⟨w.heap.size, 1, none⟩ = some (.int .i64 wn))
        (first | go_keep | exact ⟨e0, e1⟩)
        (first | (go_at_call 19; refine HB.out.mono ?_; rintro e w2 ⟨out, rfl, hown2, hP2, hC2⟩; have e0 := hC2.cell (w := w1.drew) c0 hns; have e1 := hC2.cell (w := w1.drew) c1 hns) | (go_at_call 16; refine (ints_yes _ out _ _ _ (IntsAt.of_own hown2) ((HK.out.nob ((Chg.refl Nob w1).drew)).chg hC2 hlow) (by simp; omega) rfl).mono ?_; rintro e w3 ⟨rfl, nn, rfl⟩))
      all_goals (go_wp2_with fail)
      all_goals
        go_meet
        case rel => exact ⟨rfl, hP2.chg ((Chg.refl Nob w2).drewN _) (fun _ _ h => h), (hC1'.drew.trans' hC2 (fun j hj => .inr (hbig j hj))).drewN _⟩
  case rest =>
    obtain ⟨rfl, hPx, hCx⟩ := hcut
    go_wp2_with fail
    go_ret
    exact ⟨_, v, rfl, by omega, hPx, fun k hk => by have := hv1 k hk; omega, hCx⟩

end Go.Proofs.Ytbpbhccgnfakiaa.Hg
