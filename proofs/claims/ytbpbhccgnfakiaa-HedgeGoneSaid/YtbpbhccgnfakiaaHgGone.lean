/- HedgeGone, walked. -/
import Derived.Test.YtbpbhccgnfakiaaHgGoneQ
import Derived.Test.YtbpbhccgnfakiaaHgAwake
import Derived.Deep.RegionHeld3
import Derived.Deep.RegionWith
import Derived.Deep.CutBlock
namespace Go.Proofs.Ytbpbhccgnfakiaa.Hg
open Go.RowKit

theorem arr_set {w : World} {b : Nat} {F : List Int} {t : TypeId} {fz : Nat × Nat} (h : w.heap[b]? = some (.cells (ints F).toArray t fz)) (i : Nat) (x : Int) :
    (w.setCell ⟨b, i, none⟩ (.int .i64 x)).heap[b]? = some (.cells (ints (F.set i x)).toArray t fz) := by
  rw [set_blk h i (.int .i64 x)]
  simp [ints, List.map_set]

/-- What the walk's blocks are, and that they lie apart. b, v: the plan; bx: the box of its numbers; lst: its list; b5, b6: the two rows. -/
structure Lay (W : World) (b : Nat) (v : Value) (bx b5 b6 : Nat) (lst : Value) : Prop where
  p : ¬ PlanS b v bx ∧ ¬ PlanS b v b5 ∧ ¬ PlanS b v b6
  ne : b5 ≠ b6 ∧ b5 ≠ bx ∧ b6 ≠ bx
  l : ∀ k, lst.ownBlock = some k → ¬ PlanS b v k ∧ k ≠ b5 ∧ k ≠ b6
  new : W.heap.size ≤ b5 ∧ W.heap.size ≤ b6 ∧ ∀ j, PlanS b v j → W.heap.size ≤ j

structure Held (W : World) (b : Nat) (v : Value) (bx b5 b6 : Nat) (lst : Value) (r : Raw) (P : Plan) (F G : List Int) (w : World) : Prop where
  plan : PlanAt w b v P
  box : w.heap[bx]? = some (.cells (r.cells lst) 24 (0, 0))
  list : IntsAt w lst r.l
  f : w.heap[b5]? = some (.cells (ints F).toArray 29 (0, 0))
  g : w.heap[b6]? = some (.cells (ints G).toArray 29 (0, 0))
  chg : Chg Nob W w

theorem Held.tick {W : World} {b : Nat} {v : Value} {bx b5 b6 : Nat} {lst : Value} {r : Raw} {P P' : Plan} {F G : List Int} {w w' : World} (h : Held W b v bx b5 b6 lst r P F G w) (lay : Lay W b v bx b5 b6 lst)
    (hp : PlanAt w' b v P') (hc : Chg (PlanS b v) w w') : Held W b v bx b5 b6 lst r P' F G w' :=
  ⟨hp, hc.heap h.box lay.p.1, h.list.chg hc (fun k hk => (lay.l k hk).1), hc.heap h.f lay.p.2.1, hc.heap h.g lay.p.2.2, h.chg.trans' hc (fun j hj => .inr (lay.new.2.2 j hj))⟩

theorem Held.nob {W : World} {b : Nat} {v : Value} {bx b5 b6 : Nat} {lst : Value} {r : Raw} {P : Plan} {F G : List Int} {w w' : World} (h : Held W b v bx b5 b6 lst r P F G w)
    (hc : Chg Nob w w') : Held W b v bx b5 b6 lst r P F G w' :=
  ⟨h.plan.chg hc (fun _ _ h => h), hc.heap h.box (fun h => h), h.list.nob hc, hc.heap h.f (fun h => h), hc.heap h.g (fun h => h), h.chg.trans hc⟩

theorem Held.setF {W : World} {b : Nat} {v : Value} {bx b5 b6 : Nat} {lst : Value} {r : Raw} {P : Plan} {F G : List Int} {w : World} (h : Held W b v bx b5 b6 lst r P F G w) (lay : Lay W b v bx b5 b6 lst) (i : Nat) (x : Int) :
    Held W b v bx b5 b6 lst r P (F.set i x) G (w.setCell ⟨b5, i, none⟩ (.int .i64 x)) := by
  have hc : Chg (Only b5) w (w.setCell ⟨b5, i, none⟩ (.int .i64 x)) := Chg.setCell (p := ⟨b5, i, none⟩) (Chg.refl (Only b5) w) (.inl (Only.self b5)) _
  exact ⟨h.plan.chg hc (fun j hj e => lay.p.2.1 (by rw [show b5 = j from (show j = b5 from e).symm]; exact hj)), hc.heap h.box (fun e => lay.ne.2.1 (show bx = b5 from e).symm), h.list.chg hc (fun k hk e => (lay.l k hk).2.1 e), arr_set h.f i x, hc.heap h.g (fun e => lay.ne.1 (show b6 = b5 from e).symm), h.chg.setCell (.inr lay.new.1) _⟩

theorem Held.setG {W : World} {b : Nat} {v : Value} {bx b5 b6 : Nat} {lst : Value} {r : Raw} {P : Plan} {F G : List Int} {w : World} (h : Held W b v bx b5 b6 lst r P F G w) (lay : Lay W b v bx b5 b6 lst) (i : Nat) (x : Int) :
    Held W b v bx b5 b6 lst r P F (G.set i x) (w.setCell ⟨b6, i, none⟩ (.int .i64 x)) := by
  have hc : Chg (Only b6) w (w.setCell ⟨b6, i, none⟩ (.int .i64 x)) := Chg.setCell (p := ⟨b6, i, none⟩) (Chg.refl (Only b6) w) (.inl (Only.self b6)) _
  exact ⟨h.plan.chg hc (fun j hj e => lay.p.2.2 (by rw [show b6 = j from (show j = b6 from e).symm]; exact hj)), hc.heap h.box (fun e => lay.ne.2.2 (show bx = b6 from e).symm), h.list.chg hc (fun k hk e => (lay.l k hk).2.2 e), hc.heap h.f (fun e => lay.ne.1 (show b5 = b6 from e)), arr_set h.g i x, h.chg.setCell (.inr lay.new.2.1) _⟩

theorem arr_cell {w : World} {b : Nat} {F : List Int} {t : TypeId} {fz : Nat × Nat} (h : w.heap[b]? = some (.cells (ints F).toArray t fz)) (hl : F.length = 9) (i : Nat) (hi : i < 9) :
    w.cell? ⟨b, i, none⟩ = some (.int .i64 (F.getD i 0)) := by
  rw [cell_blk h]
  simp [ints, List.getD, hl, hi]

theorem all_neg {F : List Int} (hl : F.length = 9) (h : ∀ j, j < 9 → F[j]? = some (-1)) : F = List.replicate 9 (-1) := by
  apply List.ext_getElem?
  intro i
  by_cases hi : i < 9
  · rw [h i hi, List.getElem?_replicate, if_pos hi]
  · rw [List.getElem?_eq_none (by omega), List.getElem?_eq_none (by rw [List.length_replicate]; omega)]

theorem set_neg {F : List Int} {k : Nat} (hl : F.length = 9) (hk : k < 9) (h : ∀ j, j < k → F[j]? = some (-1)) : ∀ j, j < k + 1 → (F.set k (-1))[j]? = some (-1) := by
  intro j hj
  by_cases e : j = k
  · subst e
    rw [List.getElem?_set_self (by omega)]
  · rw [List.getElem?_set_ne (by omega)]
    exact h j (by omega)

theorem IntsAt.get {w : World} {pa : Option Addr} {n pc : Nat} {l : List Int} (h : IntsAt w (.slice pa n pc) l) {i : Nat} {x : Int} (hx : l[i]? = some x) : ∃ b off, pa = some ⟨b, off, Option.none⟩ ∧ w.cell? ⟨b, off + i, Option.none⟩ = some (.int .i64 x) ∧ n = l.length := by
  obtain ⟨a, c, e, _, h⟩ := h
  injection e with e1 e2 e3
  subst e1
  rcases h with h | ⟨b, off, rfl, h⟩
  · simp [h] at hx
  · exact ⟨b, off, rfl, h i x hx, e2⟩

set_option maxRecDepth 100000 in
set_option maxHeartbeats 4000000 in
theorem gone_any (W : World) (rv : Value) (R : List Int) (x1 x2 x3 x4 x5 : Int) (hR : IntsAt W rv R) (hRl : R.length ≤ 9223372036854775807) :
    Calls Try.prog 3 #[.agg #[rv, .int .i64 x1, .int .i64 x2, .int .i64 x3, .int .i64 x4, .int .i64 x5]] W fun e w' => e = .returned (.bool true) ∧ Chg Nob W w' := by
  have HF := Lib.hid (fun o => fit_any (W.alloc o) rv R x1 x2 x3 x4 x5 (hR.nob ((Chg.refl Nob W).alloc o)) hRl)
  go_enter Try.func3, Try.ntmps3
  go_wp2_with fail
  refine (HF.out _).mono ?_
  rintro e w1 ⟨pv, r, rfl, hown1, hr, hC1⟩
  obtain ⟨pa, pc, hpv, _⟩ := own_form hown1
  subst hpv
  unfold Raw.cells
  go_wp2_with fail
  have hI1 := IntsAt.of_own hown1
  have hlb1 : ∀ k, (Value.slice pa r.l.length pc).ownBlock = some k → k < w1.heap.size := fun k hk => (hown1.lt k hk).2
  refine (begun_any _ (.slice pa r.l.length pc) r (hI1.nob ((Chg.refl Nob w1).alloc _)) (fun k hk => Nat.lt_of_lt_of_le (hlb1 k hk) (((Chg.refl Nob w1).alloc _).size)) hr).mono ?_
  rintro e w2 ⟨b, v, rfl, hgb, hP2, hv2, hC2⟩
  go_wp2_with fail
  refine (awake_any _).mono ?_
  rintro e w3 ⟨rfl, hC3⟩
  go_wp2_with fail
  have hCW : Chg Nob W w1 := ((Chg.refl Nob W).alloc _).trans hC1
  have hC13 : Chg Nob w1 w3 := (((Chg.refl Nob w1).alloc _).trans hC2).trans hC3
  have hbx : w3.heap[w1.heap.size]? = some (.cells (r.cells (.slice pa r.l.length pc)) 24 (0, 0)) := (hC2.trans hC3).heap (alloc_new w1 _) (fun h => h)
  have hP3 := hP2.chg hC3 (fun _ _ h => h)
  have hnn : ∀ {k}, w3.heap.size ≤ k → ¬ PlanS b v k := fun h => hP3.notNew h
  have hlo : ∀ j, PlanS b v j → w1.heap.size + 1 ≤ j := fun j hj => by
    rcases hj with h | h
    · have e : j = b := h
      rw [World.size_alloc] at hgb
      omega
    · have := hv2 j h; rw [World.size_alloc] at this; exact this
  have s1 := hCW.size
  have s3 := hC13.size
  have lay : Lay W b v w1.heap.size w3.heap.size (w3.heap.size + 1) (.slice pa r.l.length pc) :=
    ⟨⟨fun h => by have := hlo _ h; omega, hnn (Nat.le_refl _), hnn (by omega)⟩, ⟨by omega, by have := (lt_of_block hbx); omega, by have := (lt_of_block hbx); omega⟩,
      fun k hk => ⟨fun h => by have := hlo _ h; have := hlb1 k hk; omega, by have := hlb1 k hk; omega, by have := hlb1 k hk; omega⟩, ⟨by omega, by omega, fun j hj => by have := hlo _ hj; omega⟩⟩
  have hH : Held W b v w1.heap.size w3.heap.size (w3.heap.size + 1) (.slice pa r.l.length pc) r (r.plan.beg r.m) (List.replicate 9 0) (List.replicate 9 0) ((w3.alloc (.cells (ints (List.replicate 9 0)).toArray 29)).alloc (.cells (ints (List.replicate 9 0)).toArray 29)) := by
    refine ⟨hP3.chg (((Chg.refl Nob _).alloc _).alloc _) (fun _ _ h => h), alloc_blk (alloc_blk hbx _) _, hI1.nob ((hC13.alloc _).alloc _), alloc_blk (alloc_new _ _) _, ?_, (((hCW.trans hC13).alloc _).alloc _)⟩
    have := alloc_new (w3.alloc (.cells (ints (List.replicate 9 0)).toArray 29)) (.cells (ints (List.replicate 9 0)).toArray 29)
    rw [World.size_alloc] at this
    exact this
  clear hC2 hC3 hgb hP2 hv2 hP3 hnn hlo s1 s3 hbx hC13 hI1 hown1 hC1 hCW hlb1 HF
  go_loopw [7] (fun i wr => ∃ (k : Nat) (F G : List Int), k ≤ 9 ∧ i = .int .i64 k ∧ Held W b v w1.heap.size w3.heap.size (w3.heap.size + 1) (.slice pa r.l.length pc) r (r.plan.beg r.m) F G wr ∧ F.length = 9 ∧ G.length = 9 ∧ Hid (∀ j, j < k → F[j]? = some (-1)) ∧ Hid (∀ j, j < k → G[j]? = some (-1))) (fun i _ => 9 - (intOf i).toNat)
  case atStart => exact ⟨0, _, _, by omega, rfl, hH, rfl, rfl, Lib.hid (fun j hj => by omega), Lib.hid (fun j hj => by omega)⟩
  case round =>
    obtain ⟨k, F, G, hk, rfl, hH, lF, lG, hF, hG⟩ := hrel
    by_cases hlt : k < 9
    · have hlt1 : (k : Int) < 9 := by omega
      have hlt0 : (0 : Int) ≤ (k : Int) := by omega
      have hHF := hH.setF lay k (-1)
      have hHG := hHF.setG lay k (-1)
      have c5 := arr_cell hH.f lF k hlt
      have z5 := frozen_blk hH.f k
      have c6 := arr_cell hHF.g lG k hlt
      have z6 := frozen_blk hHF.g k
      go_wp2_with fail
      exact ⟨⟨k + 1, _, _, by omega, rfl, hHG, by simpa using lF, by simpa using lG, Lib.hid (set_neg lF hlt hF.out), Lib.hid (set_neg lG hlt hG.out)⟩, by simp [intOf]; omega⟩
    · have hlt1 : ¬ (k : Int) < 9 := by omega
      obtain rfl := all_neg lF (fun j hj => hF.out j (by omega))
      obtain rfl := all_neg lG (fun j hj => hG.out j (by omega))
      have hm : (r.m : Int) = min (r.l.length : Int) r.want := by have := hr.want; unfold Raw.m; omega
      obtain ⟨m, hmm⟩ : ∃ m, m = r.m := ⟨_, rfl⟩
      rw [← hmm] at hm
      have HR := Lib.hid hr.rng
      go_upto_block 2 with fail
      go_cut [] (fun wx => Held W b v w1.heap.size w3.heap.size (w3.heap.size + 1) (.slice pa r.l.length pc) r (r.plan.beg r.m) ((r.l.take r.m).foldl (setG r.now) (List.replicate 9 (-1))) (List.replicate 9 (-1)) wx)
      case rest =>
        clear hH hF hG lF lG hlt hlt1 hk
        have hrows := Lib.hid (rows_zero hr)
        have hgo := Lib.hid (going_zero hr)
        have hPok : (r.plan.beg r.m).Ok := Plan.fresh_beg_ok hr.len hr.want ⟨hr.every.1, by have := hr.every.2; omega⟩ ⟨hr.wait.1, by have := hr.wait.2; omega⟩ hr.tries ⟨hr.now.1, by have := hr.now.2; omega⟩ (by omega)
        have hbeg : Hid ((r.plan.beg r.m).begun = true) := Lib.hid rfl
        obtain ⟨hn0, hn1⟩ := hr.now
        have hrv := Lib.hid hr
        go_wp2_with fail
        go_loopw [9] (fun i wx => ∃ (d : Nat) (P : Plan) (F G : List Int), d ≤ 265 ∧ i = .int .i64 ((d : Int) + 1) ∧ Held W b v w1.heap.size w3.heap.size (w3.heap.size + 1) (.slice pa r.l.length pc) r P F G wx ∧ P.Ok ∧ Hid (P.begun = true) ∧ Hid (Going r.l r.want r.every r.wait r.tries r.now d P) ∧ Hid (Rows2 r.l r.want r.every r.wait r.tries r.now d F G)) (fun i _ => 300 - (intOf i).toNat)
        case atStart => exact ⟨0, _, _, _, by omega, rfl, hcut, hPok, hbeg, hgo, hrows⟩
        case round =>
          clear hcut hPok hbeg hgo hrows
          obtain ⟨d, P, F, G, hd, rfl, hH, ok, hbeg, hgo, hrows⟩ := hrel
          have hb0 := cell_blk hH.box 0
          have hb1 := cell_blk hH.box 1
          have hb2 := cell_blk hH.box 2
          have hb3 := cell_blk hH.box 3
          have hb4 := cell_blk hH.box 4
          have hb5 := cell_blk hH.box 5
          simp only [Raw.cells] at hb0 hb1 hb2 hb3 hb4 hb5
          have hd0 : (0 : Int) ≤ (d : Int) := by omega
          by_cases hlt : d < 265
          · have hlt1 : (d : Int) < 265 := by omega
            go_wp2_with fail
            have hfit := hrv.out
            have hst := hgo.out.step hfit.nodup hfit.want.1 hfit.every.1 hfit.wait.1 hfit.tries.1 (by omega)
            have hf5 := lt_of_block hH.f
            have hf6 := lt_of_block hH.g
            have hlen := tick_len ok (r.now + ((d : Int) + 1))
            refine (tick_any _ b v P (r.now + ((d : Int) + 1)) hH.plan hbeg.out ok).mono ?_
            rintro e w5 ⟨g, s, rfl, hog, hos, hPT, hCT⟩
            have hH2 := hH.tick lay hPT hCT
            have hgl : ∀ k, g.ownBlock = some k → k ≠ w3.heap.size ∧ k ≠ w3.heap.size + 1 := fun k hk => by have := (hog.lt k hk).1; omega
            have hsl : ∀ k, s.ownBlock = some k → k ≠ w3.heap.size ∧ k ≠ w3.heap.size + 1 := fun k hk => by have := (hos.lt k hk).1; omega
            have hig := IntsAt.of_own hog
            have his := IntsAt.of_own hos
            obtain ⟨ga, gc, hge, _⟩ := own_form hog
            obtain ⟨sa, sc, hse, _⟩ := own_form hos
            have hok2 := Plan.tick_ok ok (r.now + ((d : Int) + 1))
            have hbeg2 : Hid ((P.tick (r.now + ((d : Int) + 1))).2.2.begun = true) := Lib.hid ((Plan.tick_begun P _).trans hbeg.out)
            clear hog hos hPT hCT hb0 hb1 hb2 hb3 hb4 hb5 hH hgo hbeg ok
            obtain ⟨hst1, hst2, hst3, hst4, hst5⟩ := hst
            have hro := hrows.out
            have HS9 : Hid (∀ u ∈ (P.tick (r.now + ((d : Int) + 1))).2.1, 0 ≤ u ∧ u < 9) := Lib.hid (fun u hu => by obtain ⟨i, hi, _⟩ := hst2 u hu; exact HR.out u (List.mem_of_getElem? hi))
            have HO9 : Hid (∀ {k : Nat} {u : Int}, (P.tick (r.now + ((d : Int) + 1))).1[k]? = some u → 0 ≤ u ∧ u < 9 ∧ (((P.tick (r.now + ((d : Int) + 1))).1.take k).foldl (setG (r.now + ((d : Int) + 1))) G).getD u.toNat 0 < 0) := Lib.hid (fun hk => hro.notYet HR.out hst4 hst5 hk)
            have hrows2 := Lib.hid (hro.step hfit.nodup HR.out hfit.every.1 hn0 hst2 hst3 hst4)
            have hgo2 := Lib.hid hst1
            have lF := hro.lenF
            have lG := hro.lenG
            clear hst1 hst2 hst3 hst4 hst5 hrows hro hfit hr
            generalize (P.tick (r.now + ((d : Int) + 1))).1 = O at *
            generalize (P.tick (r.now + ((d : Int) + 1))).2.1 = S at *
            generalize (P.tick (r.now + ((d : Int) + 1))).2.2 = P' at *
            obtain ⟨hol, hsl2⟩ := hlen
            subst hge
            subst hse
            obtain ⟨n, hn⟩ : ∃ n, n = S.length := ⟨_, rfl⟩
            obtain ⟨q, hq⟩ : ∃ q, q = O.length := ⟨_, rfl⟩
            rw [← hn] at hsl his hsl2
            rw [← hq] at hgl hig hol
            have HN := Lib.hid hn
            have HQ := Lib.hid hq
            have hb5 := cell_blk hH2.box 5
            simp only [Raw.cells] at hb5
            rw [← hn, ← hq]
            clear hn hq
            go_wp2_with fail
            go_loopw [12] (fun i wx => ∃ (k : Nat) (F' : List Int), k ≤ n ∧ i = .int .i64 k ∧ Held W b v w1.heap.size w3.heap.size (w3.heap.size + 1) (.slice pa r.l.length pc) r P' F' G wx ∧ F'.length = 9 ∧ Hid (F' = (S.take k).foldl (setF (r.now + ((d : Int) + 1))) F) ∧ IntsAt wx (.slice sa n sc) S ∧ IntsAt wx (.slice ga q gc) O) (fun i _ => 1001 - (intOf i).toNat)
            case atStart => exact ⟨0, F, by omega, rfl, hH2, lF, Lib.hid rfl, his, hig⟩
            case round =>
              clear hH2 his hig hb5
              obtain ⟨k, F', hk, rfl, hH, lF', hF', his, hig⟩ := hrel
              rename_i wx
              by_cases hkn : k < n
              · have hx : S[k]? = some (S[k]'(by have := HN.out; omega)) := List.getElem?_eq_getElem _
                obtain ⟨hu0, hu9⟩ := HS9.out (S[k]'(by have := HN.out; omega)) (List.getElem_mem _)
                obtain ⟨lb, lo, rfl, hc, hnn⟩ := his.get hx
                clear hnn
                generalize hue : S[k]'(by have := HN.out; omega) = u at *
                have hb5 := cell_blk hH.box 5
                simp only [Raw.cells] at hb5
                have cF := arr_cell hH.f lF' u.toNat (by omega)
                have zF := frozen_blk hH.f u.toNat
                have hkn1 : (k : Int) < (n : Int) := by omega
                have hn1000 : (n : Int) ≤ 1000 := by omega
                have hk0 : (0 : Int) ≤ (k : Int) := by omega
                have hu0' : ¬ u < 0 := by omega
                have hu9' : ¬ 9 ≤ u := by omega
                have hHF := hH.setF lay u.toNat (r.now + ((d : Int) + 1))
                have hsl3 := hsl _ rfl
                obtain ⟨y, hy⟩ : ∃ y, y = F'.getD u.toNat 0 := ⟨_, rfl⟩
                rw [← hy] at cF
                have HY := Lib.hid hy
                clear hy
                by_cases hneg : y < 0
                · go_wp2_with fail
                  go_region
                  go_wp2_with fail
                  refine ⟨⟨k + 1, _, by omega, rfl, hHF.nob ((Chg.refl Nob _).drew), by simpa using lF', Lib.hid ?_, ?_, ?_⟩, by simp [intOf]; omega⟩
                  · rw [take_succ_some hx, List.foldl_append, ← hF'.out, List.foldl_cons, List.foldl_nil, setF, ← HY.out, if_pos hneg]
                  · exact (his.chg (Chg.setCell (p := ⟨w3.heap.size, u.toNat, none⟩) (Chg.refl (Only w3.heap.size) _) (.inl (Only.self _)) _) (fun j hj e => (hsl j hj).1 e)).nob ((Chg.refl Nob _).drew)
                  · exact (hig.chg (Chg.setCell (p := ⟨w3.heap.size, u.toNat, none⟩) (Chg.refl (Only w3.heap.size) _) (.inl (Only.self _)) _) (fun j hj e => (hgl j hj).1 e)).nob ((Chg.refl Nob _).drew)
                · have hneg' : (0 : Int) ≤ y := by omega
                  go_wp2_with fail
                  refine ⟨⟨k + 1, F', by omega, rfl, hH, lF', Lib.hid ?_, his, hig⟩, by simp [intOf]; omega⟩
                  rw [take_succ_some hx, List.foldl_append, ← hF'.out, List.foldl_cons, List.foldl_nil, setF, ← HY.out, if_neg hneg]
              · have hkn1 : ¬ (k : Int) < (n : Int) := by omega
                have hFS : Hid (F' = S.foldl (setF (r.now + ((d : Int) + 1))) F) := Lib.hid (by
                  have := hF'.out
                  rwa [List.take_of_length_le (by have := HN.out; omega)] at this)
                go_wp2_with fail
                go_loopw [13] (fun i wx => ∃ (k : Nat) (G' : List Int), k ≤ q ∧ i = .int .i64 k ∧ Held W b v w1.heap.size w3.heap.size (w3.heap.size + 1) (.slice pa r.l.length pc) r P' F' G' wx ∧ G'.length = 9 ∧ Hid (G' = (O.take k).foldl (setG (r.now + ((d : Int) + 1))) G) ∧ IntsAt wx (.slice ga q gc) O) (fun i _ => 1001 - (intOf i).toNat)
                case atStart => exact ⟨0, G, by omega, rfl, hH, lG, Lib.hid rfl, hig⟩
                case round =>
                  clear hH his hig
                  obtain ⟨k, G', hk, rfl, hH, lG', hG', hig⟩ := hrel
                  by_cases hkq : k < q
                  · have hx : O[k]? = some (O[k]'(by have := HQ.out; omega)) := List.getElem?_eq_getElem _
                    obtain ⟨lb, lo, rfl, hc, hnn⟩ := hig.get hx
                    clear hnn
                    obtain ⟨hu0, hu9, hneg⟩ := HO9.out hx
                    generalize hue : O[k]'(by have := HQ.out; omega) = u at *
                    rw [← hG'.out] at hneg
                    have hb5 := cell_blk hH.box 5
                    simp only [Raw.cells] at hb5
                    have cG := arr_cell hH.g lG' u.toNat (by omega)
                    have zG := frozen_blk hH.g u.toNat
                    have hkq1 : (k : Int) < (q : Int) := by omega
                    have hq1000 : (q : Int) ≤ 1000 := by omega
                    have hk0 : (0 : Int) ≤ (k : Int) := by omega
                    have hu0' : ¬ u < 0 := by omega
                    have hu9' : ¬ 9 ≤ u := by omega
                    have hHG := hH.setG lay u.toNat (r.now + ((d : Int) + 1))
                    generalize G'.getD u.toNat 0 = y at *
                    have hneg' : ¬ (0 : Int) ≤ y := by omega
                    have hb1 : decide (u < 0) = false := by simp; omega
                    have hb2 : decide (9 ≤ u) = false := by simp; omega
                    have hb3 : decide (0 ≤ y) = false := by simp; omega
                    go_wp2_with fail
                    go_region
                    go_wp2_with fail
                    refine ⟨⟨k + 1, _, by omega, rfl, hHG.nob ((Chg.refl Nob _).drew), by simpa using lG', Lib.hid ?_, ?_⟩, by simp [intOf]; omega⟩
                    · rw [take_succ_some hx, List.foldl_append, ← hG'.out, List.foldl_cons, List.foldl_nil, setG]
                    · exact (hig.chg (Chg.setCell (p := ⟨w3.heap.size + 1, u.toNat, none⟩) (Chg.refl (Only (w3.heap.size + 1)) _) (.inl (Only.self _)) _) (fun j hj e => (hgl j hj).2 e)).nob ((Chg.refl Nob _).drew)
                  · have hkq1 : ¬ (k : Int) < (q : Int) := by omega
                    have hGO : Hid (G' = O.foldl (setG (r.now + ((d : Int) + 1))) G) := Lib.hid (by
                      have := hG'.out
                      rwa [List.take_of_length_le (by have := HQ.out; omega)] at this)
                    rw [← hFS.out, ← hGO.out] at hrows2
                    go_wp2_with fail
                    exact ⟨⟨d + 1, P', F', G', by omega, by simp, hH, hok2, hbeg2, hgo2, hrows2⟩, by simp [intOf]; omega⟩
          · have hlt1 : ¬ (d : Int) < 265 := by omega
            have hlast := Going.last hrv.out (P := P) (F := F) (G := G) (by have e : d = 265 := by omega
                                                                            rw [← e]; exact hgo.out) (by have e : d = 265 := by omega
                                                                                                         rw [← e]; exact hrows.out)
            obtain ⟨ho0, hnx, hget⟩ := hlast
            have HGET := Lib.hid hget
            have HNX := Lib.hid hnx
            have lF := hrows.out.lenF
            have lG := hrows.out.lenG
            have hle := hrv.out.len
            obtain ⟨hw0, hw1⟩ := hrv.out.want
            obtain ⟨he0, he1⟩ := hrv.out.every
            obtain ⟨hwt0, hwt1⟩ := hrv.out.wait
            obtain ⟨ht0, ht1⟩ := hrv.out.tries
            have hp0 : 0 ≤ r.tries * r.wait := Int.mul_nonneg (by omega) (by omega)
            have hp1 : r.tries * r.wait ≤ 4 * 20 := Int.mul_le_mul (by omega) (by omega) (by omega) (by omega)
            clear hb0 hb1 hb2 hb3 hb4 hb5 hgo hrows hget hnx
            obtain ⟨n, hn⟩ : ∃ n, n = r.l.length := ⟨_, rfl⟩
            have hln : (n : Int) ≤ 9 := by omega
            have HN := Lib.hid hn
            clear hle hn
            go_wp2_with fail
            go_loopw [14] (fun i wx => ∃ (k : Nat), k ≤ n ∧ i = .int .i64 k ∧ Held W b v w1.heap.size w3.heap.size (w3.heap.size + 1) (.slice pa r.l.length pc) r P F G wx) (fun i _ => 1001 - (intOf i).toNat)
            case atStart => exact ⟨0, by omega, rfl, hH⟩
            case round =>
              clear hH
              obtain ⟨k, hk, rfl, hH⟩ := hrel
              have hb0 := cell_blk hH.box 0
              have hb1 := cell_blk hH.box 1
              have hb2 := cell_blk hH.box 2
              have hb3 := cell_blk hH.box 3
              have hb4 := cell_blk hH.box 4
              have hb5 := cell_blk hH.box 5
              simp only [Raw.cells] at hb0 hb1 hb2 hb3 hb4 hb5
              by_cases hkn : k < n
              · have hx : r.l[k]? = some (r.l[k]'(by have := HN.out; omega)) := List.getElem?_eq_getElem _
                obtain ⟨hu0, hu9⟩ := HR.out (r.l[k]'(by have := HN.out; omega)) (List.getElem_mem _)
                obtain ⟨lb, lo, rfl, hc, hnn⟩ := hH.list.get hx
                clear hnn
                obtain ⟨hF1, hG1⟩ := HGET.out k _ hx
                generalize hue : r.l[k]'(by have := HN.out; omega) = u at *
                have cF := arr_cell hH.f lF u.toNat (by omega)
                have cG := arr_cell hH.g lG u.toNat (by omega)
                rw [hF1] at cF
                rw [hG1] at cG
                have hkn1 : (k : Int) < (n : Int) := by omega
                have hkl1 : (k : Int) < (r.l.length : Int) := by have := HN.out; omega
                have hk0 : (0 : Int) ≤ (k : Int) := by omega
                clear hF1 hG1
                by_cases hkw : (k : Int) < r.want
                · rw [show firstAt r.want r.every k = 0 from if_pos hkw, Int.add_zero] at cF cG
                  have hkw' : ¬ r.want ≤ (k : Int) := by omega
                  go_wp2_with fail
                  go_quiet (fail)
                  go_wp2_with fail
                  exact ⟨⟨k + 1, by omega, rfl, hH.nob ((Chg.refl Nob _).drewN _)⟩, by simp [intOf]; omega⟩
                · rw [show firstAt r.want r.every k = ((k : Int) - r.want + 1) * r.every from if_neg hkw] at cF cG
                  have hkw' : r.want ≤ (k : Int) := by omega
                  have hm0 : 0 ≤ ((k : Int) - r.want + 1) * r.every := Int.mul_nonneg (by omega) (by omega)
                  have hm1 : ((k : Int) - r.want + 1) * r.every ≤ 8 * 20 := Int.mul_le_mul (by omega) (by omega) (by omega) (by omega)
                  go_wp2_with fail
                  go_quiet (fail)
                  go_wp2_with fail
                  exact ⟨⟨k + 1, by omega, rfl, hH.nob ((Chg.refl Nob _).drewN _)⟩, by simp [intOf]; omega⟩
              · have hkn1 : ¬ (k : Int) < (n : Int) := by omega
                have hkl1 : ¬ (k : Int) < (r.l.length : Int) := by have := HN.out; omega
                go_wp2_with fail
                refine (open_any wr b v P hH.plan ok.len).mono ?_
                rintro e w7 ⟨rfl, hE7⟩
                have hH7 := hH.nob hE7
                rw [ho0]
                go_wp2_with fail
                refine (left_any w7 b v P hH7.plan ok.len ok.next).mono ?_
                rintro e w8 ⟨rfl, n8, rfl⟩
                have hl0 : (P.l.length : Int) - (P.next : Int) = 0 := by have := HNX.out; omega
                rw [hl0]
                go_wp2_with fail
                go_ret
                exact ⟨rfl, hH7.chg.drewN _⟩
      case first =>
       go_wp2_with fail
       go_loopw [8] (fun i wx => ∃ (k : Nat) (F : List Int), k ≤ m ∧ i = .int .i64 k ∧ Held W b v w1.heap.size w3.heap.size (w3.heap.size + 1) (.slice pa r.l.length pc) r (r.plan.beg r.m) F (List.replicate 9 (-1)) wx ∧ F.length = 9 ∧ Hid (F = (r.l.take k).foldl (setG r.now) (List.replicate 9 (-1)))) (fun i _ => 9 - (intOf i).toNat)
       case atStart => exact ⟨0, _, by omega, rfl, hH, by rw [List.length_replicate], Lib.hid rfl⟩
       case round =>
         obtain ⟨k, F, hk, rfl, hH, lF, hF⟩ := hrel
         rename_i wx
         have hb0 := cell_blk hH.box 0
         have hb1 := cell_blk hH.box 1
         have hb5 := cell_blk hH.box 5
         simp only [Raw.cells] at hb0 hb1 hb5
         have hml : m ≤ r.l.length := by omega
         by_cases hlt : k < m
         · have hx : r.l[k]? = some (r.l[k]'(by omega)) := List.getElem?_eq_getElem _
           have hu := HR.out (r.l[k]'(by omega)) (List.getElem_mem _)
           obtain ⟨lb, lo, rfl, hc, _⟩ := hH.list.get hx
           have hkl : (k : Int) < (r.l.length : Int) := by omega
           have hkw : (k : Int) < r.want := by omega
           have hk0 : (0 : Int) ≤ (k : Int) := by omega
           generalize hue : r.l[k]'(by omega) = u at *
           obtain ⟨hu0, hu9⟩ := hu
           have hk9 : (k : Int) < 9 := by have := hr.want.2; omega
           have cF := arr_cell hH.f lF u.toNat (by omega)
           have zF := frozen_blk hH.f u.toNat
           have hHF := hH.setF lay u.toNat r.now
           go_wp2_with fail
           go_region
           go_wp2_with fail
           exact ⟨⟨k + 1, _, by omega, rfl, hHF.nob ((Chg.refl Nob _).drew), by simpa using lF, Lib.hid (by rw [take_succ_some hx, List.foldl_append, ← hF.out]; rfl)⟩, by simp [intOf]; omega⟩
         · have hm2 : k = m := by omega
           subst hm2
           have hend : ¬ (k : Int) < (r.l.length : Int) ∨ ((k : Int) < (r.l.length : Int) ∧ ¬ (k : Int) < r.want) := by omega
           rcases hend with h1 | ⟨h1, h2⟩
           · go_wp2_with fail
             go_meet
             rw [hF.out, hmm] at hH
             exact hH
           · go_wp2_with fail
             go_meet
             rw [hF.out, hmm] at hH
             exact hH
end Go.Proofs.Ytbpbhccgnfakiaa.Hg
