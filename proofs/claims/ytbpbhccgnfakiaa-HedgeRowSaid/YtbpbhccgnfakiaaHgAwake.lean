/- The statements' own function awake: the examples are as they are told. -/
import Derived.Test.YtbpbhccgnfakiaaHgOk
import Derived.Test.YtbpbhccgnfakiaaHgWalkG
namespace Go.Proofs.Ytbpbhccgnfakiaa.Hg
open Go.RowKit

/-- A slice literal of ints, just made. -/
theorem IntsAt.lit {w : World} {g : Nat} {l : List Int} {cs : Array Value} (h : w.heap[g]? = some (.cells cs 3 (0, 0))) (e : cs = (ints l).toArray) (c : Nat) (hc : l.length ≤ c) : IntsAt w (.slice (some ⟨g, 0, none⟩) l.length c) l := by
  subst e
  refine ⟨_, _, rfl, hc, .inr ⟨g, 0, rfl, fun i x hx => ?_⟩⟩
  rw [cell_blk h, Nat.zero_add]
  simp [hx]

theorem IntsAt.none (w : World) : IntsAt w (.slice Option.none 0 0) [] := ⟨Option.none, 0, rfl, Nat.le_refl _, .inl rfl⟩

def A0 : Plan := Plan.fresh [4, 2, 7] 2 10 15 2 100
def A1 : Plan := A0.beg 2
def A2 : Plan := (A1.tick 110).2.2
def A3 : Plan := (A2.tick 115).2.2
def A4 : Plan := (A3.close 2).2
def A5 : Plan := (A4.tick 125).2.2
def A6 : Plan := (A5.tick 130).2.2
def A7 : Plan := (A6.tick 140).2.2

theorem A1_ok : A1.Ok := Plan.fresh_beg_ok (by decide) (by decide) (by decide) (by decide) (by decide) (by decide) (by decide)
theorem A2_ok : A2.Ok := Plan.tick_ok A1_ok _
theorem A3_ok : A3.Ok := Plan.tick_ok A2_ok _
theorem A4_ok : A4.Ok := Plan.close_ok A3_ok _
theorem A5_ok : A5.Ok := Plan.tick_ok A4_ok _
theorem A6_ok : A6.Ok := Plan.tick_ok A5_ok _
theorem A7_ok : A7.Ok := Plan.tick_ok A6_ok _
theorem A1_begun : A1.begun = true := rfl
theorem A2_begun : A2.begun = true := (Plan.tick_begun _ _).trans A1_begun
theorem A3_begun : A3.begun = true := (Plan.tick_begun _ _).trans A2_begun
theorem A4_begun : A4.begun = true := (Plan.close_begun _ _).trans A3_begun
theorem A5_begun : A5.begun = true := (Plan.tick_begun _ _).trans A4_begun
theorem A6_begun : A6.begun = true := (Plan.tick_begun _ _).trans A5_begun
theorem A7_begun : A7.begun = true := (Plan.tick_begun _ _).trans A6_begun
theorem A1_due : A1.due = (110, true) := by decide +kernel
theorem A1_110 : (A1.tick 110).1 = [] ∧ (A1.tick 110).2.1 = [7] := by decide +kernel
theorem A2_115 : (A2.tick 115).1 = [] ∧ (A2.tick 115).2.1 = [4, 2] := by decide +kernel
theorem A3_2 : (A3.close 2).1 = true := by decide +kernel
theorem A4_125 : (A4.tick 125).1 = [] ∧ (A4.tick 125).2.1 = [7] := by decide +kernel
theorem A5_130 : (A5.tick 130).1 = [4] ∧ (A5.tick 130).2.1 = [] := by decide +kernel
theorem A6_140 : (A6.tick 140).1 = [7] ∧ (A6.tick 140).2.1 = [] := by decide +kernel
theorem A7_open : openN A7.l = 0 := by decide +kernel
theorem A7_due : A7.due = (0, false) := by decide +kernel

theorem PlanAt.notNew {w : World} {b : Nat} {v : Value} {p : Plan} (h : PlanAt w b v p) {k : Nat} (hk : w.heap.size ≤ k) : ¬ PlanS b v k := by
  rintro (e | e)
  · have := lt_of_block h.blk
    have : k = b := e
    omega
  · have := (h.own.lt k e).2
    omega

/-- told with a literal as what is sent. -/
theorem told_sends (W : World) (b : Nat) (v : Value) (P : Plan) (t : Int) (S : List Int) (cs : Array Value) (n : Nat) (hP : PlanAt W b v P) (hb : P.begun = true) (ok : P.Ok) (h : (P.tick t).1 = [] ∧ (P.tick t).2.1 = S) (hcs : cs = (ints S).toArray) (hn : n = S.length) :
    Calls Try.prog 21 #[.pointer (some ⟨b, 0, none⟩), .int .i64 t, .slice none 0 0, .slice (some ⟨W.heap.size, 0, none⟩) n n] (W.alloc (.cells cs 3)) fun e w' => e = .returned (.bool true) ∧ PlanAt w' b v (P.tick t).2.2 ∧ Chg (PlanS b v) W w' := by
  subst hn
  refine (told_yes _ b v P t _ _ [] S (hP.chg (below_new W _) (fun _ _ h => h)) hb ok (IntsAt.none _) (IntsAt.lit (alloc_new W _) hcs _ (Nat.le_refl _)) (fun k h => by simp [Value.ownBlock] at h) (fun k h => hP.notNew (by simp [Value.ownBlock] at h; omega)) h.1 h.2).mono ?_
  rintro e w' ⟨rfl, h1, h2⟩
  exact ⟨rfl, h1, ((Chg.refl _ W).alloc _).trans h2⟩

/-- told with a literal as who is gone. -/
theorem told_gone (W : World) (b : Nat) (v : Value) (P : Plan) (t : Int) (G : List Int) (cs : Array Value) (n : Nat) (hP : PlanAt W b v P) (hb : P.begun = true) (ok : P.Ok) (h : (P.tick t).1 = G ∧ (P.tick t).2.1 = []) (hcs : cs = (ints G).toArray) (hn : n = G.length) :
    Calls Try.prog 21 #[.pointer (some ⟨b, 0, none⟩), .int .i64 t, .slice (some ⟨W.heap.size, 0, none⟩) n n, .slice none 0 0] (W.alloc (.cells cs 3)) fun e w' => e = .returned (.bool true) ∧ PlanAt w' b v (P.tick t).2.2 ∧ Chg (PlanS b v) W w' := by
  subst hn
  refine (told_yes _ b v P t _ _ G [] (hP.chg (below_new W _) (fun _ _ h => h)) hb ok (IntsAt.lit (alloc_new W _) hcs _ (Nat.le_refl _)) (IntsAt.none _) (fun k h => hP.notNew (by simp [Value.ownBlock] at h; omega)) (fun k h => by simp [Value.ownBlock] at h) h.1 h.2).mono ?_
  rintro e w' ⟨rfl, h1, h2⟩
  exact ⟨rfl, h1, ((Chg.refl _ W).alloc _).trans h2⟩

set_option maxHeartbeats 2000000 in
theorem awake_any (w : World) :
    Calls Try.prog 8 #[] w fun e w' => e = .returned (.bool true) ∧ Chg Nob w w' := by
  go_enter Try.func8, Try.ntmps8
  go_wp2_with fail
  refine (new_any _ _ [4, 2, 7] 2 10 15 2 100 (IntsAt.lit (alloc_new w _) rfl 3 (by decide)) (by decide) (by decide) (by decide) (by decide) (by decide) (by decide) (by decide) (by decide)).mono ?_
  rintro e w1 ⟨v, rfl, hP1, hv1, hC1⟩
  simp only [World.size_alloc] at hP1 hv1
  have hC1' : Chg Nob w w1 := ((Chg.refl Nob w).alloc _).trans hC1
  have hbig : ∀ j, PlanS (w.heap.size + 1) v j → w.heap.size ≤ j := fun j hj => by
    rcases hj with h | h
    · have : j = w.heap.size + 1 := h
      omega
    · have := hv1 j h; omega
  have HB := Lib.hid hbig
  clear hbig hv1 hC1
  go_wp2_with fail
  refine (begin_any w1 _ v A0 2 hP1 rfl rfl (by decide) (by decide) (by decide) (by decide) (by intro x hx; simp [A0, Plan.fresh, up0] at hx; rcases hx with rfl | rfl | rfl <;> decide)).mono ?_
  rintro e w2 ⟨out, rfl, hown2, hP2, hC2⟩
  rw [show A0.firsts 2 = [4, 2] from rfl] at hown2
  have HP2 : Hid (PlanAt w2 (w.heap.size + 1) v A1) := hP2
  clear hP1 hP2
  go_wp2_with fail
  refine (ints_yes _ out _ [4, 2] [4, 2] ((IntsAt.of_own hown2).nob (below_new w2 _)) (IntsAt.lit (alloc_new w2 _) rfl 2 (by decide)) (by decide) rfl).mono ?_
  rintro e w3 ⟨rfl, n3, rfl⟩
  have HP3 : Hid (PlanAt ((w2.alloc (.cells #[.int .i64 4, .int .i64 2] 3)).drewN n3) (w.heap.size + 1) v A1) := HP2.out.chg (((Chg.refl Nob w2).alloc _).drewN n3) (fun _ _ h => h)
  have hC3 : Chg (PlanS (w.heap.size + 1) v) w1 ((w2.alloc (.cells #[.int .i64 4, .int .i64 2] 3)).drewN n3) := (hC2.alloc _).drewN n3
  clear HP2 hown2 hC2
  go_wp2_with fail
  refine (due_any _ _ v A1 HP3.out A1_begun A1_ok).mono ?_
  rintro e w4 ⟨rfl, hC4⟩
  rw [A1_due]
  have HP4 := Lib.hid (HP3.out.chg hC4 (fun _ _ h => h))
  have hD4 : Chg (PlanS (w.heap.size + 1) v) w1 w4 := hC3.trans (hC4.mono (fun _ _ h => h.no))
  clear HP3 hC3 hC4
  go_wp2_with fail
  refine (told_sends w4 _ v A1 110 [7] _ 1 HP4.out A1_begun A1_ok A1_110 rfl rfl).mono ?_
  rintro e w5 ⟨rfl, hP5, hC5⟩
  have HP5 : Hid (PlanAt w5 (w.heap.size + 1) v A2) := hP5
  have hD5 := hD4.trans hC5
  clear HP4 hP5 hD4 hC5
  go_wp2_with fail
  refine (told_sends w5 _ v A2 115 [4, 2] _ 2 HP5.out A2_begun A2_ok A2_115 rfl rfl).mono ?_
  rintro e w6 ⟨rfl, hP6, hC6⟩
  have HP6 : Hid (PlanAt w6 (w.heap.size + 1) v A3) := hP6
  have hD6 := hD5.trans hC6
  clear HP5 hP6 hD5 hC6
  go_wp2_with fail
  refine (close_any w6 _ v A3 2 HP6.out A3_ok.len).mono ?_
  rintro e w7 ⟨rfl, hP7, hC7⟩
  rw [A3_2]
  have HP7 : Hid (PlanAt w7 (w.heap.size + 1) v A4) := hP7
  have hD7 := hD6.trans hC7
  clear HP6 hP7 hD6 hC7
  go_wp2_with fail
  refine (told_sends w7 _ v A4 125 [7] _ 1 HP7.out A4_begun A4_ok A4_125 rfl rfl).mono ?_
  rintro e w8 ⟨rfl, hP8, hC8⟩
  have HP8 : Hid (PlanAt w8 (w.heap.size + 1) v A5) := hP8
  have hD8 := hD7.trans hC8
  clear HP7 hP8 hD7 hC8
  go_wp2_with fail
  refine (told_gone w8 _ v A5 130 [4] _ 1 HP8.out A5_begun A5_ok A5_130 rfl rfl).mono ?_
  rintro e w9 ⟨rfl, hP9, hC9⟩
  have HP9 : Hid (PlanAt w9 (w.heap.size + 1) v A6) := hP9
  have hD9 := hD8.trans hC9
  clear HP8 hP9 hD8 hC9
  go_wp2_with fail
  refine (told_gone w9 _ v A6 140 [7] _ 1 HP9.out A6_begun A6_ok A6_140 rfl rfl).mono ?_
  rintro e w10 ⟨rfl, hP10, hC10⟩
  have HP10 : Hid (PlanAt w10 (w.heap.size + 1) v A7) := hP10
  have hD10 := hD9.trans hC10
  clear HP9 hP10 hD9 hC10
  go_wp2_with fail
  refine (open_any w10 _ v A7 HP10.out A7_ok.len).mono ?_
  rintro e w11 ⟨rfl, hC11⟩
  rw [A7_open]
  have HP11 := Lib.hid (HP10.out.chg hC11 (fun _ _ h => h))
  have hD11 := hD10.trans (hC11.mono (fun _ _ h => h.no))
  clear HP10 hD10 hC11
  go_wp2_with fail
  refine (due_any w11 _ v A7 HP11.out A7_begun A7_ok).mono ?_
  rintro e w12 ⟨rfl, hC12⟩
  rw [A7_due]
  have hD12 := hD11.trans (hC12.mono (fun _ _ h => h.no))
  clear HP11 hD11 hC12
  go_wp2_with fail
  go_ret
  exact ⟨rfl, hC1'.trans' hD12 (fun j hj => .inr (HB.out j hj))⟩
end Go.Proofs.Ytbpbhccgnfakiaa.Hg
