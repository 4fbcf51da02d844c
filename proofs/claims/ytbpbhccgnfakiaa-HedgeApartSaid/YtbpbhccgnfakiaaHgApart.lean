/- HedgeApart, walked. -/
import Derived.Test.YtbpbhccgnfakiaaHgAwake
import Derived.Deep.RegionHeld3
import Derived.Deep.RegionWith
namespace Go.Proofs.Ytbpbhccgnfakiaa.Hg
open Go.RowKit

structure Turn where
  ticks : Int
  shut : Int
  more : Bool

def Turn.Ok (x : Turn) : Prop := (0 ≤ x.ticks ∧ x.ticks ≤ 255) ∧ 0 ≤ x.shut ∧ x.shut ≤ 255

/-- A slice of turns reads as a list. -/
def TurnsAt (w : World) (v : Value) (l : List Turn) : Prop :=
  ∃ a c, v = .slice a l.length c ∧ l.length ≤ 9223372036854775807 ∧ (∀ x ∈ l, x.Ok) ∧ (l = [] ∨ ∃ b off, a = some ⟨b, off, none⟩ ∧ b < w.heap.size ∧ ∀ i x, l[i]? = some x → w.cell? ⟨b, off + i * 3, none⟩ = some (.int .u8 x.ticks) ∧ w.cell? ⟨b, off + i * 3 + 1, none⟩ = some (.int .u8 x.shut) ∧ w.cell? ⟨b, off + i * 3 + 2, none⟩ = some (.bool x.more))

/-- Two plans that lie apart. -/
def Far (b : Nat) (v : Value) (b' : Nat) (v' : Value) : Prop := ∀ j, PlanS b v j → ¬ PlanS b' v' j

theorem Far.symm {b b' : Nat} {v v' : Value} (h : Far b v b' v') : Far b' v' b v := fun j hj hj' => h j hj' hj

set_option maxRecDepth 100000 in
set_option maxHeartbeats 4000000 in
theorem apart_any (W : World) (rv lv mv : Value) (R : List Int) (x1 x2 x3 x4 x5 : Int) (l more : List Turn) (hR : IntsAt W rv R) (hRl : R.length ≤ 9223372036854775807) (hl : TurnsAt W lv l) (hm : TurnsAt W mv more) :
    Calls Try.prog 5 #[.agg #[rv, .int .i64 x1, .int .i64 x2, .int .i64 x3, .int .i64 x4, .int .i64 x5], lv, mv] W fun e w' => e = .returned (.bool true) ∧ Chg Nob W w' := by
  obtain ⟨la, lc, rfl, hlm, hlo, hlc⟩ := hl
  obtain ⟨ma, mc, rfl, hmm, hmo, hmc⟩ := hm
  obtain ⟨n, hn⟩ : ∃ n, n = l.length := ⟨_, rfl⟩
  obtain ⟨m, hm⟩ : ∃ m, m = more.length := ⟨_, rfl⟩
  have HF := Lib.hid (fun o => fit_any (W.alloc o) rv R x1 x2 x3 x4 x5 (hR.nob ((Chg.refl Nob W).alloc o)) hRl)
  have HL := Lib.hid hlc
  have HM := Lib.hid hmc
  have HLO := Lib.hid hlo
  have HMO := Lib.hid hmo
  rw [← hn, ← hm]
  rw [← hn] at hlm
  rw [← hm] at hmm
  have HN := Lib.hid hn
  have HN2 := Lib.hid hm
  clear hn hm hlc hmc hlo hmo
  by_cases hbig : n ≤ 60 ∧ m ≤ 60
  · obtain ⟨hb1, hb2⟩ := hbig
    have d1 : decide ((60 : Int) < (n : Int)) = false := by simp; omega
    have d2 : decide ((60 : Int) < (m : Int)) = false := by simp; omega
    go_enter Try.func5, Try.ntmps5
    go_wp2_with fail
    refine (HF.out _).mono ?_
    rintro e w1 ⟨pv, r, rfl, hown1, hr, hC1⟩
    obtain ⟨pa, pc, hpv, _⟩ := own_form hown1
    subst hpv
    unfold Raw.cells
    go_wp2_with fail
    refine (awake_any _).mono ?_
    rintro e w2 ⟨rfl, hC2⟩
    have hpb := hC2.heap (alloc_new w1 _) (fun h => h)
    have k0 : w2.cell? ⟨w1.heap.size, 0, none⟩ = some (.slice pa r.l.length pc) := cell_blk hpb 0
    have k1 : w2.cell? ⟨w1.heap.size, 1, none⟩ = some (.int .i64 r.want) := cell_blk hpb 1
    have k2 : w2.cell? ⟨w1.heap.size, 2, none⟩ = some (.int .i64 r.every) := cell_blk hpb 2
    have k3 : w2.cell? ⟨w1.heap.size, 3, none⟩ = some (.int .i64 r.wait) := cell_blk hpb 3
    have k4 : w2.cell? ⟨w1.heap.size, 4, none⟩ = some (.int .i64 r.tries) := cell_blk hpb 4
    have k5 : w2.cell? ⟨w1.heap.size, 5, none⟩ = some (.int .i64 r.now) := cell_blk hpb 5
    have hI1 := IntsAt.of_own hown1
    have HBEG : Hid (∀ X, Chg Nob w1 X → _) := fun X hX => begun_any X (.slice pa r.l.length pc) r (hI1.nob hX) (fun k hk => Nat.lt_of_lt_of_le (hown1.lt k hk).2 hX.size) hr
    have hC12 : Chg Nob w1 w2 := ((Chg.refl Nob w1).alloc _).trans hC2
    have HB1 := Lib.hid (HBEG.out w2.drew hC12.drew)
    have hCW : Chg Nob W w1 := ((Chg.refl Nob W).alloc _).trans hC1
    unfold Raw.cells at HB1 HBEG
    go_wp2_with fail
    go_cut [8, 9] (fun h g wx => ∃ b1 v1 b2 v2, h = .pointer (some ⟨b1, 0, none⟩) ∧ g = .pointer (some ⟨b2, 0, none⟩) ∧ PlanAt wx b1 v1 (r.plan.beg r.m) ∧ PlanAt wx b2 v2 (r.plan.beg r.m) ∧ Far b1 v1 b2 v2 ∧
       (∀ j, PlanS b1 v1 j → w2.heap.size ≤ j) ∧ (∀ j, PlanS b2 v2 j → w2.heap.size ≤ j) ∧ Chg Nob w2 wx)
    case first =>
      go_region_held3 (fun w' => w'.cell? ⟨w1.heap.size, 0, none⟩ = some (.slice pa r.l.length pc) ∧ w'.cell? ⟨w1.heap.size, 1, none⟩ = some (.int .i64 r.want) ∧ w'.cell? ⟨w1.heap.size, 2, none⟩ = some (.int .i64 r.every) ∧ w'.cell? ⟨w1.heap.size, 3, none⟩ = some (.int .i64 r.wait) ∧ w'.cell? ⟨w1.heap.size, 4, none⟩ = some (.int .i64 r.tries) ∧ w'.cell? ⟨w1.heap.size, 5, none⟩ = some (.int .i64 r.now))
        (first | go_keep | exact ⟨m0, m1, m2, m3, m4, m5⟩ | exact ⟨l0, l1, l2, l3, l4, l5⟩)
        (first
          | (go_at_call 7; (with_reducible refine HB1.out.mono ?_); rintro e w3 ⟨b1, v1, rfl, hg1, hP1, hv1, hC3⟩; have l0 := hC3.cell (w := w2.drew) k0 (fun h => h); have l1 := hC3.cell (w := w2.drew) k1 (fun h => h); have l2 := hC3.cell (w := w2.drew) k2 (fun h => h); have l3 := hC3.cell (w := w2.drew) k3 (fun h => h); have l4 := hC3.cell (w := w2.drew) k4 (fun h => h); have l5 := hC3.cell (w := w2.drew) k5 (fun h => h))
          | (go_at_call 7; refine (HBEG.out w3 (hC12.drew.trans hC3)).mono ?_; rintro e w4 ⟨b2, v2, rfl, hg2, hP2, hv2, hC4⟩; have m0 := hC4.cell l0 (fun h => h); have m1 := hC4.cell l1 (fun h => h); have m2 := hC4.cell l2 (fun h => h); have m3 := hC4.cell l3 (fun h => h); have m4 := hC4.cell l4 (fun h => h); have m5 := hC4.cell l5 (fun h => h)))
      all_goals (go_wp2_with fail)
      all_goals
        go_meet
        case rel =>
          have hs3 := hC3.size
          have hs4 := hC4.size
          have hl1 := lt_of_block hP1.blk
          have hb1' : ∀ j, PlanS b1 v1 j → w2.heap.size ≤ j ∧ j < w3.heap.size := fun j hj => by
            rcases hj with h | h
            · have e : j = b1 := h
              simp only [World.size_drew] at hg1
              omega
            · have := hv1 j h; have := (hP1.own.lt j h).2; simp only [World.size_drew] at *; omega
          have hb2' : ∀ j, PlanS b2 v2 j → w3.heap.size ≤ j := fun j hj => by
            rcases hj with h | h
            · have e : j = b2 := h
              omega
            · exact hv2 j h
          refine ⟨b1, v1, b2, v2, rfl, rfl, hP1.chg hC4 (fun _ _ h => h), hP2, fun j h1 h2 => ?_, fun j hj => (hb1' j hj).1, fun j hj => ?_, (((Chg.refl Nob w2).drew).trans hC3).trans hC4⟩
          · have := hb1' j h1; have := hb2' j h2; omega
          · have := hb2' j hj; simp only [World.size_drew] at *; omega
    case rest =>
      obtain ⟨b1, v1, b2, v2, rfl, rfl, hP1, hP2, hfar, hlo1, hlo2, hC3⟩ := hcut
      have j5 := hC3.cell k5 (fun h => h)
      have hPok : (r.plan.beg r.m).Ok := Plan.fresh_beg_ok hr.len hr.want ⟨hr.every.1, by have := hr.every.2; omega⟩ ⟨hr.wait.1, by have := hr.wait.2; omega⟩ hr.tries ⟨hr.now.1, by have := hr.now.2; omega⟩ (by unfold Raw.m; omega)
      have hnow := hr.now
      have hW2 : Chg Nob W w2 := hCW.trans hC12
      have HLOW := Lib.hid (And.intro hfar (And.intro hlo1 hlo2))
      have hsz : W.heap.size ≤ w2.heap.size := (hCW.trans hC12).size
      generalize hQ : r.plan.beg r.m = P0 at *
      have hbeg0 : Hid (P0.begun = true) := by rw [← hQ]; rfl
      clear hQ k0 k1 k2 k3 k4 k5 HB1 HBEG hI1 hpb hC2 hC1 hown1 hC12 hCW HF hfar hlo1 hlo2
      go_wp2_with fail
      go_loopg [10, 11] n (fun g nv iv wx => ∃ (k : Nat) (nw : Int) (P : Plan), k + g = n ∧ iv = .int .i64 k ∧ nv = .int .i64 nw ∧ 0 ≤ nw ∧ nw ≤ 1000 + 300 * k ∧ PlanAt wx b1 v1 P ∧ PlanAt wx b2 v2 P ∧ P.Ok ∧ Hid (P.begun = true) ∧ Chg Nob w2 wx)
      case atStart => exact ⟨0, r.now, P0, by omega, rfl, rfl, hnow.1, by omega, hP1, hP2, hPok, hbeg0, hC3⟩
      case round =>
        obtain ⟨k, nw, P, hk, rfl, rfl, hn0, hn1, hQ1, hQ2, ok, hbg, hD⟩ := hrel
        have hDW : Chg Nob W wr := hW2.trans hD
        by_cases hlt : k < n
        · have hx : l[k]? = some (l[k]'(by have := HN.out; omega)) := List.getElem?_eq_getElem _
          have hxo := HLO.out (l[k]'(by have := HN.out; omega)) (List.getElem_mem _)
          rcases HL.out with h | ⟨lb, lof, hla, hlb, hlc⟩
          · simp [h] at hx
          obtain ⟨q0, q1, q2⟩ := hlc k _ hx
          generalize l[k]'(by have := HN.out; omega) = x at *
          obtain ⟨⟨ht0, ht1⟩, hs0, hs1⟩ := hxo
          have p0 := hDW.cell q0 (fun h => h)
          have p1 := hDW.cell q1 (fun h => h)
          have q1s := q1
          have hlr : lb < wr.heap.size := Nat.lt_of_lt_of_le hlb hDW.size
          subst hla
          have Q1S := Lib.hid q1s
          clear hlc hx q0 q1 q1s q2 hC3 hP1 hP2 hPok hbeg0 j5
          go_wp2_with fail
          generalize hnw : nw + x.ticks % 30 = nw' at *
          have hnw' : 0 ≤ nw' ∧ nw' ≤ 1000 + 300 * ((k : Int) + 1) := by omega
          clear hnw
          refine (tick_any wr b1 v1 P nw' hQ1 hbg.out ok).mono ?_
          rintro e w3 ⟨g1, s1, rfl, hog1, hos1, hT1, hE1⟩
          have hU2 := hQ2.chg hE1 (fun j hj hj' => HLOW.out.1 j hj' hj)
          have hE1' : Chg Nob w2 w3 := hD.trans' hE1 (fun j hj => .inr (HLOW.out.2.1 j hj))
          go_wp2_with fail
          refine (tick_any w3 b2 v2 P nw' hU2 hbg.out ok).mono ?_
          rintro e w4 ⟨g2, s2, rfl, hog2, hos2, hT2, hE2⟩
          have hT1' := hT1.chg hE2 (fun j hj hj' => HLOW.out.1 j hj hj')
          have hE2' : Chg Nob w2 w4 := hE1'.trans' hE2 (fun j hj => .inr (HLOW.out.2.2 j hj))
          have hlowr : ∀ j, PlanS b2 v2 j → j < wr.heap.size := fun j hj => by
            rcases hj with h | h
            · have := lt_of_block hQ2.blk
              have e : j = b2 := h
              omega
            · exact (hQ2.own.lt j h).2
          have hi1 : IntsAt w4 g1 _ := (IntsAt.of_own hog1).chg hE2 (fun j hj hj' => by have := (hog1.lt j hj).1; have := hlowr j hj'; omega)
          have hi2 : IntsAt w4 s1 _ := (IntsAt.of_own hos1).chg hE2 (fun j hj hj' => by have := (hos1.lt j hj).1; have := hlowr j hj'; omega)
          have hi3 := IntsAt.of_own hog2
          have hi4 := IntsAt.of_own hos2
          have hlen := tick_len ok nw'
          have hP'ok := Plan.tick_ok ok nw'
          have hP'b : Hid ((P.tick nw').2.2.begun = true) := (Plan.tick_begun P nw').trans hbg.out
          generalize (P.tick nw').1 = G at *
          generalize (P.tick nw').2.1 = S at *
          generalize (P.tick nw').2.2 = P' at *
          have p1' := (hW2.trans hE2').cell Q1S.out (fun h => h)
          clear hQ1 hQ2 hU2 hT1 hog1 hos1 hog2 hos2 p0 p1
          have hcl := hP'ok.len
          have hwr : IntKind.i64.wrap x.shut = x.shut := IntWalk.i64_in _ (by omega)
          have hl1 : ¬ PlanS b1 v1 lb := fun h => by have := HLOW.out.2.1 lb h; omega
          have hl2 : ¬ PlanS b2 v2 lb := fun h => by have := HLOW.out.2.2 lb h; omega
          have HCL1 : Hid (∀ X, Chg Nob w4 X → _) := fun X hX => close_any X b1 v1 P' x.shut (hT1'.chg hX (fun _ _ h => h)) hcl
          have HI1 : Hid (∀ X, Chg Nob w4 X → _) := fun X hX => ints_yes X g1 g2 G G (hi1.nob hX) (hi3.nob hX) hlen.1 rfl
          have HI2 : Hid (∀ X, Chg Nob w4 X → _) := fun X hX => ints_yes X s1 s2 S S (hi2.nob hX) (hi4.nob hX) hlen.2 rfl
          go_wp2_with fail
          go_cut [106] (fun t wx => t = .bool false ∧ PlanAt wx b1 v1 (P'.close x.shut).2 ∧ PlanAt wx b2 v2 (P'.close x.shut).2 ∧ Chg Nob w2 wx)
          case first =>
            go_region_held3 (fun w' => w'.cell? ⟨lb, lof + k * 3 + 1, none⟩ = some (.int .u8 x.shut))
              (first | go_keep | exact r1 | exact r2)
              (first
                | (go_at_call_of 16 g1; refine (HI1.out _ (by first | exact (Chg.refl Nob w4).drew | exact (Chg.refl Nob w4).drewN _)).mono ?_; rintro e w5 ⟨rfl, n5, rfl⟩)
                | (go_at_call_of 16 s1; refine (HI2.out _ (by first | exact (Chg.refl Nob w4).drew | exact (Chg.refl Nob w4).drewN _)).mono ?_; rintro e w6 ⟨rfl, n6, rfl⟩)
                | (go_at_call_of 13 (Value.pointer (some (⟨b1, 0, none⟩ : Addr))); refine (HCL1.out _ ((Chg.refl Nob w4).drewN _)).mono ?_; rintro e w7 ⟨rfl, hR1, hF1⟩; have r1 : w7.cell? ⟨lb, lof + k * 3 + 1, none⟩ = some (.int .u8 x.shut) := hF1.cell (w := w4.drewN _) p1' hl1; have hR2 := (hT2.chg ((Chg.refl Nob w4).drewN _) (fun _ _ h => h)).chg hF1 (fun j hj hj' => HLOW.out.1 j hj' hj))
                | (go_at_call_of 13 (Value.pointer (some (⟨b2, 0, none⟩ : Addr))); refine (close_any w7 b2 v2 P' x.shut hR2 hcl).mono ?_; rintro e w8 ⟨rfl, hS2, hF2⟩; have r2 : w8.cell? ⟨lb, lof + k * 3 + 1, none⟩ = some (.int .u8 x.shut) := hF2.cell r1 hl2; have hS1 := hR1.chg hF2 (fun j hj hj' => HLOW.out.1 j hj hj')))
            all_goals (go_wp2_with fail)
            all_goals
              go_meet
              case rel => exact ⟨by simp, hS1, hS2, ((hE2'.drewN _).trans' hF1 (fun j hj => .inr (HLOW.out.2.1 j hj))).trans' hF2 (fun j hj => .inr (HLOW.out.2.2 j hj))⟩
          case rest =>
            obtain ⟨rfl, hS1, hS2, hG⟩ := hcut
            go_wp2_with fail
            go_roundg (gk - 1)
            case measure => omega
            case rel => exact ⟨k + 1, nw', _, by omega, by go_num, rfl, hnw'.1, by omega, hS1, hS2, Plan.close_ok hP'ok _, (Plan.close_begun _ _).trans hP'b.out, hG⟩
        · have hok9 := ok.len
          go_wp2_with fail
          refine (copy_any wr b1 v1 P hQ1 (by omega)).mono ?_
          rintro e w3 ⟨v3, rfl, hQ3, hv3, hE3⟩
          have hfar3 : Hid ((∀ j, PlanS wr.heap.size v3 j → wr.heap.size ≤ j) ∧ ∀ j, (PlanS b1 v1 j ∨ PlanS b2 v2 j) → j < wr.heap.size) := by
            refine ⟨fun j hj => ?_, fun j hj => ?_⟩
            · rcases hj with h | h
              · have e : j = wr.heap.size := h
                omega
              · exact hv3 j h
            · rcases hj with (h | h) | (h | h)
              · have e : j = b1 := h
                have := lt_of_block hQ1.blk; omega
              · exact (hQ1.own.lt j h).2
              · have e : j = b2 := h
                have := lt_of_block hQ2.blk; omega
              · exact (hQ2.own.lt j h).2
          have hR1 := hQ1.chg hE3 (fun _ _ h => h)
          have hR2 := hQ2.chg hE3 (fun _ _ h => h)
          have hD3 : Chg Nob w2 w3 := hD.trans hE3
          have hkn : k ≤ 60 := by omega
          have hszr := hD.size
          generalize wr.heap.size = b3 at *
          clear hQ1 hQ2 hC3 hP1 hP2 hPok hbeg0 j5 hD hDW hE3 hv3 hnow HL
          go_wp2_with fail
          go_loopg [17, 18] m (fun g nv iv wx => ∃ (k : Nat) (nw2 : Int) (C : Plan), k + g = m ∧ iv = .int .i64 k ∧ nv = .int .i64 nw2 ∧ 0 ≤ nw2 ∧ nw2 ≤ 20000 + 300 * k ∧ PlanAt wx b1 v1 P ∧ PlanAt wx b2 v2 P ∧ PlanAt wx b3 v3 C ∧ C.Ok ∧ Hid (C.begun = true) ∧ Chg Nob w2 wx)
          case atStart => exact ⟨0, nw, P, by omega, rfl, rfl, hn0, by omega, hR1, hR2, hQ3, ok, hbg, hD3⟩
          case round =>
            obtain ⟨i, nx, C, hi, rfl, rfl, hx0, hx1, hU1, hU2, hU3, ok3, hb3, hD4⟩ := hrel
            have hDW : Chg Nob W wr := hW2.trans hD4
            have hf13 : ∀ j, PlanS b1 v1 j → ¬ PlanS b3 v3 j := fun j h h' => by have := hfar3.out.1 j h'; have := hfar3.out.2 j (.inl h); omega
            have hf23 : ∀ j, PlanS b2 v2 j → ¬ PlanS b3 v3 j := fun j h h' => by have := hfar3.out.1 j h'; have := hfar3.out.2 j (.inr h); omega
            have hl3 : ∀ j, PlanS b3 v3 j → w2.heap.size ≤ j := fun j h => by have := hfar3.out.1 j h; omega
            have HFAR := Lib.hid (And.intro hf13 (And.intro hf23 hl3))
            clear hf13 hf23 hl3 hR1 hR2 hQ3 hD3
            by_cases hlt2 : i < m
            · have hx : more[i]? = some (more[i]'(by have := HN2.out; omega)) := List.getElem?_eq_getElem _
              have hxo := HMO.out (more[i]'(by have := HN2.out; omega)) (List.getElem_mem _)
              rcases HM.out with h | ⟨lb, lof, hla, hlb, hlc⟩
              · simp [h] at hx
              obtain ⟨q0, q1, q2⟩ := hlc i _ hx
              generalize more[i]'(by have := HN2.out; omega) = x at *
              obtain ⟨⟨ht0, ht1⟩, hs0, hs1⟩ := hxo
              have p0 := hDW.cell q0 (fun h => h)
              have Q1S := Lib.hid q1
              subst hla
              clear hlc hx q0 q1 q2
              go_wp2_with fail
              generalize hnw : nx + x.ticks % 30 = nx' at *
              have hnw' : 0 ≤ nx' ∧ nx' ≤ 20000 + 300 * ((i : Int) + 1) := by omega
              clear hnw p0
              refine (tick_any wr b3 v3 C nx' hU3 hb3.out ok3).mono ?_
              rintro e w5 ⟨g5, s5, rfl, _, _, hT3, hE5⟩
              have hV1 := hU1.chg hE5 HFAR.out.1
              have hV2 := hU2.chg hE5 HFAR.out.2.1
              have hD5 : Chg Nob w2 w5 := hD4.trans' hE5 (fun j hj => .inr (HFAR.out.2.2 j hj))
              have ok5 := Plan.tick_ok ok3 nx'
              have hb5 : Hid ((C.tick nx').2.2.begun = true) := (Plan.tick_begun C nx').trans hb3.out
              generalize (C.tick nx').2.2 = C5 at *
              clear hU1 hU2 hU3 hE5
              go_wp2_with fail
              refine (more_any w5 b3 v3 C5 nx' hT3 hb5.out ok5.len ok5.next (fun x hx => by have := ok5.ups x hx; omega)).mono ?_
              rintro e w6 ⟨rfl, hT6, hE6⟩
              have hV1' := hV1.chg hE6 HFAR.out.1
              have hV2' := hV2.chg hE6 HFAR.out.2.1
              have hD6 : Chg Nob w2 w6 := hD5.trans' hE6 (fun j hj => .inr (HFAR.out.2.2 j hj))
              have ok6 := Plan.moreQ_ok ok5 nx'
              have hb6 : Hid ((C5.moreQ nx').2.begun = true) := (Plan.moreQ_begun C5 nx').trans hb5.out
              have p1 := (hW2.trans hD6).cell Q1S.out (fun h => h)
              generalize (C5.moreQ nx').2 = C6 at *
              clear hV1 hV2 hT3 hE6
              go_wp2_with fail
              refine (close_any w6 b3 v3 C6 x.shut hT6 ok6.len).mono ?_
              rintro e w7 ⟨rfl, hT7, hE7⟩
              have hV1 := hV1'.chg hE7 HFAR.out.1
              have hV2 := hV2'.chg hE7 HFAR.out.2.1
              have hD7 : Chg Nob w2 w7 := hD6.trans' hE7 (fun j hj => .inr (HFAR.out.2.2 j hj))
              go_wp2_with fail
              go_roundg (gk - 1)
              case measure => omega
              case rel => exact ⟨i + 1, nx', _, by omega, by go_num, rfl, hnw'.1, by omega, hV1, hV2, hT7, Plan.close_ok ok6 _, (Plan.close_begun _ _).trans hb6.out, hD7⟩
            · clear hU3 ok3 hb3 HFAR hfar3
              go_wp2_with fail
              go_loopg [10, 19] 40 (fun g nv iv wx => ∃ (k : Nat) (nw2 : Int) (C : Plan), k + g = 40 ∧ iv = .int .i64 k ∧ nv = .int .i64 nw2 ∧ 0 ≤ nw2 ∧ nw2 ≤ 20000 + k ∧ PlanAt wx b1 v1 C ∧ PlanAt wx b2 v2 C ∧ C.Ok ∧ Hid (C.begun = true) ∧ Chg Nob w2 wx)
              case atStart => exact ⟨0, nw, P, by omega, rfl, rfl, hn0, by omega, hU1, hU2, ok, hbg, hD4⟩
              case round =>
                clear hU1 hU2 ok hbg hD4 hDW
                obtain ⟨j, ny, C, hj, rfl, rfl, hy0, hy1, hV1, hV2, ok3, hb3, hD5⟩ := hrel
                by_cases hlt3 : j < 40
                · have hlt3' : (j : Int) < 40 := by omega
                  go_wp2_with fail
                  refine (tick_any wr b1 v1 C (ny + 1) hV1 hb3.out ok3).mono ?_
                  rintro e w5 ⟨g1, s1, rfl, hog1, hos1, hT1, hE1⟩
                  have hU2 := hV2.chg hE1 (fun j hj hj' => HLOW.out.1 j hj' hj)
                  have hE1' : Chg Nob w2 w5 := hD5.trans' hE1 (fun j hj => .inr (HLOW.out.2.1 j hj))
                  go_wp2_with fail
                  refine (tick_any w5 b2 v2 C (ny + 1) hU2 hb3.out ok3).mono ?_
                  rintro e w6 ⟨g2, s2, rfl, hog2, hos2, hT2, hE2⟩
                  have hT1' := hT1.chg hE2 (fun j hj hj' => HLOW.out.1 j hj hj')
                  have hE2' : Chg Nob w2 w6 := hE1'.trans' hE2 (fun j hj => .inr (HLOW.out.2.2 j hj))
                  have hlowr : ∀ j, PlanS b2 v2 j → j < wr.heap.size := fun j hj => by
                    rcases hj with h | h
                    · have := lt_of_block hV2.blk
                      have e : j = b2 := h
                      omega
                    · exact (hV2.own.lt j h).2
                  have hi1 : IntsAt w6 g1 _ := (IntsAt.of_own hog1).chg hE2 (fun j hj hj' => by have := (hog1.lt j hj).1; have := hlowr j hj'; omega)
                  have hi2 : IntsAt w6 s1 _ := (IntsAt.of_own hos1).chg hE2 (fun j hj hj' => by have := (hos1.lt j hj).1; have := hlowr j hj'; omega)
                  have hi3 := IntsAt.of_own hog2
                  have hi4 := IntsAt.of_own hos2
                  have hlen := tick_len ok3 (ny + 1)
                  have hP'ok := Plan.tick_ok ok3 (ny + 1)
                  have hP'b : Hid ((C.tick (ny + 1)).2.2.begun = true) := (Plan.tick_begun C (ny + 1)).trans hb3.out
                  generalize (C.tick (ny + 1)).1 = G at *
                  generalize (C.tick (ny + 1)).2.1 = S at *
                  generalize (C.tick (ny + 1)).2.2 = P' at *
                  clear hV1 hV2 hU2 hT1 hog1 hos1 hog2 hos2 hE1 hE2
                  have hcl := hP'ok.len
                  go_wp2_with fail
                  refine (ints_yes w6 g1 g2 G G hi1 hi3 hlen.1 rfl).mono ?_
                  rintro e w7 ⟨rfl, n7, rfl⟩
                  go_wp2_with fail
                  refine (ints_yes _ s1 s2 S S (hi2.nob ((Chg.refl Nob w6).drewN _)) (hi4.nob ((Chg.refl Nob w6).drewN _)) hlen.2 rfl).mono ?_
                  rintro e w8 ⟨rfl, n8, rfl⟩
                  go_wp2_with fail
                  refine (open_any _ b1 v1 P' (hT1'.chg ((Chg.refl Nob w6).drewN _) (fun _ _ h => h)) hcl).mono ?_
                  rintro e w9 ⟨rfl, hE9⟩
                  have hE9' : Chg Nob w6 w9 := ((Chg.refl Nob w6).drewN _).trans hE9
                  go_wp2_with fail
                  refine (open_any w9 b2 v2 P' (hT2.chg hE9' (fun _ _ h => h)) hcl).mono ?_
                  rintro e w10 ⟨rfl, hE10⟩
                  have hE10' := hE9'.trans hE10
                  clear hE9 hE10 hE9'
                  go_wp2_with fail
                  refine (left_any w10 b1 v1 P' (hT1'.chg hE10' (fun _ _ h => h)) hcl hP'ok.next).mono ?_
                  rintro e w11 ⟨rfl, n11, rfl⟩
                  go_wp2_with fail
                  refine (left_any _ b2 v2 P' (hT2.chg (hE10'.drewN _) (fun _ _ h => h)) hcl hP'ok.next).mono ?_
                  rintro e w12 ⟨rfl, n12, rfl⟩
                  go_wp2_with fail
                  go_roundg (gk - 1)
                  case measure => omega
                  case rel => exact ⟨j + 1, ny + 1, P', by omega, by go_num, rfl, by omega, by omega, hT1'.chg (hE10'.drewN _) (fun _ _ h => h), hT2.chg (hE10'.drewN _) (fun _ _ h => h), hP'ok, hP'b, hE2'.trans (hE10'.drewN _)⟩
                · have hlt3' : ¬ (j : Int) < 40 := by omega
                  go_wp2_with fail
                  go_ret
                  exact ⟨rfl, hW2.trans hD5⟩
  · have hbig' : 60 < n ∨ (n ≤ 60 ∧ 60 < m) := by omega
    rcases hbig' with hn60 | ⟨hn60, hm60⟩
    · have d1 : decide ((60 : Int) < (n : Int)) = true := by simp; omega
      have d1' : (60 : Int) < (n : Int) := by omega
      go_enter Try.func5, Try.ntmps5
      go_wp2_with fail
      refine (HF.out _).mono ?_
      rintro e w1 ⟨pv, r, rfl, hown1, hr, hC1⟩
      obtain ⟨pa, pc, hpv, _⟩ := own_form hown1
      subst hpv
      unfold Raw.cells
      go_wp2_with fail
      refine (awake_any _).mono ?_
      rintro e w2 ⟨rfl, hC2⟩
      go_wp2_with fail
      go_ret
      exact ⟨rfl, ((((Chg.refl Nob W).alloc _).trans hC1).alloc _).trans hC2⟩
    · have d1 : decide ((60 : Int) < (n : Int)) = false := by simp; omega
      have d2 : decide ((60 : Int) < (m : Int)) = true := by simp; omega
      have d1' : ¬ (60 : Int) < (n : Int) := by omega
      have d2' : (60 : Int) < (m : Int) := by omega
      go_enter Try.func5, Try.ntmps5
      go_wp2_with fail
      refine (HF.out _).mono ?_
      rintro e w1 ⟨pv, r, rfl, hown1, hr, hC1⟩
      obtain ⟨pa, pc, hpv, _⟩ := own_form hown1
      subst hpv
      unfold Raw.cells
      go_wp2_with fail
      refine (awake_any _).mono ?_
      rintro e w2 ⟨rfl, hC2⟩
      go_wp2_with fail
      go_ret
      exact ⟨rfl, ((((Chg.refl Nob W).alloc _).trans hC1).alloc _).trans hC2⟩
end Go.Proofs.Ytbpbhccgnfakiaa.Hg
