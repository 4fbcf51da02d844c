/- Package hedge, walked: More, Begin, Due. -/
import Derived.Test.YtbpbhccgnfakiaaHgWalkA
namespace Go.Proofs.Ytbpbhccgnfakiaa.Hg
open Go.RowKit

def Plan.moreQ (p0 : Plan) (t : Int) : (Int × Bool) × Plan :=
  if p0.next < p0.l.length then ((p0.uAt p0.next, true), (p0.to t).ask p0.next) else ((0, false), p0.to t)

set_option maxHeartbeats 400000 in
theorem more_any (w : World) (b : Nat) (v : Value) (P : Plan) (t : Int) (hP : PlanAt w b v P) (hb : P.begun = true) (hl : P.l.length ≤ 9) (hnx : P.next ≤ P.l.length) (hups : ∀ x ∈ P.l, 0 ≤ x.n ∧ x.n ≤ 4) :
    Calls Try.prog 14 #[.pointer (some ⟨b, 0, none⟩), .int .i64 t] w fun e w' => e = .returned (.tuple #[.int .i64 (P.moreQ t).1.1, .bool (P.moreQ t).1.2]) ∧ PlanAt w' b v (P.moreQ t).2 ∧ Chg (PlanS b v) w w' := by
  have h9 := hP.c9
  rw [hb] at h9
  clear hb
  go_enter Try.func14, Try.ntmps14
  go_wp2_with fail
  refine (to_any w b v P t hP).mono ?_
  rintro e w1 ⟨rfl, hP1, hC1⟩
  clear h9
  have h1 := hP1.c1
  have h0 := hP1.c0
  have hC1' : Chg (PlanS b v) w w1 := hC1.mono (fun _ _ h => .inl h)
  by_cases hlt : P.next < P.l.length
  · have hx : P.l[P.next]? = some P.l[P.next] := List.getElem?_eq_getElem hlt
    have hm := hups P.l[P.next] (List.getElem_mem hlt)
    have e : P.moreQ t = ((P.l[P.next].u, true), (P.to t).ask P.next) := by unfold Plan.moreQ; rw [if_pos hlt]; simp [Plan.uAt, hx]
    generalize P.l[P.next] = x at *
    have HE := Lib.hid e
    have HX := Lib.hid hx
    clear e hx hups
    rcases hP1.form with ⟨hv, h2⟩ | ⟨g, cap, hv, hcap, hcm, hgb⟩
    · have := HX.out
      have h2' : P.l = [] := h2
      simp [h2'] at this
    have hlt' : (P.next : Int) < (P.l.length : Int) := by omega
    have h0' : w1.cell? ⟨b, 0, none⟩ = some (.slice (some ⟨g, 0, none⟩) P.l.length cap) := by rw [h0, hv]; rfl
    have h1' : w1.cell? ⟨b, 1, none⟩ = some (.int .i64 P.next) := h1
    clear h0 h1 hv hcap
    go_wp2_with fail
    go_quiet (fail)
    go_wp2_with fail
    have hP1' : PlanAt (w1.drewN nq) b v (P.to t) := hP1.chg ((Chg.refl Nob w1).drewN nq) (fun _ _ h => h)
    refine (ask_any _ b v (P.to t) P.next x hP1' HX.out hl (by omega) (by show P.next ≤ 9; omega)).mono ?_
    rintro e w2 ⟨rfl, hP2, hC2⟩
    have hC2' : Chg (PlanS b v) w w2 := (hC1'.drewN nq).trans hC2
    go_wp2_with fail
    go_ret2
    rw [HE.out]
    exact ⟨rfl, hP2, hC2'⟩
  · have e : P.moreQ t = ((0, false), P.to t) := by unfold Plan.moreQ; rw [if_neg hlt]
    have HE := Lib.hid e
    clear e
    have hge : (P.l.length : Int) ≤ (P.next : Int) := by omega
    have h1' : w1.cell? ⟨b, 1, none⟩ = some (.int .i64 P.next) := h1
    have h0' : ∃ a n cap, v = .slice a n cap ∧ n = P.l.length := by
      rcases hP1.form with ⟨hv, h2⟩ | ⟨g, cap, hv, _⟩
      · have h2' : P.l = [] := h2
        exact ⟨_, _, _, hv, by simp [h2']⟩
      · exact ⟨_, _, _, hv, rfl⟩
    obtain ⟨a, n, cap, hv, rfl⟩ := h0'
    rw [hv] at h0
    clear h1 hv
    go_wp2_with fail
    go_quiet (fail)
    go_wp2_with fail
    go_ret2
    rw [HE.out]
    exact ⟨rfl, hP1.chg ((Chg.refl Nob w1).drewN _) (fun _ _ h => h), hC1'.drewN _⟩

def Plan.dueTo (p : Plan) (k : Nat) : Int := ((p.l.take k).filter (fun x => x.op)).foldl (fun a x => min a (x.last + p.wait)) 1099511627777
def Plan.due (p : Plan) : Int × Bool :=
  let a := if p.next < p.l.length then min (p.dueTo p.l.length) (p.start + (p.ks + 1) * p.every) else p.dueTo p.l.length
  let c := max a (p.now + 1)
  if 1099511627776 < c then (0, false) else (c, true)

theorem Plan.dueTo_succ (p : Plan) {k : Nat} {x : Up} (h : p.l[k]? = some x) : p.dueTo (k + 1) = if x.op then min (p.dueTo k) (x.last + p.wait) else p.dueTo k := by
  unfold Plan.dueTo
  rw [take_succ_some h]
  cases ho : x.op <;> simp [ho]

theorem Plan.dueTo_le (p : Plan) : ∀ k, p.dueTo k ≤ 1099511627777 := by
  have : ∀ (l : List Up) (a : Int), a ≤ 1099511627777 → l.foldl (fun a x => min a (x.last + p.wait)) a ≤ 1099511627777 := by
    intro l
    induction l with
    | nil => exact fun a h => h
    | cons x l ih => exact fun a h => ih _ (by show min _ _ ≤ _; omega)
  exact fun k => this _ _ (Int.le_refl _)

/-- The product in Due stays small. -/
theorem ks_bound {k e : Int} (hk : 0 ≤ k ∧ k ≤ 1099511627776) (he : 1 ≤ e ∧ e ≤ 1000) : 0 ≤ (k + 1) * e ∧ (k + 1) * e ≤ 1099511627777000 := by
  constructor
  · exact Int.mul_nonneg (by omega) (by omega)
  · calc (k + 1) * e ≤ 1099511627777 * e := Int.mul_le_mul_of_nonneg_right (by omega) (by omega)
      _ ≤ 1099511627777 * 1000 := Int.mul_le_mul_of_nonneg_left he.2 (by omega)
      _ = 1099511627777000 := by rfl

theorem due_close {P : Plan} {m c : Int} (HE : Hid (P.due = if 1099511627776 < max m (P.now + 1) then (0, false) else (max m (P.now + 1), true))) (hc : c = max m (P.now + 1)) :
    (1099511627776 < c → Ending.returned (.tuple #[.int .i64 0, .bool false]) = Ending.returned (.tuple #[.int .i64 P.due.1, .bool P.due.2])) ∧
    (c ≤ 1099511627776 → Ending.returned (.tuple #[.int .i64 c, .bool true]) = Ending.returned (.tuple #[.int .i64 P.due.1, .bool P.due.2])) := by
  subst hc
  constructor
  · intro h; rw [HE.out, if_pos h]
  · intro h; rw [HE.out, if_neg (by omega)]

set_option maxHeartbeats 1000000 in
theorem due_any (w : World) (b : Nat) (v : Value) (P : Plan) (hP : PlanAt w b v P) (hb : P.begun = true) (ok : P.Ok) :
    Calls Try.prog 20 #[.pointer (some ⟨b, 0, none⟩)] w fun e w' => e = .returned (.tuple #[.int .i64 P.due.1, .bool P.due.2]) ∧ Chg Nob w w' := by
  have h9 := hP.c9
  rw [hb] at h9
  have h0 := hP.c0
  have hlen := ok.len
  have hwait := ok.wait
  have htime := ok.time
  have hkb := ks_bound ok.ks ok.every
  have hups := Lib.hid ok.ups
  have hks := ok.ks
  have hev := ok.every
  clear hb
  have hform : ∃ a n cap, v = .slice a n cap ∧ n = P.l.length := by
    rcases hP.form with ⟨hv, h2⟩ | ⟨g, cap, hv, _⟩
    · exact ⟨_, _, _, hv, by simp [h2]⟩
    · exact ⟨_, _, _, hv, rfl⟩
  obtain ⟨a0, n0, cap0, hv0, hn0⟩ := hform
  subst hn0
  rw [hv0] at h0
  go_enter Try.func20, Try.ntmps20
  go_wp2
  go_loopw [4, 21] (fun n i wr => ∃ k : Nat, k ≤ P.l.length ∧ i = .int .i64 k ∧ n = .int .i64 (P.dueTo k) ∧ 0 ≤ P.dueTo k ∧ Chg Nob w wr) (fun _ i _ => P.l.length - (intOf i).toNat)
  case atStart => exact ⟨0, Nat.zero_le _, rfl, rfl, by unfold Plan.dueTo; simp, Chg.refl _ _⟩
  case round =>
    obtain ⟨k, hk, rfl, rfl, hd, hc⟩ := hrel
    have hPr := hP.chg hc (fun _ _ h => h)
    have hdl := P.dueTo_le k
    by_cases hlt : k < P.l.length
    · rcases hP.form with ⟨hv, h2⟩ | ⟨g, cap, hv, hcap, hcm, hgb⟩
      · simp [h2] at hlt
      have hx : P.l[k]? = some P.l[k] := List.getElem?_eq_getElem hlt
      have hm := hups.out P.l[k] (List.getElem_mem hlt)
      obtain ⟨hu0, hu1, hu2, hu3⟩ := hPr.up hv hx
      have h5 := hPr.c5
      have hbl := World.block_lt_of_cell? _ _ h5
      simp only at hbl
      have hs := Lib.hid (P.dueTo_succ hx)
      generalize P.l[k] = x at *
      obtain ⟨rfl, -, rfl⟩ : a0 = some ⟨g, 0, none⟩ ∧ True ∧ cap0 = cap := by rw [hv0] at hv; simpa using hv
      clear hx hv hv0
      by_cases ho : x.op = true
      · by_cases hm2 : x.last + P.wait < P.dueTo k
        · go_wp2
          go_region
          all_goals
            go_wp2
            refine ⟨⟨k + 1, by omega, by go_num, val_eq (by rw [hs.out, if_pos ho]; omega), ?_, (hc.alloc _).drew⟩, by simp [intOf]; omega⟩
            rw [hs.out, if_pos ho]; omega
        · go_wp2
          go_region
          all_goals
            go_wp2
            refine ⟨⟨k + 1, by omega, by go_num, val_eq (by rw [hs.out, if_pos ho]; omega), ?_, (hc.alloc _).drew⟩, by simp [intOf]; omega⟩
            rw [hs.out, if_pos ho]; omega
      · have ho' : x.op = false := by simpa using ho
        clear ho
        go_wp2
        exact ⟨⟨k + 1, by omega, by go_num, val_eq (by rw [hs.out, if_neg (by simp [ho'])]), by rw [hs.out, if_neg (by simp [ho'])]; exact hd, hc.alloc _⟩, by simp [intOf]; omega⟩
    · have hkl : k = P.l.length := by omega
      have e : P.due = (let a := if P.next < P.l.length then min (P.dueTo k) (P.start + (P.ks + 1) * P.every) else P.dueTo k
        let c := max a (P.now + 1)
        if 1099511627776 < c then (0, false) else (c, true)) := by rw [hkl]; rfl
      have HE := Lib.hid e
      clear e hkl
      have h0 := hPr.c0
      rw [hv0] at h0
      have h1 := hPr.c1
      have h4 := hPr.c4
      have h6 := hPr.c6
      have h7 := hPr.c7
      have h8 := hPr.c8
      clear hv0
      generalize P.dueTo k = d at *
      by_cases hnl : P.next < P.l.length
      · have hnl' : (P.next : Int) < (P.l.length : Int) := by omega
        by_cases hm : P.start + (P.ks + 1) * P.every < d
        · rw [if_pos hnl, Int.min_eq_right (by omega)] at HE
          go_wp2
          go_quiet (fail)
          go_wp2
          go_region
          all_goals go_wp2
          all_goals (try go_ret2)
          all_goals first
            | exact ⟨(due_close HE (c := max _ (P.now + 1)) rfl).1 (by omega), (hc.drewN _)⟩
            | exact ⟨(due_close HE (by omega)).2 (by omega), (hc.drewN _)⟩
        · rw [if_pos hnl, Int.min_eq_left (by omega)] at HE
          go_wp2
          go_quiet (fail)
          go_wp2
          go_region
          all_goals go_wp2
          all_goals (try go_ret2)
          all_goals first
            | exact ⟨(due_close HE (c := max _ (P.now + 1)) rfl).1 (by omega), (hc.drewN _)⟩
            | exact ⟨(due_close HE (by omega)).2 (by omega), (hc.drewN _)⟩
      · rw [if_neg hnl] at HE
        have hnl' : (P.l.length : Int) ≤ (P.next : Int) := by omega
        go_wp2
        go_quiet (fail)
        go_wp2
        all_goals (try go_ret2)
        all_goals first
          | exact ⟨(due_close HE (c := max _ (P.now + 1)) rfl).1 (by omega), (hc.drewN _)⟩
          | exact ⟨(due_close HE (by omega)).2 (by omega), (hc.drewN _)⟩
end Go.Proofs.Ytbpbhccgnfakiaa.Hg
