/- The small functions of package hedge, walked: to, ask, Left, Open, Asked, Close. -/
import Derived.Test.YtbpbhccgnfakiaaHgAt
namespace Go.Proofs.Ytbpbhccgnfakiaa.Hg
open Go.RowKit

theorem val_eq {k : IntKind} {a b : Int} (h : a = b) : Value.int k a = Value.int k b := by rw [h]
theorem ret_int {k : IntKind} {a b : Int} (h : a = b) : Ending.returned (.int k a) = Ending.returned (.int k b) := by rw [h]

theorem to_any (w : World) (b : Nat) (v : Value) (P : Plan) (t : Int) (hP : PlanAt w b v P) :
    Calls Try.prog 22 #[.pointer (some ⟨b, 0, none⟩), .int .i64 t] w fun e w' => e = .returned (.tuple #[]) ∧ PlanAt w' b v (P.to t) ∧ Chg (Only b) w w' := by
  have h7 := hP.c7
  have hf := hP.free 7
  go_enter Try.func22, Try.ntmps22
  go_wp2
  all_goals
    try go_end0
    exact ⟨rfl, hP.store rfl (by simp [Plan.cells, Plan.to]; omega), (Chg.refl (Only b) w).setCell (.inl (Only.self b)) _⟩

set_option maxHeartbeats 400000 in
theorem ask_any (w : World) (b : Nat) (v : Value) (P : Plan) (i : Nat) (x : Up) (hP : PlanAt w b v P) (hx : P.l[i]? = some x) (hl : P.l.length ≤ 9) (hn : 0 ≤ x.n ∧ x.n ≤ 4) (_hnx : P.next ≤ 9) :
    Calls Try.prog 23 #[.pointer (some ⟨b, 0, none⟩), .int .i64 i] w fun e w' => e = .returned (.int .i64 x.u) ∧ PlanAt w' b v (P.ask i) ∧ Chg (PlanS b v) w w' := by
  obtain ⟨hi, _⟩ := List.getElem?_eq_some_iff.1 hx
  rcases hP.form with ⟨_, h2⟩ | ⟨g, cap, hv, hcap, hcm, hgb⟩
  · simp [h2] at hx
  have hbg : b ≠ g := fun e => hgb e.symm
  obtain ⟨hu0, hu1, hu2, hu3⟩ := hP.up hv hx
  have hfu := hP.upFree hv
  have h0 := hP.c0
  rw [hv] at h0
  have h1 := hP.c1
  have h7 := hP.c7
  have hf := hP.free
  have HX := Lib.hid hx
  have HV := Lib.hid hv
  clear hx hv
  go_enter Try.func23, Try.ntmps23
  go_wp2
  go_region
  all_goals go_wp2
  all_goals
    go_ret
    exact ⟨rfl, (hP.asked HV.out HX.out (by omega)).chg ((Chg.refl Nob _).drew) (fun _ _ h => h), (PlanAt.askedS HV.out _ _ _ _ _).drew⟩

theorem left_any (w : World) (b : Nat) (v : Value) (P : Plan) (hP : PlanAt w b v P) (hl : P.l.length ≤ 9) (hnx : P.next ≤ P.l.length) :
    Calls Try.prog 11 #[.pointer (some ⟨b, 0, none⟩)] w fun e w' => e = .returned (.int .i64 ((P.l.length : Int) - P.next)) ∧ ∃ n, w' = w.drewN n := by
  have h0 := hP.c0
  have h1 := hP.c1
  rcases hP.form with ⟨hv, h2⟩ | ⟨g, cap, hv, hcap, hcm, hgb⟩
  · rw [hv] at h0
    have h3 : P.next = 0 := by simp [h2] at hnx; exact hnx
    rw [h3] at h1
    have h4 : P.l.length = 0 := by simp [h2]
    have H4 := Lib.hid h4
    have H3 := Lib.hid h3
    clear h2 hv h3 h4 hl hnx
    go_enter Try.func11, Try.ntmps11
    go_wp2
    go_quiet (fail)
    go_wp2
    go_ret
    exact ⟨by rw [H4.out, H3.out]; rfl, _, rfl⟩
  · rw [hv] at h0
    have hnx' : (P.next : Int) ≤ (P.l.length : Int) := by omega
    clear hv
    go_enter Try.func11, Try.ntmps11
    go_wp2
    go_quiet (fail)
    go_wp2
    go_ret
    exact ⟨rfl, _, rfl⟩

theorem below_new (w : World) (o : Obj) : Chg Nob w (w.alloc o) := (Chg.refl _ _).alloc _

/-- How many are open. -/
def openN (l : List Up) : Int := (l.filter (fun x => x.op)).length

theorem openN_snoc (l : List Up) (x : Up) : openN (l ++ [x]) = openN l + if x.op then 1 else 0 := by
  cases h : x.op <;> simp [openN, h]

theorem openN_le (l : List Up) : 0 ≤ openN l ∧ openN l ≤ l.length := by
  unfold openN; exact ⟨by omega, by have := List.length_filter_le (fun x : Up => x.op) l; omega⟩

set_option maxHeartbeats 400000 in
theorem open_any (w : World) (b : Nat) (v : Value) (P : Plan) (hP : PlanAt w b v P) (hl : P.l.length ≤ 9) :
    Calls Try.prog 10 #[.pointer (some ⟨b, 0, none⟩)] w fun e w' => e = .returned (.int .i64 (openN P.l)) ∧ Chg Nob w w' := by
  have h0 := hP.c0
  rcases hP.form with ⟨hv, h2⟩ | ⟨g, cap, hv, hcap, hcm, hgb⟩
  · rw [hv] at h0
    have H2 := Lib.hid h2
    clear h2 hv
    go_enter Try.func10, Try.ntmps10
    go_wp2
    go_rounds 1
    go_ret
    exact ⟨by rw [H2.out]; rfl, Chg.refl _ _⟩
  · rw [hv] at h0
    go_enter Try.func10, Try.ntmps10
    go_wp2
    go_loopw [3, 13] (fun n i wr => ∃ k : Nat, k ≤ P.l.length ∧ i = .int .i64 k ∧ n = .int .i64 (openN (P.l.take k)) ∧ Chg Nob w wr) (fun _ i _ => P.l.length - (intOf i).toNat)
    case atStart => exact ⟨0, Nat.zero_le _, rfl, rfl, Chg.refl _ _⟩
    case round =>
      obtain ⟨k, hk, rfl, rfl, hc⟩ := hrel
      have hb := openN_le (P.l.take k)
      have hb2 : (P.l.take k).length ≤ k := List.length_take_le _ _
      by_cases hlt : k < P.l.length
      · have hx : P.l[k]? = some P.l[k] := List.getElem?_eq_getElem hlt
        obtain ⟨hu0, hu1, hu2, hu3⟩ := (hP.chg hc (fun _ _ h => h)).up hv hx
        have hs := openN_snoc (P.l.take k) P.l[k]
        rw [← take_succ_some hx] at hs
        generalize P.l[k] = x at *
        have HS := Lib.hid hs
        have HX := Lib.hid hx
        have HV := Lib.hid hv
        clear hs hx hv
        go_wp2
        · exact ⟨⟨k + 1, by omega, by go_num, val_eq (by rw [HS.out, if_pos ‹_›]), hc.alloc _⟩, by simp [intOf]; omega⟩
        · exact ⟨⟨k + 1, by omega, by go_num, val_eq (by rw [HS.out, if_neg (by simp [*])]; omega), hc.alloc _⟩, by simp [intOf]; omega⟩
      · go_wp2
        go_ret
        exact ⟨ret_int (by rw [List.take_of_length_le (by omega)]), hc⟩

def askedN (l : List Up) (u : Int) : Int := match l.find? (fun x => x.u == u) with | some x => x.n | none => 0

theorem find_step {α : Type} {p : α → Bool} {l : List α} {k : Nat} {x : α} (h : (l.take k).find? p = none) (hx : l[k]? = some x) :
    (p x = true → l.find? p = some x) ∧ (p x = false → (l.take (k + 1)).find? p = none) := by
  constructor
  · intro hp
    have e : l = l.take k ++ x :: l.drop (k + 1) := by rw [← drop_some hx, List.take_append_drop]
    rw [e, List.find?_append, h]
    simp [hp]
  · intro hp
    rw [take_succ_some hx, List.find?_append, h]
    simp [hp]

set_option maxHeartbeats 400000 in
theorem asked_any (w : World) (b : Nat) (v : Value) (P : Plan) (u : Int) (hP : PlanAt w b v P) (hl : P.l.length ≤ 9) :
    Calls Try.prog 15 #[.pointer (some ⟨b, 0, none⟩), .int .i64 u] w fun e w' => e = .returned (.int .i64 (askedN P.l u)) ∧ Chg Nob w w' := by
  have h0 := hP.c0
  rcases hP.form with ⟨hv, h2⟩ | ⟨g, cap, hv, hcap, hcm, hgb⟩
  · rw [hv] at h0
    have H2 := Lib.hid h2
    clear h2 hv
    go_enter Try.func15, Try.ntmps15
    go_wp2
    go_rounds 1
    go_ret
    exact ⟨by rw [H2.out]; rfl, Chg.refl _ _⟩
  · rw [hv] at h0
    go_enter Try.func15, Try.ntmps15
    go_wp2
    go_loopw [14] (fun i wr => ∃ k : Nat, k ≤ P.l.length ∧ i = .int .i64 k ∧ Hid ((P.l.take k).find? (fun x => x.u == u) = none) ∧ Chg Nob w wr) (fun i _ => P.l.length - (intOf i).toNat)
    case atStart => exact ⟨0, Nat.zero_le _, rfl, rfl, Chg.refl _ _⟩
    case round =>
      obtain ⟨k, hk, rfl, hf, hc⟩ := hrel
      by_cases hlt : k < P.l.length
      · have hx : P.l[k]? = some P.l[k] := List.getElem?_eq_getElem hlt
        obtain ⟨hu0, hu1, hu2, hu3⟩ := (hP.chg hc (fun _ _ h => h)).up hv hx
        have hs := Lib.hid (find_step hf.out hx)
        generalize P.l[k] = x at *
        have HX := Lib.hid hx
        have HV := Lib.hid hv
        clear hx hv
        by_cases he : x.u = u
        · have he' : (x.u == u) = true := by simpa using he
          have hret : askedN P.l u = x.n := by unfold askedN; rw [hs.out.1 he']
          have HR := Lib.hid hret
          clear he hret
          go_wp2
          go_ret
          exact ⟨ret_int HR.out.symm, hc.alloc _⟩
        · have he' : (x.u == u) = false := by simpa using he
          clear he
          go_wp2
          exact ⟨⟨k + 1, by omega, by go_num, hs.out.2 he', hc.alloc _⟩, by simp [intOf]; omega⟩
      · go_wp2
        go_ret
        refine ⟨ret_int ?_, hc⟩
        have := hf.out
        rw [List.take_of_length_le (by omega)] at this
        unfold askedN; rw [this]

def Plan.close (p : Plan) (u : Int) : Bool × Plan :=
  match p.l.findIdx? (fun x => x.u == u && x.op) with
  | some i => (true, { p with l := p.l.modify i Up.shut })
  | none => (false, p)

theorem findIdx_step {α : Type} {p : α → Bool} {l : List α} {k : Nat} {x : α} (h : (l.take k).findIdx? p = none) (hx : l[k]? = some x) :
    (p x = true → l.findIdx? p = some k) ∧ (p x = false → (l.take (k + 1)).findIdx? p = none) := by
  obtain ⟨hk, _⟩ := List.getElem?_eq_some_iff.1 hx
  constructor
  · intro hp
    have e : l = l.take k ++ x :: l.drop (k + 1) := by rw [← drop_some hx, List.take_append_drop]
    rw [e, List.findIdx?_append, h]
    simp [List.findIdx?_cons, hp]
    omega
  · intro hp
    rw [take_succ_some hx, List.findIdx?_append, h]
    simp [List.findIdx?_cons, hp]

set_option maxHeartbeats 400000 in
theorem close_any (w : World) (b : Nat) (v : Value) (P : Plan) (u : Int) (hP : PlanAt w b v P) (hl : P.l.length ≤ 9) :
    Calls Try.prog 13 #[.pointer (some ⟨b, 0, none⟩), .int .i64 u] w fun e w' => e = .returned (.bool (P.close u).1) ∧ PlanAt w' b v (P.close u).2 ∧ Chg (PlanS b v) w w' := by
  have h0 := hP.c0
  rcases hP.form with ⟨hv, h2⟩ | ⟨g, cap, hv, hcap, hcm, hgb⟩
  · rw [hv] at h0
    have H2 := Lib.hid h2
    clear h2 hv
    go_enter Try.func13, Try.ntmps13
    go_wp2
    go_rounds 1
    go_ret
    have e : P.close u = (false, P) := by unfold Plan.close; rw [H2.out]; rfl
    rw [e]
    exact ⟨rfl, hP, Chg.refl _ _⟩
  · rw [hv] at h0
    go_enter Try.func13, Try.ntmps13
    go_wp2
    go_loopw [14] (fun i wr => ∃ k : Nat, k ≤ P.l.length ∧ i = .int .i64 k ∧ Hid ((P.l.take k).findIdx? (fun x => x.u == u && x.op) = none) ∧ Chg Nob w wr) (fun i _ => P.l.length - (intOf i).toNat)
    case atStart => exact ⟨0, Nat.zero_le _, rfl, rfl, Chg.refl _ _⟩
    case round =>
      obtain ⟨k, hk, rfl, hf, hc⟩ := hrel
      have hPr := hP.chg hc (fun _ _ h => h)
      by_cases hlt : k < P.l.length
      · have hx : P.l[k]? = some P.l[k] := List.getElem?_eq_getElem hlt
        obtain ⟨hu0, hu1, hu2, hu3⟩ := hPr.up hv hx
        have hfr := hPr.upFree hv
        have h0r := hPr.c0
        rw [hv] at h0r
        have hgl := World.block_lt_of_cell? _ _ hu0
        have hbl := World.block_lt_of_cell? _ _ h0r
        simp only at hgl hbl
        have hs := Lib.hid (findIdx_step hf.out hx)
        generalize P.l[k] = x at *
        have HX := Lib.hid hx
        have HV := Lib.hid hv
        clear hx hv
        by_cases he : x.u = u
        · have he' : (x.u == u) = true := by simpa using he
          by_cases ho : x.op = true
          · have hret : P.close u = (true, { P with l := P.l.modify k Up.shut }) := by unfold Plan.close; rw [hs.out.1 (by simp [he', ho])]
            have HR := Lib.hid hret
            clear he hret
            go_wp2
            go_ret
            rw [HR.out]
            have h1 := hPr.storeUp HV.out HX.out (k := 3) (by omega) x.shut rfl rfl
            rw [modify_const HX.out Up.shut] at h1
            refine ⟨rfl, h1.chg (below_new _ _) (fun _ _ h => h), ?_⟩
            exact ((hc.mono (fun _ _ h => h.no)).setCell (.inl (.inr (by rw [HV.out]; rfl))) _).alloc _
          · have ho' : x.op = false := by simpa using ho
            clear he ho
            go_wp2
            exact ⟨⟨k + 1, by omega, by go_num, hs.out.2 (by simp [ho']), hc.alloc _⟩, by simp [intOf]; omega⟩
        · have he' : (x.u == u) = false := by simpa using he
          clear he
          go_wp2
          exact ⟨⟨k + 1, by omega, by go_num, hs.out.2 (by simp [he']), hc.alloc _⟩, by simp [intOf]; omega⟩
      · go_wp2
        go_ret
        have e : P.close u = (false, P) := by
          have := hf.out
          rw [List.take_of_length_le (by omega)] at this
          unfold Plan.close; rw [this]
        rw [e]
        exact ⟨rfl, hPr, hc.mono (fun _ _ h => h.no)⟩

end Go.Proofs.Ytbpbhccgnfakiaa.Hg
