/- Package hedge, walked: Begin. -/
import Derived.Test.YtbpbhccgnfakiaaHgWalkB
namespace Go.Proofs.Ytbpbhccgnfakiaa.Hg
open Go.RowKit

theorem infoInt : (Try.prog.info? 3).map (fun i => (i.zero, i.size, i.bytes)) = some (some (.int .i64 0), 1, 8) := by kernel_rfl

/-- A list of integers as values. -/
abbrev ints (l : List Int) : List Value := l.map (Value.int .i64)

/-- append(out, u) of one integer, to a slice of the call's own. -/
theorem app_int {ops : Array Oper} {rest : List Oper} {o : Oper} {a : Act} {Q : Exit → Act → World → Prop} (w : World) (hgd : o.guard = none) (s x : Operand)
    (ho : o.op = .call { callee := .builtin .append, args := #[s, x], argTypes := #[22, 22] })
    (base : Nat) (v : Value) (l : List Int) (hs : a.eval s = v) (hown : w.ownsRow base 3 1 v l.length (ints l))
    (ad : Addr) (c : Nat) (u : Int) (hx : a.eval x = .slice (some ad) 1 c) (hcell : w.cell? ad = some (.int .i64 u)) (hn : l.length ≤ 1000) (hbase : base ≤ w.heap.size)
    (h : ∀ v' w', w'.ownsRow base 3 1 v' (l ++ [u]).length (ints (l ++ [u])) → w.grownBy w' v.ownBlock → Stays w v v' → wpList Try.prog ops Q rest (a.put o.dst v') w') : wpList Try.prog ops Q (o :: rest) a w := by
  obtain ⟨i0, hi, hz0, hz1, hz2⟩ := info_parts infoInt
  refine wpList_append_own2 w hgd s x 22 ho base 3 i0 (.int .i64 0) 1 8 Try.underlying22 hi hz0 hz1 hz2 rfl (by decide) v l.length (ints l) hs hown ad 1 c [.int .i64 u] hx rfl ?_ ?_ ?_ ?_ hbase ?_
  · intro j y hj
    cases j with
    | zero => simp at hj; subst hj; simpa [Addr.add] using hcell
    | succ j => simp at hj
  · intro y hy; simp at hy; subst hy; rfl
  · unfold maxLen; omega
  · omega
  · intro v' w' h1 h2 h3
    refine h v' w' ?_ h2 h3
    simpa using h1

def Plan.beg (p : Plan) (k : Nat) : Plan := { p with begun := true, l := (p.l.take k).map (fun x => x.ask p.now) ++ p.l.drop k, next := k }
def Plan.firsts (p : Plan) (k : Nat) : List Int := (p.l.take k).map (fun x => x.u)

theorem Plan.beg_len (p : Plan) (k : Nat) : (p.beg k).l.length = p.l.length := by simp [Plan.beg]; omega

theorem Plan.beg_get (p : Plan) {i : Nat} {x : Up} (h : p.l[i]? = some x) : (p.beg i).l[i]? = some x := by
  obtain ⟨hi, rfl⟩ := List.getElem?_eq_some_iff.1 h
  simp [Plan.beg, List.getElem?_append_right, Nat.min_eq_left (Nat.le_of_lt hi), hi]

theorem Plan.beg_succ (p : Plan) {i : Nat} {x : Up} (h : p.l[i]? = some x) : (p.beg i).ask i = p.beg (i + 1) := by
  obtain ⟨hi, _⟩ := List.getElem?_eq_some_iff.1 h
  simp only [Plan.beg, Plan.ask, take_succ_some h, drop_some h]
  rw [modify_at _ _ _ _ _ (by simp; omega)]
  simp

theorem Plan.firsts_succ (p : Plan) {i : Nat} {x : Up} (h : p.l[i]? = some x) : p.firsts (i + 1) = p.firsts i ++ [x.u] := by
  simp [Plan.firsts, take_succ_some h]

theorem Plan.firsts_len (p : Plan) (k : Nat) (h : k ≤ p.l.length) : (p.firsts k).length = k := by simp [Plan.firsts]; omega

set_option maxHeartbeats 1000000 in
theorem begin_any (w : World) (b : Nat) (v : Value) (P : Plan) (m : Nat) (hP : PlanAt w b v P) (hb : P.begun = false) (hn0 : P.next = 0) (hl : P.l.length ≤ 9) (hev : 1 ≤ P.every) (hwant : 1 ≤ P.want ∧ P.want ≤ 9)
    (hm : (m : Int) = min (P.l.length : Int) P.want) (hups : ∀ x ∈ P.l, 0 ≤ x.n ∧ x.n ≤ 4) :
    Calls Try.prog 19 #[.pointer (some ⟨b, 0, none⟩)] w fun e w' => ∃ out, e = .returned out ∧ w'.ownsRow w.heap.size 3 1 out (P.firsts m).length (ints (P.firsts m)) ∧ PlanAt w' b v (P.beg m) ∧ Chg (PlanS b v) w w' := by
  have h9 := hP.c9
  rw [hb] at h9
  have hf := hP.free
  have h4 := hP.c4
  have hev0 : (P.every == 0) = false := by simp; omega
  clear hb
  have HM := Lib.hid hm
  have HU := Lib.hid hups
  have hB0 : P.beg 0 = { P with begun := true } := by unfold Plan.beg; simp [hn0]
  have HB0 := Lib.hid hB0
  clear hm hups hB0 hn0
  go_enter Try.func19, Try.ntmps19
  go_wp2_with fail
  have hP0 : PlanAt (w.setCell ⟨b, 9, none⟩ (.bool true)) b v (P.beg 0) := by
    rw [HB0.out]; exact hP.store rfl (by simp [Plan.cells])
  have hC0 : Chg (PlanS b v) w (w.setCell ⟨b, 9, none⟩ (.bool true)) := (Chg.refl (PlanS b v) w).setCell (.inl (.inl rfl)) _
  clear h9 h4
  generalize (w.setCell ⟨b, 9, none⟩ (.bool true)) = w1 at *
  go_loopg [2] m (fun g out wr => ∃ k : Nat, k + g = m ∧ PlanAt wr b v (P.beg k) ∧ wr.ownsRow w.heap.size 3 1 out (P.firsts k).length (ints (P.firsts k)) ∧ Chg (PlanS b v) w wr)
  case atStart => exact ⟨0, by omega, hP0, World.ownsRow_nil _ _ _ _, hC0⟩
  case round =>
    obtain ⟨k, hk, hPk, hown, hC⟩ := hrel
    have h0 := hPk.c0
    have h1 := hPk.c1
    have h2 := hPk.c2
    have hln := P.beg_len k
    obtain ⟨a0, cap, hv⟩ : ∃ a0 cap, v = .slice a0 P.l.length cap := by
      rcases hPk.form with ⟨hv, h2⟩ | ⟨g, cap, hv, _⟩
      · rw [h2] at hln; exact ⟨_, _, by rw [← hln]; exact hv⟩
      · rw [hln] at hv; exact ⟨_, _, hv⟩
    rw [hv] at h0
    have h1' : wr.cell? ⟨b, 1, none⟩ = some (.int .i64 k) := h1
    have h2' : wr.cell? ⟨b, 2, none⟩ = some (.int .i64 P.want) := h2
    have HV := Lib.hid hv
    have HL := Lib.hid hln
    clear hv hln h1 h2
    have hkm : k ≤ m := by omega
    have hml : m ≤ P.l.length := by have := HM.out; omega
    by_cases hlt : k < m
    · have hx : P.l[k]? = some P.l[k] := List.getElem?_eq_getElem (by omega)
      have hxm := HU.out P.l[k] (List.getElem_mem (by omega))
      generalize P.l[k] = x at *
      have HX := Lib.hid hx
      clear hx
      have t1 : (k : Int) < (P.l.length : Int) := by omega
      have t2 : (k : Int) < P.want := by have := HM.out; omega
      go_wp2_with fail
      go_region
      all_goals (go_wp2_with fail)
      all_goals
        have hPd : PlanAt wr.drew b v (P.beg k) := hPk.chg ((Chg.refl Nob wr).drew) (fun _ _ h => h)
        refine (ask_any _ b v (P.beg k) k x hPd (P.beg_get HX.out) (by rw [HL.out]; exact hl) hxm (by show k ≤ 9; omega)).mono ?_
        rintro e w2 ⟨rfl, hP2, hC2⟩
        rw [P.beg_succ HX.out] at hP2
        have hown2 : w2.ownsRow w.heap.size 3 1 u2 (P.firsts k).length (ints (P.firsts k)) := by
          refine hC2.own (w := wr.drew) hown (fun j hj hs => ?_)
          have := hown.lt j hj
          rcases hs with h | h
          · have := lt_of_block hP.blk; unfold Only at *; omega
          · have := hP.own.lt j h; omega
        have hC3 : Chg (PlanS b v) w w2 := hC.drew.trans hC2
        have hFL := P.firsts_len k (by omega)
        go_wp2_with (at_builtin; refine app_int _ rfl _ _ rfl w.heap.size u2 (P.firsts k) rfl (hown2.alloc _) ⟨w2.heap.size, 0, none⟩ 1 x.u rfl (by simp) (by omega) (by have := hC3.size; simp; omega) ?_; intro v' w3 hown3 hgr3 _)
        rw [← P.firsts_succ HX.out] at hown3
        have hC4 : Chg (PlanS b v) w w3 := (hC3.alloc _).grown hgr3 (fun j hj => .inr (hown.lt j hj).1)
        have hP3 : PlanAt w3 b v (P.beg (k + 1)) := hP2.chg (((Chg.refl (fun j => u2.ownBlock = some j) w2).alloc _).grown hgr3 (fun j hj => .inl hj)) (fun j hs hj => by
          have := hown.lt j hj
          rcases hs with h | h
          · have := lt_of_block hP.blk; omega
          · have := hP.own.lt j h; omega)
        go_roundg (gk - 1)
        case measure => omega
        case rel => exact ⟨k + 1, by omega, hP3, hown3, hC4⟩
    · have t3 : ¬ ((k : Int) < (P.l.length : Int) ∧ (k : Int) < P.want) := by have := HM.out; omega
      have hkm : k = m := by omega
      have HK := Lib.hid hkm
      clear hkm
      go_wp2_with fail
      go_region
      all_goals (go_wp2_with fail)
      all_goals
        go_ret
        have e := HK.out
        subst e
        exact ⟨u2, rfl, hown, hPk.chg ((Chg.refl Nob wr).drew) (fun _ _ h => h), hC.drew⟩
end Go.Proofs.Ytbpbhccgnfakiaa.Hg
