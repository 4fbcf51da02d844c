/- HedgeRow, walked. -/
import Derived.Test.YtbpbhccgnfakiaaHgSent
import Derived.Test.YtbpbhccgnfakiaaHgAwake
import Derived.Test.YtbpbhccgnfakiaaHgOpen
import Derived.Test.YtbpbhccgnfakiaaHgRowQ
import Derived.Deep.CutBlock
import Derived.IntWalk
namespace Go.Proofs.Ytbpbhccgnfakiaa.Hg
open Go.RowKit

/-- append(l, m...), both rows of integers; the second one lies somewhere. -/
theorem app_ints {ops : Array Oper} {rest : List Oper} {o : Oper} {a : Act} {Q : Exit → Act → World → Prop} (w : World) (hgd : o.guard = none) (s x : Operand)
    (ho : o.op = .call { callee := .builtin .append, args := #[s, x], argTypes := #[22, 22] })
    (base : Nat) (v : Value) (l : List Int) (hs : a.eval s = v) (hown : w.ownsRow base 3 1 v l.length (ints l))
    (b off : Nat) (c : Nat) (u : List Int) (hx : a.eval x = .slice (some ⟨b, off, none⟩) u.length c) (hcell : ∀ (j : Nat) (y : Int), u[j]? = some y → w.cell? ⟨b, off + j, none⟩ = some (.int .i64 y)) (hn : l.length + u.length ≤ 1000) (hbase : base ≤ w.heap.size)
    (h : ∀ v' w', w'.ownsRow base 3 1 v' (l ++ u).length (ints (l ++ u)) → w.grownBy w' v.ownBlock → Stays w v v' → wpList Try.prog ops Q rest (a.put o.dst v') w') : wpList Try.prog ops Q (o :: rest) a w := by
  obtain ⟨i0, hi, hz0, hz1, hz2⟩ := info_parts infoInt
  refine wpList_append_own2 w hgd s x 22 ho base 3 i0 _ 1 8 Try.underlying22 hi hz0 hz1 hz2 rfl (by decide) v l.length (ints l) hs hown ⟨b, off, none⟩ u.length c (ints u) hx (by simp) ?_ ?_ ?_ ?_ hbase ?_
  · intro j y hj
    rw [show ((⟨b, off, none⟩ : Addr).add j) = ⟨b, off + j, none⟩ by unfold Addr.add; split <;> simp_all]
    rw [List.getElem?_map] at hj
    cases hu : u[j]? with
    | none => rw [hu] at hj; cases hj
    | some z =>
      rw [hu] at hj
      simp at hj
      rw [← hj]
      exact hcell j z hu
  · intro y hy
    obtain ⟨z, _, rfl⟩ := List.mem_map.1 hy
    rfl
  · unfold maxLen; omega
  · omega
  · intro v' w' h1 h2 h3
    refine h v' w' ?_ h2 h3
    simpa [ints] using h1

/-- What the walk's blocks are: numbers in a row. bp: the plan's box; bt: times; bo: over; bf: first's box. -/
structure RLay (W : World) (b : Nat) (v : Value) (bp bt bo base bf : Nat) (lst : Value) : Prop where
  p : ∀ j, PlanS b v j → bp < j ∧ j < bt
  l : ∀ k, lst.ownBlock = some k → k < bp
  n1 : W.heap.size ≤ bp
  n2 : bp < bt
  n3 : bo = bt + 1
  n4 : base = bt + 2
  n5 : base ≤ bf

/-- What is so at each step. -/
structure RSt (W : World) (b : Nat) (v : Value) (bp bt bo base bf : Nat) (lst : Value) (r : Raw) (P : Plan) (Tm Ov fs : List Int) (fv : Value) (w : World) : Prop where
  plan : PlanAt w b v P
  book : Book base bo bt bf bp lst r Ov Tm fs fv w
  list : IntsAt w lst r.l
  fv : ∀ k, fv.ownBlock = some k → base ≤ k ∧ k ≠ bf
  chg : Chg Nob W w

section
variable {W : World} {b : Nat} {v : Value} {bp bt bo base bf : Nat} {lst : Value} {r : Raw} {P : Plan} {Tm Ov fs : List Int} {fv : Value} {w : World}

theorem RSt.apart (h : RSt W b v bp bt bo base bf lst r P Tm Ov fs fv w) (lay : RLay W b v bp bt bo base bf lst) : Apart4 bo bt bf bp fv := by
  obtain ⟨_, _, _, n2, n3, n4, n5⟩ := lay
  exact ⟨⟨by omega, by omega, by omega, by omega, by omega, by omega⟩, fun k hk => by have := h.fv k hk; exact ⟨by omega, by omega, by omega, by omega⟩⟩

theorem RSt.tick {P' : Plan} {w' : World} (h : RSt W b v bp bt bo base bf lst r P Tm Ov fs fv w) (lay : RLay W b v bp bt bo base bf lst) (hp : PlanAt w' b v P') (hc : Chg (PlanS b v) w w') :
    RSt W b v bp bt bo base bf lst r P' Tm Ov fs fv w' := by
  obtain ⟨lp, ll, n1, n2, n3, n4, n5⟩ := lay
  exact ⟨hp, h.book.chg hc (fun e => by have := lp _ e; omega) (fun e => by have := lp _ e; omega) (fun e => by have := lp _ e; omega) (fun e => by have := lp _ e; omega) (fun k hk e => by have := lp _ e; have := h.fv k hk; omega),
    h.list.chg hc (fun k hk e => by have := lp _ e; have := ll k hk; omega), h.fv, h.chg.trans' hc (fun j hj => .inr (by have := lp _ hj; omega))⟩

theorem RSt.nob {w' : World} (h : RSt W b v bp bt bo base bf lst r P Tm Ov fs fv w) (hc : Chg Nob w w') : RSt W b v bp bt bo base bf lst r P Tm Ov fs fv w' :=
  ⟨h.plan.chg hc (fun _ _ h => h), h.book.chg hc (fun h => h) (fun h => h) (fun h => h) (fun h => h) (fun _ _ h => h), h.list.nob hc, h.fv, h.chg.trans hc⟩

theorem RSt.setT (h : RSt W b v bp bt bo base bf lst r P Tm Ov fs fv w) (lay : RLay W b v bp bt bo base bf lst) (i : Nat) (x : Int) :
    RSt W b v bp bt bo base bf lst r P (Tm.set i x) Ov fs fv (w.setCell ⟨bt, i, Option.none⟩ (.int .i64 x)) := by
  have ha := h.apart lay
  obtain ⟨lp, ll, n1, n2, n3, n4, n5⟩ := lay
  have hc : Chg (Only bt) w (w.setCell ⟨bt, i, Option.none⟩ (.int .i64 x)) := Chg.setCell (p := ⟨bt, i, Option.none⟩) (Chg.refl (Only bt) w) (.inl (Only.self bt)) _
  exact ⟨h.plan.chg hc (fun j hj e => by have := lp j hj; have : j = bt := e; omega), h.book.setT ha i x, h.list.chg hc (fun k hk e => by have := ll k hk; have : k = bt := e; omega), h.fv, h.chg.setCell (p := ⟨bt, i, Option.none⟩) (.inr (by show W.heap.size ≤ bt; omega)) _⟩

theorem RSt.setO (h : RSt W b v bp bt bo base bf lst r P Tm Ov fs fv w) (lay : RLay W b v bp bt bo base bf lst) (i : Nat) (x : Int) :
    RSt W b v bp bt bo base bf lst r P Tm (Ov.set i x) fs fv (w.setCell ⟨bo, i, Option.none⟩ (.int .i64 x)) := by
  have ha := h.apart lay
  obtain ⟨lp, ll, n1, n2, n3, n4, n5⟩ := lay
  have hc : Chg (Only bo) w (w.setCell ⟨bo, i, Option.none⟩ (.int .i64 x)) := Chg.setCell (p := ⟨bo, i, Option.none⟩) (Chg.refl (Only bo) w) (.inl (Only.self bo)) _
  exact ⟨h.plan.chg hc (fun j hj e => by have := lp j hj; have : j = bo := e; omega), h.book.setO ha i x, h.list.chg hc (fun k hk e => by have := ll k hk; have : k = bo := e; omega), h.fv, h.chg.setCell (p := ⟨bo, i, Option.none⟩) (.inr (by show W.heap.size ≤ bo; omega)) _⟩

theorem RSt.sent {Tm' fs' : List Int} {fv' : Value} {w' : World} (h : RSt W b v bp bt bo base bf lst r P Tm Ov fs fv w) (lay : RLay W b v bp bt bo base bf lst)
    (hB : Book base bo bt bf bp lst r Ov Tm' fs' fv' w') (hs : Stays w fv fv') (hc : Chg (fun j => j = bt ∨ j = bf ∨ fv.ownBlock = some j) w w') :
    RSt W b v bp bt bo base bf lst r P Tm' Ov fs' fv' w' := by
  have hm := h.book.mem
  obtain ⟨lp, ll, n1, n2, n3, n4, n5⟩ := lay
  have hno : ∀ j, j < bt → ¬ (j = bt ∨ j = bf ∨ fv.ownBlock = some j) := by
    rintro j hj (e | e | e)
    · omega
    · omega
    · have := h.fv j e; omega
  refine ⟨h.plan.chg hc (fun j hj => hno j (lp j hj).2), hB, h.list.chg hc (fun k hk => hno k (by have := ll k hk; omega)), fun k hk => ?_, h.chg.trans' hc (fun j hj => .inr ?_)⟩
  · rcases hs with e | e
    · rw [e] at hk; exact h.fv k hk
    · have := e k hk; omega
  · rcases hj with e | e | e
    · omega
    · omega
    · have := h.fv j e; omega
end

theorem IntsAt.take_ {w : World} {pa : Option Addr} {n pc : Nat} {l : List Int} (h : IntsAt w (.slice pa n pc) l) {k : Nat} (hk : k ≤ l.length) : IntsAt w (.slice pa k pc) (l.take k) := by
  obtain ⟨a, c, e, hc, h⟩ := h
  injection e with e1 e2 e3
  subst e1
  subst e3
  refine ⟨pa, pc, by rw [List.length_take, Nat.min_eq_left hk], by rw [List.length_take]; omega, ?_⟩
  rcases h with h | ⟨b', off, h1, h2⟩
  · exact .inl (by rw [h, List.take_nil])
  · refine .inr ⟨b', off, h1, fun i x hx => h2 i x ?_⟩
    rw [List.getElem?_take] at hx
    split at hx
    · exact hx
    · cases hx

theorem own_empty {w : World} {base g : Nat} (h : w.heap[g]? = some (.cells #[] 3 (0, 0))) (hb : base ≤ g) : w.ownsRow base 3 1 (.slice (some ⟨g, 0, Option.none⟩) 0 0) ([] : List Int).length (ints []) :=
  ⟨rfl, .inr ⟨g, 0, #[], rfl, hb, h, Nat.le_refl _, by unfold maxLen; omega, rfl, rfl⟩⟩

set_option maxRecDepth 100000 in
set_option maxHeartbeats 20000000 in
theorem row_any (W : World) (rv lv : Value) (R : List Int) (x1 x2 x3 x4 x5 : Int) (l : List Turn) (hR : IntsAt W rv R) (hRl : R.length ≤ 9223372036854775807) (hl : TurnsAt W lv l) :
    Calls Try.prog 4 #[.agg #[rv, .int .i64 x1, .int .i64 x2, .int .i64 x3, .int .i64 x4, .int .i64 x5], lv] W fun e w' => e = .returned (.bool true) ∧ Chg Nob W w' := by
  obtain ⟨la, lc, rfl, hlm, hlo, hlc⟩ := hl
  obtain ⟨n, hn⟩ : ∃ n, n = l.length := ⟨_, rfl⟩
  have HF := Lib.hid (fun o => fit_any (W.alloc o) rv R x1 x2 x3 x4 x5 (hR.nob ((Chg.refl Nob W).alloc o)) hRl)
  have HL := Lib.hid hlc
  have HLO := Lib.hid hlo
  rw [← hn]
  rw [← hn] at hlm
  have HN := Lib.hid hn
  clear hn hlc hlo
  by_cases hbig : n ≤ 60
  · have d1 : decide ((60 : Int) < (n : Int)) = false := by simp; omega
    have d1' : ¬ (60 : Int) < (n : Int) := by omega
    go_enter Try.func4, Try.ntmps4
    go_wp2_with fail
    refine (HF.out _).mono ?_
    rintro e w1 ⟨pv, r, rfl, hown1, hr, hC1⟩
    obtain ⟨pa, pc, hpv, hpc⟩ := own_form hown1
    subst hpv
    unfold Raw.cells
    go_wp2_with fail
    refine (awake_any _).mono ?_
    rintro e w2 ⟨rfl, hC2⟩
    have hpb := hC2.heap (alloc_new w1 _) (fun h => h)
    have k0 : w2.cell? ⟨w1.heap.size, 0, none⟩ = some (.slice pa r.l.length pc) := cell_blk hpb 0
    have k1 : w2.cell? ⟨w1.heap.size, 1, none⟩ = some (.int .i64 r.want) := cell_blk hpb 1
    have k2 : w2.cell? ⟨w1.heap.size, 2, none⟩ = some (.int .i64 r.every) := cell_blk hpb 2
    have k3 : w2.cell? ⟨w1.heap.size, 3, none⟩ = some (.int .i64 r.wait) := cell_blk hpb 3
    have k4 : w2.cell? ⟨w1.heap.size, 4, none⟩ = some (.int .i64 r.tries) := cell_blk hpb 4
    have k5 : w2.cell? ⟨w1.heap.size, 5, none⟩ = some (.int .i64 r.now) := cell_blk hpb 5
    have hI1 := IntsAt.of_own hown1
    have hlb1 : ∀ k, (Value.slice pa r.l.length pc).ownBlock = some k → k < w1.heap.size := fun k hk => (hown1.lt k hk).2
    have hCW : Chg Nob W w1 := ((Chg.refl Nob W).alloc _).trans hC1
    have hC12 : Chg Nob w1 w2 := ((Chg.refl Nob w1).alloc _).trans hC2
    go_wp2_with fail
    refine (begun_any w2 (.slice pa r.l.length pc) r (hI1.nob hC12) (fun k hk => Nat.lt_of_lt_of_le (hlb1 k hk) hC12.size) hr).mono ?_
    rintro e w3 ⟨b, v, rfl, hgb, hP3, hv3, hC3⟩
    have hpb3 := hC3.heap hpb (fun h => h)
    have m0 : w3.cell? ⟨w1.heap.size, 0, none⟩ = some (.slice pa r.l.length pc) := cell_blk hpb3 0
    have m1 : w3.cell? ⟨w1.heap.size, 1, none⟩ = some (.int .i64 r.want) := cell_blk hpb3 1
    have hmn : ∃ m, m = r.m := ⟨_, rfl⟩
    obtain ⟨m, hm⟩ := hmn
    have hmv : (m : Int) = min (r.l.length : Int) r.want := by have := hr.want; rw [hm]; unfold Raw.m; omega
    obtain ⟨hw0, hw1⟩ := hr.want
    have hl9 := hr.len
    have HM := Lib.hid hm
    clear hm
    go_upto_region 8 with fail
    have hml : (m : Int) ≤ (r.l.length : Int) := by omega
    have hmc : (m : Int) ≤ (pc : Int) := by omega
    have hm0 : (0 : Int) ≤ (m : Int) := by omega
    have hX : Chg Nob w3 (((w3.alloc (.cells #[.int .i64 0, .int .i64 0, .int .i64 0, .int .i64 0, .int .i64 0, .int .i64 0, .int .i64 0, .int .i64 0, .int .i64 0] 35)).alloc (.cells #[.int .i64 0, .int .i64 0, .int .i64 0, .int .i64 0, .int .i64 0, .int .i64 0, .int .i64 0, .int .i64 0, .int .i64 0] 35)).alloc (.cells #[] 3)) := (((Chg.refl Nob w3).alloc _).alloc _).alloc _
    have e0 := hX.cell m0 (fun h => h)
    have e1 := hX.cell m1 (fun h => h)
    have hE : (((w3.alloc (.cells #[.int .i64 0, .int .i64 0, .int .i64 0, .int .i64 0, .int .i64 0, .int .i64 0, .int .i64 0, .int .i64 0, .int .i64 0] 35)).alloc (.cells #[.int .i64 0, .int .i64 0, .int .i64 0, .int .i64 0, .int .i64 0, .int .i64 0, .int .i64 0, .int .i64 0, .int .i64 0] 35)).alloc (.cells #[] 3)).ownsRow (w3.heap.size + 2) 3 1 (.slice (some ⟨w3.heap.size + 1 + 1, 0, none⟩) 0 0) ([] : List Int).length (ints []) := by
      refine own_empty ?_ (by omega)
      have := alloc_new ((w3.alloc (.cells #[.int .i64 0, .int .i64 0, .int .i64 0, .int .i64 0, .int .i64 0, .int .i64 0, .int .i64 0, .int .i64 0, .int .i64 0] 35)).alloc (.cells #[.int .i64 0, .int .i64 0, .int .i64 0, .int .i64 0, .int .i64 0, .int .i64 0, .int .i64 0, .int .i64 0, .int .i64 0] 35)) (.cells #[] 3)
      rw [World.size_alloc, World.size_alloc] at this
      exact this
    have hsz : (((w3.alloc (.cells #[.int .i64 0, .int .i64 0, .int .i64 0, .int .i64 0, .int .i64 0, .int .i64 0, .int .i64 0, .int .i64 0, .int .i64 0] 35)).alloc (.cells #[.int .i64 0, .int .i64 0, .int .i64 0, .int .i64 0, .int .i64 0, .int .i64 0, .int .i64 0, .int .i64 0, .int .i64 0] 35)).alloc (.cells #[] 3)).heap.size = w3.heap.size + 3 := by simp only [World.size_alloc]
    have hZT : (((w3.alloc (.cells #[.int .i64 0, .int .i64 0, .int .i64 0, .int .i64 0, .int .i64 0, .int .i64 0, .int .i64 0, .int .i64 0, .int .i64 0] 35)).alloc (.cells #[.int .i64 0, .int .i64 0, .int .i64 0, .int .i64 0, .int .i64 0, .int .i64 0, .int .i64 0, .int .i64 0, .int .i64 0] 35)).alloc (.cells #[] 3)).heap[w3.heap.size]? = some (.cells (ints (List.replicate 9 0)).toArray 35 (0, 0)) := alloc_blk (alloc_blk (alloc_new _ _) _) _
    have hZO : (((w3.alloc (.cells #[.int .i64 0, .int .i64 0, .int .i64 0, .int .i64 0, .int .i64 0, .int .i64 0, .int .i64 0, .int .i64 0, .int .i64 0] 35)).alloc (.cells #[.int .i64 0, .int .i64 0, .int .i64 0, .int .i64 0, .int .i64 0, .int .i64 0, .int .i64 0, .int .i64 0, .int .i64 0] 35)).alloc (.cells #[] 3)).heap[w3.heap.size + 1]? = some (.cells (ints (List.replicate 9 0)).toArray 35 (0, 0)) := by
      have := alloc_new (w3.alloc (.cells #[.int .i64 0, .int .i64 0, .int .i64 0, .int .i64 0, .int .i64 0, .int .i64 0, .int .i64 0, .int .i64 0, .int .i64 0] 35)) (.cells #[.int .i64 0, .int .i64 0, .int .i64 0, .int .i64 0, .int .i64 0, .int .i64 0, .int .i64 0, .int .i64 0, .int .i64 0] 35)
      rw [World.size_alloc] at this
      exact alloc_blk this _
    have hZP := hX.heap hpb3 (fun h => h)
    go_cut [9] (fun f wx => ∃ bf fv, f = .pointer (some ⟨bf, 0, none⟩) ∧ Book (w3.heap.size + 2) (w3.heap.size + 1) w3.heap.size bf w1.heap.size (.slice pa r.l.length pc) r (List.replicate 9 0) (List.replicate 9 0) (r.l.take m) fv wx ∧ w3.heap.size + 2 ≤ bf ∧ (∀ k, fv.ownBlock = some k → w3.heap.size + 2 ≤ k ∧ k ≠ bf) ∧ Chg Nob w3 wx)
    case rest =>
      as_aux_lemma =>
        obtain ⟨bf, fv, rfl, hB, hbf, hfvb, hC4⟩ := hcut
        have hbl := lt_of_block hpb3
        have hP4 := hP3.chg hC4 (fun _ _ h => h)
        have lay : RLay W b v w1.heap.size w3.heap.size (w3.heap.size + 1) (w3.heap.size + 2) bf (.slice pa r.l.length pc) := by
          refine ⟨fun j hj => ?_, hlb1, hCW.size, by omega, rfl, rfl, hbf⟩
          have h1 : ¬ w3.heap.size ≤ j := fun h => hP3.notNew h hj
          have h2 : w2.heap.size ≤ j := by
            rcases hj with h | h
            · have e : j = b := h
              omega
            · exact hv3 j h
          have h3 := lt_of_block hpb
          omega
        have hst0 : RSt W b v w1.heap.size w3.heap.size (w3.heap.size + 1) (w3.heap.size + 2) bf (.slice pa r.l.length pc) r (r.plan.beg r.m) (List.replicate 9 0) (List.replicate 9 0) (r.l.take m) fv wc :=
          ⟨hP4, hB, hI1.nob (hC12.trans (hC3.trans hC4)), hfvb, hCW.trans (hC12.trans (hC3.trans hC4))⟩
        have hpa : (pa = none ∧ pc = 0 ∧ r.l.length = 0) ∨ ∃ g, pa = some ⟨g, 0, none⟩ := by
          rcases hown1.2 with ⟨hv0, _⟩ | ⟨g, cap, cur, hv0, _⟩
          · injection hv0 with h1 h2 h3
            exact .inl ⟨h1, h3, h2⟩
          · injection hv0 with h1 h2 h3
            exact .inr ⟨g, h1⟩
        have HPA := Lib.hid hpa
        clear hpa
        clear hP4 hB hI1 hfvb hC4 hpb3 hpb m0 m1 e0 e1 k0 k1 k2 k3 k4 k5 hZT hZO hZP hE hX hP3 hv3 hgb hC3 hC2 hlb1 hown1 hsz hC1 HF
        obtain ⟨fa, fc, hfv, _⟩ := own_form hst0.book.own
        have htl : (r.l.take m).length = m := by rw [List.length_take]; omega
        rw [htl] at hfv
        subst hfv
        have hm9 : (m : Int) ≤ 9 := by omega
        have HTL := Lib.hid htl
        clear htl
        have HR := Lib.hid hr.rng
        have HMV := Lib.hid hmv
        clear hmv hml hmc hm0
        go_wp2_with fail
        go_loopw [10] (fun i wx => ∃ (k : Nat) (Tm : List Int), k ≤ m ∧ i = .int .i64 k ∧ RSt W b v w1.heap.size w3.heap.size (w3.heap.size + 1) (w3.heap.size + 2) bf (.slice pa r.l.length pc) r (r.plan.beg r.m) Tm (List.replicate 9 0) (r.l.take m) (.slice fa m fc) wx ∧ Hid (Tm = ((r.l.take m).take k).foldl (setG 1) (List.replicate 9 0))) (fun i _ => 1001 - (intOf i).toNat)
        case atStart => exact ⟨0, _, by omega, rfl, hst0, Lib.hid rfl⟩
        case round =>
          clear hst0
          obtain ⟨k, Tm, hk, rfl, hS, hTm⟩ := hrel
          have hk0 : (0 : Int) ≤ (k : Int) := by omega
          have cB := cell_blk hS.book.f 0
          by_cases hkm : k < m
          · have hkm1 : (k : Int) < (m : Int) := by omega
            have hx : (r.l.take m)[k]? = some ((r.l.take m)[k]'(by have := HTL.out; omega)) := List.getElem?_eq_getElem _
            obtain ⟨hu0, hu9⟩ := HR.out ((r.l.take m)[k]'(by have := HTL.out; omega)) (List.mem_of_mem_take (List.getElem_mem _))
            obtain ⟨lb, lo, rfl, hc, hnn⟩ := (show IntsAt _ (.slice fa m fc) (r.l.take m) from IntsAt.of_own (by have h := hS.book.own; exact h)).get hx
            clear hnn
            generalize hue : (r.l.take m)[k]'(by have := HTL.out; omega) = u at *
            have cT := arr_cell hS.book.t hS.book.lenT u.toNat (by omega)
            have zT := frozen_blk hS.book.t u.toNat
            have hS2 := hS.setT lay u.toNat 1
            go_wp2_with fail
            refine ⟨⟨k + 1, _, by omega, rfl, hS2, Lib.hid ?_⟩, by simp [intOf]; omega⟩
            rw [take_succ_some hx, List.foldl_append, ← hTm.out]
            rfl
          · have hkm1 : ¬ (k : Int) < (m : Int) := by omega
            have hgood : Good r (r.plan.beg r.m) Tm (List.replicate 9 0) (r.l.take m) := by
              have h1 := good_zero hr
              have h2 := hTm.out
              rw [List.take_of_length_le (by have := HTL.out; omega)] at h2
              rw [h2, HM.out]
              exact h1
            have HG := Lib.hid hgood
            have HRV := Lib.hid hr
            obtain ⟨hn0, hn1⟩ := hr.now
            have c5 := cell_blk hS.book.p 5
            simp only [Raw.cells] at c5
            clear hgood hTm hr
            go_wp2_with fail
            go_loopw [12, 13] (fun nv iv wx => ∃ (k : Nat) (nw : Int) (P : Plan) (Tm Ov fs : List Int) (fv : Value), k ≤ n ∧ iv = .int .i64 k ∧ nv = .int .i64 nw ∧ 0 ≤ nw ∧ nw ≤ 1000 + 300 * (k : Int) ∧ RSt W b v w1.heap.size w3.heap.size (w3.heap.size + 1) (w3.heap.size + 2) bf (.slice pa r.l.length pc) r P Tm Ov fs fv wx ∧ Hid (Good r P Tm Ov fs)) (fun _ i _ => 1001 - (intOf i).toNat)
            case atStart => exact ⟨0, r.now, _, _, _, _, _, by omega, rfl, rfl, hn0, by omega, hS, HG⟩
            case round =>
              as_aux_lemma =>
                clear hS HG c5 cB hn0 hn1 hkm1 hkm hk hk0 Tm
                obtain ⟨k, nw, P, Tm, Ov, fs, fv, hk, rfl, rfl, hw0, hw1, hS, HG⟩ := hrel
                have hk0 : (0 : Int) ≤ (k : Int) := by omega
                by_cases hkn : k < n
                · have hkn1 : (k : Int) < (n : Int) := by omega
                  have hn60 : (n : Int) ≤ 60 := by omega
                  have hx : l[k]? = some (l[k]'(by have := HN.out; omega)) := List.getElem?_eq_getElem _
                  have hxo := HLO.out (l[k]'(by have := HN.out; omega)) (List.getElem_mem _)
                  rcases HL.out with h | ⟨lb, lof, hla, hlb, hlc⟩
                  · simp [h] at hx
                  obtain ⟨q0, q1, q2⟩ := hlc k _ hx
                  generalize l[k]'(by have := HN.out; omega) = x at *
                  obtain ⟨⟨ht0, ht1⟩, hs0, hs1⟩ := hxo
                  subst hla
                  have HQ0 := Lib.hid q0
                  have HQ1 := Lib.hid q1
                  have HQ2 := Lib.hid q2
                  clear hlc hx q0 q1 q2
                  go_wp2_with fail
                  go_loopw [12, 14] (fun nv jv wx => ∃ (j : Nat) (nw' : Int) (P : Plan) (Tm Ov fs : List Int) (fv : Value), (j : Int) ≤ x.ticks % 30 ∧ jv = .int .i64 j ∧ nv = .int .i64 nw' ∧ 0 ≤ nw' ∧ nw' ≤ 1000 + 300 * (k : Int) + j ∧ RSt W b v w1.heap.size w3.heap.size (w3.heap.size + 1) (w3.heap.size + 2) bf (.slice pa r.l.length pc) r P Tm Ov fs fv wx ∧ Hid (Good r P Tm Ov fs)) (fun _ jv _ => 1001 - (intOf jv).toNat)
                  case atStart => exact ⟨0, nw, _, _, _, _, _, by omega, rfl, rfl, hw0, by omega, hS, HG⟩
                  case round =>
                    clear hS HG hw0 hw1
                    obtain ⟨j, nw', P, Tm, Ov, fs, fv, hj, rfl, rfl, hw0, hw1, hS, HG⟩ := hrel
                    have p0 := hS.chg.cell HQ0.out (fun h => h)
                    have p1 := hS.chg.cell HQ1.out (fun h => h)
                    have p2 := hS.chg.cell HQ2.out (fun h => h)
                    have hj0 : (0 : Int) ≤ (j : Int) := by omega
                    have hj30 : (j : Int) < 30 := by omega
                    by_cases hjt : (j : Int) < x.ticks % 30
                    · go_wp2_with fail
                      have hG2 := HG.out.tick HRV.out (nw' + 1)
                      have hsl := tick_sends_le HG.out.ok (nw' + 1)
                      have hgl := (tick_len HG.out.ok (nw' + 1)).1
                      have hfl := (HG.out.fs_len HRV.out).1
                      refine (tick_any wr b v P (nw' + 1) hS.plan HG.out.begun HG.out.ok).mono ?_
                      rintro e w5 ⟨g, s, rfl, hog, hos, hPT, hCT⟩
                      have hS5 := hS.tick lay hPT hCT
                      have hmem := hS.book.mem
                      have hfvl : ∀ k, fv.ownBlock = some k → k < wr.heap.size := fun k hk => (hS.book.own.lt k hk).2
                      have hgb : ∀ k, g.ownBlock = some k → wr.heap.size ≤ k := fun k hk => (hog.lt k hk).1
                      have hsb : ∀ k, s.ownBlock = some k → wr.heap.size ≤ k ∧ k < w5.heap.size := fun k hk => hos.lt k hk
                      have hig := IntsAt.of_own hog
                      have his := IntsAt.of_own hos
                      obtain ⟨ga, gc, hge, _⟩ := own_form hog
                      obtain ⟨sa, sc, hse, _⟩ := own_form hos
                      have hw5 := hCT.size
                      obtain ⟨hG3, hG4, hG5⟩ := hG2
                      clear hS HG hog hos hPT hCT p0 p1 p2
                      generalize (P.tick (nw' + 1)).1 = O at *
                      generalize (P.tick (nw' + 1)).2.1 = S at *
                      generalize (P.tick (nw' + 1)).2.2 = P' at *
                      subst hge
                      subst hse
                      obtain ⟨q, hq⟩ : ∃ q, q = O.length := ⟨_, rfl⟩
                      rw [← hq] at hgb hig hgl
                      rw [← hq]
                      have HQ := Lib.hid hq
                      have HG3 := Lib.hid hG3
                      have HG5 := Lib.hid hG5
                      clear hq hG3 hG5
                      go_wp2_with fail
                      refine (sent_any w5 _ _ _ bf _ _ _ fv r S Ov Tm fs hS5.book (hS5.apart lay) his (fun k hk => ?_) hG4 HRV.out.tries (by omega) (by omega) (by omega)).mono ?_
                      · have h1 := hsb k hk
                        refine ⟨by omega, by omega, fun e => ?_, h1.2⟩
                        have := hfvl k e
                        omega
                      rintro e w6 ⟨rfl, fv', hB6, hst6, hC6⟩
                      have hS6 := hS5.sent lay hB6 hst6 hC6
                      have hig6 := hig.chg hC6 (fun k hk e => by
                        have h1 := hgb k hk
                        rcases e with e | e | e
                        · omega
                        · omega
                        · have := hfvl k e; omega)
                      have hgk : ∀ k, (Value.slice ga q gc).ownBlock = some k → k ≠ w3.heap.size + 1 := fun k hk => by have := hgb k hk; omega
                      clear hB6 hst6 hC6 hS5 hig his hgb hsb hfvl hG4
                      generalize S.foldl sentOne (Tm, fs) = X at *
                      go_wp2_with fail
                      go_loopw [17] (fun iv wx => ∃ (i : Nat) (Ov' : List Int), i ≤ q ∧ iv = .int .i64 i ∧ RSt W b v w1.heap.size w3.heap.size (w3.heap.size + 1) (w3.heap.size + 2) bf (.slice pa r.l.length pc) r P' X.1 Ov' X.2 fv' wx ∧ Hid (Ov' = (O.take i).foldl inc Ov) ∧ IntsAt wx (.slice ga q gc) O) (fun iv _ => 1001 - (intOf iv).toNat)
                      case atStart => exact ⟨0, Ov, by omega, rfl, hS6, Lib.hid rfl, hig6⟩
                      case round =>
                        as_aux_lemma =>
                          clear hS6 hig6
                          obtain ⟨i, Ov', hi, rfl, hS7, hOv, hig7⟩ := hrel
                          have hi0 : (0 : Int) ≤ (i : Int) := by omega
                          by_cases hiq : i < q
                          · have hx : O[i]? = some (O[i]'(by have := HQ.out; omega)) := List.getElem?_eq_getElem _
                            obtain ⟨hu0, hu9, hov, htm⟩ := HG5.out i _ hx
                            obtain ⟨gb, gof, rfl, hc, hnn⟩ := hig7.get hx
                            clear hnn
                            rw [← hOv.out] at hov
                            generalize hue : O[i]'(by have := HQ.out; omega) = u at *
                            have cO := arr_cell hS7.book.o hS7.book.lenO u.toNat (by omega)
                            rw [hov] at cO
                            have cT := arr_cell hS7.book.t hS7.book.lenT u.toNat (by omega)
                            rw [htm] at cT
                            have cP := cell_blk hS7.book.p 4
                            simp only [Raw.cells] at cP
                            have hiq1 : (i : Int) < (q : Int) := by omega
                            have hq1000 : (q : Int) ≤ 1000 := by omega
                            have hu0' : ¬ u < 0 := by omega
                            have hu9' : ¬ 9 ≤ u := by omega
                            have HOVV := Lib.hid hov
                            clear hov htm
                            go_wp2_with fail
                            go_quiet (fail)
                            have hS7' := hS7.nob ((Chg.refl Nob _).drewN nq)
                            have hig7' := hig7.nob ((Chg.refl Nob _).drewN nq)
                            have cO' := arr_cell hS7'.book.o hS7'.book.lenO u.toNat (by omega)
                            rw [HOVV.out] at cO'
                            have zO' := frozen_blk hS7'.book.o u.toNat
                            have hS8 := hS7'.setO lay u.toNat 1
                            go_wp2_with fail
                            refine ⟨⟨i + 1, _, by omega, rfl, hS8, Lib.hid ?_, ?_⟩, by simp [intOf]; omega⟩
                            · rw [take_succ_some hx, List.foldl_append, ← hOv.out]
                              show _ = inc Ov' u
                              unfold inc
                              rw [HOVV.out]
                              rfl
                            · exact hig7'.chg (Chg.setCell (p := ⟨w3.heap.size + 1, u.toNat, none⟩) (Chg.refl (Only (w3.heap.size + 1)) _) (.inl (Only.self _)) _) (fun j hj e => hgk j hj e)
                          · have hiq1 : ¬ (i : Int) < (q : Int) := by omega
                            have hOv2 : Ov' = O.foldl inc Ov := by
                              have := hOv.out
                              rwa [List.take_of_length_le (by have := HQ.out; omega)] at this
                            go_wp2_with fail
                            exact ⟨⟨j + 1, nw' + 1, P', X.1, Ov', X.2, fv', by omega, rfl, rfl, by omega, by omega, hS7, Lib.hid (by rw [hOv2]; exact HG3.out)⟩, by simp [intOf]; omega⟩
                    · go_wp2_with fail
                      have hcl := Lib.hid (HG.out.close HRV.out x.shut)
                      refine (close_any wr b v P x.shut hS.plan HG.out.ok.len).mono ?_
                      rintro e w5 ⟨rfl, hPT, hCT⟩
                      have hS5 := hS.tick lay hPT hCT
                      clear hS HG hPT hCT p0 p1 p2
                      generalize (P.close x.shut).2 = P' at *
                      generalize (P.close x.shut).1 = cl at *
                      go_upto_if 145 with fail
                      go_cut [] (fun wx => ∃ (P : Plan) (Tm Ov fs : List Int) (fv : Value), RSt W b v w1.heap.size w3.heap.size (w3.heap.size + 1) (w3.heap.size + 2) bf (.slice pa r.l.length pc) r P Tm Ov fs fv wx ∧ Hid (Good r P Tm Ov fs))
                      case first =>
                        as_aux_lemma =>
                          rcases hcl.out with ⟨hc1, hg1⟩ | ⟨hc1, hu0, hu9, ht2, ht3, ho, hg1⟩
                          · subst hc1
                            go_wp2_with fail
                            go_meet
                            case rel => exact ⟨_, _, _, _, _, hS5, Lib.hid hg1⟩
                          · subst hc1
                            have cO := arr_cell hS5.book.o hS5.book.lenO x.shut.toNat (by omega)
                            rw [ho] at cO
                            have zO := frozen_blk hS5.book.o x.shut.toNat
                            have cT := arr_cell hS5.book.t hS5.book.lenT x.shut.toNat (by omega)
                            have hS6 := hS5.setO lay x.shut.toNat 1
                            obtain ⟨y, hy⟩ : ∃ y, y = Tm.getD x.shut.toNat 0 := ⟨_, rfl⟩
                            rw [← hy] at cT ht2 ht3
                            clear hy
                            have hy0 : ¬ y = 0 := by omega
                            have hu9' : ¬ 9 ≤ x.shut := by omega
                            have hO : inc Ov x.shut = Ov.set x.shut.toNat 1 := by unfold inc; rw [ho]; rfl
                            rw [hO] at hg1
                            have HG1 := Lib.hid hg1
                            clear hO ho hg1
                            go_wp2_with fail
                            go_meet
                            case rel => exact ⟨_, _, _, _, _, hS6, HG1⟩
                      case rest =>
                        clear hS5 hcl
                        obtain ⟨P, Tm, Ov, fs, fv, hS, HG⟩ := hcut
                        have p2 := hS.chg.cell HQ2.out (fun h => h)
                        go_upto_if 169 with fail
                        go_cut [] (fun wx => ∃ (P : Plan) (Tm Ov fs : List Int) (fv : Value), RSt W b v w1.heap.size w3.heap.size (w3.heap.size + 1) (w3.heap.size + 2) bf (.slice pa r.l.length pc) r P Tm Ov fs fv wx ∧ Hid (Good r P Tm Ov fs))
                        case first =>
                          as_aux_lemma =>
                            cases hmo : x.more with
                            | false =>
                              rw [hmo] at p2
                              go_wp2_with fail
                              go_meet
                              case rel => exact ⟨_, _, _, _, _, hS, HG⟩
                            | true =>
                              rw [hmo] at p2
                              go_wp2_with fail
                              refine (more_any _ b v P nw' hS.plan HG.out.begun HG.out.ok.len HG.out.ok.next (fun y hy => by have := HG.out.ok.ups y hy; omega)).mono ?_
                              rintro e w5 ⟨rfl, hPT, hCT⟩
                              have hS5 := hS.tick lay hPT hCT
                              have hfl := (HG.out.fs_len HRV.out).1
                              rcases HG.out.moreQ HRV.out nw' with ⟨h1, hg1⟩ | ⟨h1, hok, hg1⟩
                              · rw [h1]
                                go_wp2_with fail
                                go_meet
                                case rel => exact ⟨_, _, _, _, _, hS5, Lib.hid hg1⟩
                              · rw [h1]
                                generalize (P.moreQ nw').1.1 = u at *
                                have hS6 := hS5.nob ((Chg.refl Nob w5).alloc (.cells #[.int .i64 u] 3))
                                have hmem := hS5.book.mem
                                have HG1 := Lib.hid hg1
                                clear hg1
                                go_wp2_with fail
                                refine (sent_any _ _ _ _ bf _ _ _ fv r [u] Ov Tm fs hS6.book (hS6.apart lay) (IntsAt.lit (alloc_new w5 _) rfl 1 (by simp)) (fun k hk => ?_) hok HRV.out.tries (by simp) (by omega) (by rw [World.size_alloc]; omega)).mono ?_
                                · have e : w5.heap.size = k := Option.some.inj hk
                                  have hfvl := fun j hj => (hS5.book.own.lt j hj).2
                                  rw [World.size_alloc]
                                  exact ⟨by omega, by omega, fun e2 => by have := hfvl k e2; omega, by omega⟩
                                rintro e w6 ⟨rfl, fv', hB6, hst6, hC6⟩
                                have hS7 := hS6.sent lay hB6 hst6 hC6
                                clear hB6 hst6 hC6 hS5 hS6 hok
                                go_wp2_with fail
                                go_meet
                                case rel => exact ⟨_, _, _, _, _, hS7, HG1⟩
                        case rest =>
                          as_aux_lemma =>
                            clear hS HG p2
                            obtain ⟨P, Tm, Ov, fs, fv, hS, HG⟩ := hcut
                            go_wp2_with fail
                            go_loopw [21, 22] (fun ov uv wx => ∃ (u c : Nat), u ≤ 9 ∧ c ≤ u ∧ uv = .int .i64 u ∧ ov = .int .i64 c ∧ RSt W b v w1.heap.size w3.heap.size (w3.heap.size + 1) (w3.heap.size + 2) bf (.slice pa r.l.length pc) r P Tm Ov fs fv wx ∧ Hid (c = cnt Tm Ov u)) (fun _ uv _ => 9 - (intOf uv).toNat)
                            case atStart => exact ⟨0, 0, by omega, by omega, rfl, rfl, hS, Lib.hid rfl⟩
                            case round =>
                              clear hS
                              obtain ⟨u, c, hu, hc, rfl, rfl, hS, HC⟩ := hrel
                              have hu0 : (0 : Int) ≤ (u : Int) := by omega
                              have hc0 : (0 : Int) ≤ (c : Int) := by omega
                              have hc9 : (c : Int) ≤ 9 := by omega
                              by_cases hu9 : (u : Int) < 9
                              · have cT := arr_cell hS.book.t hS.book.lenT u (by omega)
                                have cO := arr_cell hS.book.o hS.book.lenO u (by omega)
                                have hcs := cnt_succ Tm Ov u
                                have hask := HG.out.inv.asked (u := (u : Int)) hu0 hu9
                                rw [Int.toNat_natCast] at hask
                                rw [← HC.out] at hcs
                                have hA : ∀ X, Chg Nob wr X → Calls Try.prog 15 #[.pointer (some ⟨b, 0, none⟩), .int .i64 (u : Int)] X fun e w' => e = .returned (.int .i64 (Tm.getD u 0)) ∧ Chg Nob X w' := by
                                  intro X hX
                                  have h := asked_any X b v P (u : Int) (hS.plan.chg hX (fun _ _ h => h)) HG.out.ok.len
                                  rw [hask] at h
                                  exact h
                                generalize Tm.getD u 0 = y at cT hcs hA
                                generalize Ov.getD u 0 = o at cO hcs
                                have HA := Lib.hid hA
                                have HCS := Lib.hid hcs
                                clear hA hcs hask
                                obtain ⟨c', hc', HC2, hcase⟩ : ∃ c' : Nat, c' ≤ u + 1 ∧ Hid (c' = cnt Tm Ov (u + 1)) ∧ ((0 < y ∧ o = 0 ∧ c' = c + 1) ∨ (0 < y ∧ ¬ o = 0 ∧ c' = c) ∨ (¬ 0 < y ∧ c' = c)) := by
                                  have h := HCS.out
                                  by_cases hy : 0 < y
                                  · by_cases ho : o = 0
                                    · rw [if_pos ⟨hy, ho⟩] at h
                                      exact ⟨c + 1, by omega, h.symm, .inl ⟨hy, ho, rfl⟩⟩
                                    · rw [if_neg (fun h => ho h.2)] at h
                                      exact ⟨c, by omega, h.symm, .inr (.inl ⟨hy, ho, rfl⟩)⟩
                                  · rw [if_neg (fun h => hy h.1)] at h
                                    exact ⟨c, by omega, h.symm, .inr (.inr ⟨hy, rfl⟩)⟩
                                clear HC HCS
                                rcases hcase with ⟨hy, rfl, hcc⟩ | ⟨hy, ho, hcc⟩ | ⟨hy, hcc⟩
                                all_goals
                                  have HCC := Lib.hid hcc
                                  clear hcc
                                  go_wp2_with fail
                                  go_cut [206] (fun t wx => t = .bool false ∧ Chg Nob wr wx)
                                  case first =>
                                    go_region_held3 (fun w' => w'.cell? ⟨w3.heap.size, u, none⟩ = some (.int .i64 y))
                                      (first | go_keep | exact l0)
                                      (first | (go_at_call 15; refine (HA.out _ (Chg.refl Nob wr).drew).mono ?_; rintro e w5 ⟨rfl, hC5⟩; have l0 := hC5.cell (w := wr.drew) cT (fun h => h)))
                                    all_goals (go_wp2_with fail)
                                    all_goals
                                      go_meet
                                      case rel => exact ⟨by simp, (Chg.refl Nob wr).drew.trans hC5⟩
                                  case rest =>
                                    obtain ⟨rfl, hC5⟩ := hcut
                                    go_wp2_with fail
                                    have hcc := HCC.out
                                    subst hcc
                                    first
                                      | exact ⟨⟨u + 1, c + 1, by omega, by omega, rfl, rfl, hS.nob hC5, HC2⟩, by simp [intOf]; omega⟩
                                      | exact ⟨⟨u + 1, c', by omega, by omega, rfl, rfl, hS.nob hC5, HC2⟩, by simp [intOf]; omega⟩
                              · have hu9' : ¬ (u : Int) < 9 := hu9
                                have hcc : c = cnt Tm Ov 9 := by
                                  have h := HC.out
                                  rwa [show u = 9 from by omega] at h
                                have hop : openN P.l = (c : Int) := by rw [HG.out.inv.opens HRV.out.nodup HRV.out.rng, hcc]
                                have hO : ∀ X, Chg Nob wr X → Calls Try.prog 10 #[.pointer (some ⟨b, 0, none⟩)] X fun e w' => e = .returned (.int .i64 (c : Int)) ∧ Chg Nob X w' := by
                                  intro X hX
                                  have h := open_any X b v P (hS.plan.chg hX (fun _ _ h => h)) HG.out.ok.len
                                  rw [hop] at h
                                  exact h
                                have hL : ∀ X, Chg Nob wr X → Calls Try.prog 11 #[.pointer (some ⟨b, 0, none⟩)] X fun e w' => e = .returned (.int .i64 ((r.l.length : Int) - (fs.length : Int))) ∧ Chg Nob X w' := by
                                  intro X hX
                                  have h := left_any X b v P (hS.plan.chg hX (fun _ _ h => h)) HG.out.ok.len HG.out.ok.next
                                  rw [HG.out.inv.len, ← (HG.out.fs_len HRV.out).2] at h
                                  exact h.mono (fun e w' ⟨he, n, hw⟩ => ⟨he, by rw [hw]; exact (Chg.refl Nob X).drewN n⟩)
                                have HO := Lib.hid hO
                                have HLF := Lib.hid hL
                                obtain ⟨hf9, _⟩ := HG.out.fs_len HRV.out
                                clear hO hL hop hcc HC
                                obtain ⟨fa, fc, hfv, _⟩ := own_form hS.book.own
                                subst hfv
                                have z0 := cell_blk hS.book.p 0
                                have z1 := cell_blk hS.book.f 0
                                simp only [Raw.cells] at z0
                                obtain ⟨q, hq⟩ : ∃ q, q = fs.length := ⟨_, rfl⟩
                                rw [← hq] at z1 HLF hf9
                                have hq9 : (q : Int) ≤ 9 := by omega
                                have hq0 : (0 : Int) ≤ (q : Int) := by omega
                                have hl9' : (r.l.length : Int) ≤ 9 := by have := HRV.out.len; omega
                                have HQQ := Lib.hid hq
                                clear hq
                                go_wp2_with fail
                                go_cut [221] (fun t wx => t = .bool false ∧ Chg Nob wr wx)
                                case first =>
                                  go_region_held3 (fun w' => w'.cell? ⟨w1.heap.size, 0, none⟩ = some (.slice pa r.l.length pc) ∧ w'.cell? ⟨bf, 0, none⟩ = some (.slice fa q fc))
                                    (first | go_keep | exact ⟨y0, y1⟩ | exact ⟨x0, x1⟩)
                                    (first
                                      | (go_at_call 10; refine (HO.out _ (Chg.refl Nob wr).drew).mono ?_; rintro e w7 ⟨rfl, hC7⟩; have y0 := hC7.cell (w := wr.drew) z0 (fun h => h); have y1 := hC7.cell (w := wr.drew) z1 (fun h => h))
                                      | (go_at_call 11; refine (HLF.out _ ((Chg.refl Nob wr).drew.trans hC7)).mono ?_; rintro e w8 ⟨rfl, hC8⟩; have x0 := hC8.cell y0 (fun h => h); have x1 := hC8.cell y1 (fun h => h)))
                                  all_goals (go_wp2_with fail)
                                  all_goals
                                    go_meet
                                    case rel => exact ⟨by simp; exact (IntWalk.i64_in _ (by omega)).symm, ((Chg.refl Nob wr).drew.trans hC7).trans hC8⟩
                                case rest =>
                                  obtain ⟨rfl, hC5⟩ := hcut
                                  go_wp2_with fail
                                  exact ⟨⟨k + 1, nw', P, Tm, Ov, fs, _, by omega, rfl, rfl, by omega, by omega, hS.nob hC5, HG⟩, by simp [intOf]; omega⟩
                · have hkn1 : ¬ (k : Int) < (n : Int) := by omega
                  obtain ⟨hf9, hfn⟩ := HG.out.fs_len HRV.out
                  have hfs := HG.out.inv.fs
                  have hnx := HG.out.inv.nextle
                  have hl9' : (r.l.length : Int) ≤ 9 := by have := HRV.out.len; omega
                  obtain ⟨fa2, fc2, hfv2, hfc⟩ := own_form hS.book.own
                  subst hfv2
                  have z0 := cell_blk hS.book.p 0
                  have z1 := cell_blk hS.book.f 0
                  simp only [Raw.cells] at z0
                  have hle : fs.length ≤ r.l.length := by omega
                  have hfe : fs = r.l.take fs.length := by rw [show fs.length = P.next from by omega]; exact hfs
                  have hin : ∀ X, Chg Nob wr X → Calls Try.prog 16 #[.slice fa2 fs.length fc2, .slice pa fs.length pc] X fun e w' => e = .returned (.bool true) ∧ ∃ n, w' = X.drewN n :=
                    fun X hX => ints_yes X _ _ fs (r.l.take fs.length) ((IntsAt.of_own hS.book.own).nob hX) ((hS.list.nob hX).take_ hle) (by omega) hfe
                  have hchg := hS.chg
                  obtain ⟨q, hq⟩ : ∃ q, q = fs.length := ⟨_, rfl⟩
                  rw [← hq] at z1 hin hf9 hle hfc
                  have HIN := Lib.hid hin
                  have hq0 : (0 : Int) ≤ (q : Int) := by omega
                  have hqp : (q : Int) ≤ (pc : Int) := by omega
                  clear hq hin hfe hfs hnx hfn HG hS
                  rcases HPA.out with ⟨hpa1, hpa2, hpa3⟩ | ⟨g, hpa1⟩
                  · subst hpa1
                    subst hpa2
                    obtain rfl : q = 0 := by omega
                    rw [hpa3] at z0
                    have HP3 := Lib.hid hpa3
                    clear hpa3 hl9' hle hpc hqp lay hq0
                    go_wp2_with fail
                    go_quiet ((go_at_call 16; refine Calls.quiet_of (HIN.out _ (by first | exact Chg.refl Nob wr | exact (Chg.refl Nob wr).drewN _))))
                    go_wp2_with fail
                    go_ret
                    exact ⟨rfl, hchg.drewN _⟩
                  · subst hpa1
                    by_cases hql : (q : Int) < (r.l.length : Int)
                    · go_wp2_with fail
                      go_quiet ((go_at_call 16; refine Calls.quiet_of (HIN.out _ (by first | exact Chg.refl Nob wr | exact (Chg.refl Nob wr).drewN _))))
                      go_wp2_with fail
                      go_ret
                      exact ⟨rfl, hchg.drewN _⟩
                    · obtain rfl : q = r.l.length := by omega
                      go_wp2_with fail
                      go_quiet ((go_at_call 16; refine Calls.quiet_of (HIN.out _ (by first | exact Chg.refl Nob wr | exact (Chg.refl Nob wr).drewN _))))
                      go_wp2_with fail
                      go_ret
                      exact ⟨rfl, hchg.drewN _⟩
    case first =>
      as_aux_lemma =>
        have hfin : ∀ (fv : Value) (wz : World) (bf : Nat), bf = wz.heap.size → wz.ownsRow (w3.heap.size + 2) 3 1 fv (r.l.take m).length (ints (r.l.take m)) → Chg (fun j => j = w3.heap.size + 2) (((w3.alloc (.cells #[.int .i64 0, .int .i64 0, .int .i64 0, .int .i64 0, .int .i64 0, .int .i64 0, .int .i64 0, .int .i64 0, .int .i64 0] 35)).alloc (.cells #[.int .i64 0, .int .i64 0, .int .i64 0, .int .i64 0, .int .i64 0, .int .i64 0, .int .i64 0, .int .i64 0, .int .i64 0] 35)).alloc (.cells #[] 3)) wz → w3.heap.size + 3 ≤ wz.heap.size →
            Book (w3.heap.size + 2) (w3.heap.size + 1) w3.heap.size bf w1.heap.size (.slice pa r.l.length pc) r (List.replicate 9 0) (List.replicate 9 0) (r.l.take m) fv (wz.alloc (.cells #[fv] 22)) ∧ w3.heap.size + 2 ≤ bf ∧ (∀ k, fv.ownBlock = some k → w3.heap.size + 2 ≤ k ∧ k ≠ bf) ∧ Chg Nob w3 (wz.alloc (.cells #[fv] 22)) := by
          rintro fv wz _ rfl hown hcz hsz2
          have hbl := lt_of_block hpb3
          have hlt := hown.lt
          refine ⟨⟨alloc_blk (hcz.heap hZO (by omega)) _, alloc_blk (hcz.heap hZT (by omega)) _, alloc_new wz _, alloc_blk (hcz.heap hZP (by omega)) _, hown.alloc _, by rw [List.length_replicate], by rw [List.length_replicate]⟩, by omega, fun k hk => ?_, ?_⟩
          · have := hlt k hk; exact ⟨this.1, by omega⟩
          · exact (hX.trans' hcz (fun j hj => .inr (by omega))).alloc _
        have HFIN := Lib.hid hfin
        have HIX := Lib.hid (hI1.nob (hC12.trans (hC3.trans hX)))
        clear hfin hZT hZO hZP hI1
        rcases hown1.2 with ⟨hv0, hl0⟩ | ⟨g, cap, cur, hv0, _⟩
        · injection hv0 with h1 h2 h3
          subst h1
          subst h3
          have hl0' : (r.l.length : Int) = 0 := by omega
          have hle : ¬ r.want ≤ (r.l.length : Int) := by omega
          have hle2 : (r.l.length : Int) ≤ r.want := by omega
          have hm00 : r.l.take m = [] := by rw [List.take_eq_nil_iff]; exact .inl (by omega)
          go_wp2_with fail
          go_meet
          case rel =>
            refine ⟨_, _, rfl, HFIN.out _ _ _ hsz.symm (by rw [hm00]; exact hE) (Chg.refl _ _) (by omega)⟩
        · injection hv0 with h1 h2 h3
          subst h1
          have hcl : ∀ (j : Nat) (y : Int), (r.l.take m)[j]? = some y → (((w3.alloc (.cells #[.int .i64 0, .int .i64 0, .int .i64 0, .int .i64 0, .int .i64 0, .int .i64 0, .int .i64 0, .int .i64 0, .int .i64 0] 35)).alloc (.cells #[.int .i64 0, .int .i64 0, .int .i64 0, .int .i64 0, .int .i64 0, .int .i64 0, .int .i64 0, .int .i64 0, .int .i64 0] 35)).alloc (.cells #[] 3)).cell? ⟨g, 0 + j, none⟩ = some (.int .i64 y) := by
            intro j y hj
            obtain ⟨_, _, e, _, h⟩ := HIX.out
            injection e with e1 e2 e3
            rw [List.getElem?_take] at hj
            split at hj
            · rcases h with h | ⟨b', off', h5, h⟩
              · rw [h] at hj; cases hj
              · rw [← e1] at h5
                injection h5 with h5
                injection h5 with h6 h7
                subst h6
                subst h7
                exact h j y hj
            · cases hj
          have HCL := Lib.hid hcl
          clear hcl
          by_cases hwl : r.want < (r.l.length : Int)
          · have htl : (r.l.take m).length = r.want.toNat := by rw [List.length_take]; omega
            have htm : r.want.toNat ≤ 9 := by omega
            go_wp2_with (at_builtin; refine app_ints _ rfl _ _ rfl (w3.heap.size + 2) _ [] rfl hE g 0 _ (r.l.take m) (by rw [htl]; rfl) HCL.out (by rw [htl]; simp only [List.length_nil]; omega) (by rw [hsz]; omega) ?_; intro v' wz hown3 hgr3 hst3; obtain ⟨a3, c3, hv3, _⟩ := own_form hown3; subst hv3)
            have hcz : Chg (fun j => j = w3.heap.size + 2) _ wz := (Chg.refl _ _).grown hgr3 (fun k hk => .inl (by show k = w3.heap.size + 2; have hk2 := Option.some.inj (show some (w3.heap.size + 1 + 1) = some k from hk); omega))
            have hsz2 := hcz.size
            rw [hsz] at hsz2
            go_meet
            case rel => exact ⟨_, _, rfl, HFIN.out (.slice a3 r.want.toNat c3) wz _ rfl (by rw [← htl]; exact hown3) hcz hsz2⟩
          · have htl : (r.l.take m).length = r.l.length := by rw [List.length_take]; omega
            have hwl' : (r.l.length : Int) ≤ r.want := by omega
            go_wp2_with (at_builtin; refine app_ints _ rfl _ _ rfl (w3.heap.size + 2) _ [] rfl hE g 0 _ (r.l.take m) (by rw [htl]; rfl) HCL.out (by rw [htl]; simp only [List.length_nil]; omega) (by rw [hsz]; omega) ?_; intro v' wz hown3 hgr3 hst3; obtain ⟨a3, c3, hv3, _⟩ := own_form hown3; subst hv3)
            have hcz : Chg (fun j => j = w3.heap.size + 2) _ wz := (Chg.refl _ _).grown hgr3 (fun k hk => .inl (by show k = w3.heap.size + 2; have hk2 := Option.some.inj (show some (w3.heap.size + 1 + 1) = some k from hk); omega))
            have hsz2 := hcz.size
            rw [hsz] at hsz2
            go_meet
            case rel => exact ⟨_, _, rfl, HFIN.out (.slice a3 r.l.length c3) wz _ rfl (by rw [← htl]; exact hown3) hcz hsz2⟩
  · have d1 : decide ((60 : Int) < (n : Int)) = true := by simp; omega
    have d1' : (60 : Int) < (n : Int) := by omega
    go_enter Try.func4, Try.ntmps4
    go_wp2_with fail
    refine (HF.out _).mono ?_
    rintro e w1 ⟨pv, r, rfl, hown1, hr, hC1⟩
    obtain ⟨pa, pc, hpv, _⟩ := own_form hown1
    subst hpv
    unfold Raw.cells
    go_wp2_with fail
    refine (awake_any _).mono ?_
    rintro e w2 ⟨rfl, hC2⟩
    go_wp2_with fail
    go_ret
    exact ⟨rfl, ((((Chg.refl Nob W).alloc _).trans hC1).alloc _).trans hC2⟩
end Go.Proofs.Ytbpbhccgnfakiaa.Hg
