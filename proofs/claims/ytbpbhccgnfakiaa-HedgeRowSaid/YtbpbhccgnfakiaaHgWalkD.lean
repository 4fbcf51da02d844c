/- Package hedge, walked: Tick. -/
import Derived.Test.YtbpbhccgnfakiaaHgWalkC
namespace Go.Proofs.Ytbpbhccgnfakiaa.Hg
open Go.RowKit

/-- Two slices of the call's own lie in two blocks. -/
def Dis (g s : Value) : Prop := ∀ k, g.ownBlock = some k → s.ownBlock ≠ some k
theorem Dis.symm {g s : Value} (h : Dis g s) : Dis s g := fun k hs hg => h k hg hs
theorem Dis.step {w : World} {g s s' : Value} (h : Dis g s) (hg : ∀ k, g.ownBlock = some k → k < w.heap.size) (hs : Stays w s s') : Dis g s' := by
  intro k hk hk'
  rcases hs with e | e
  · rw [e] at hk'; exact h k hk hk'
  · have := hg k hk; have := e k hk'; omega

theorem Dis.nil (s : Value) : Dis (.slice none 0 0) s := fun k h => by simp [Value.ownBlock] at h

/-- A scope that jumps back to one label: the piece behind the label is walked once. -/
theorem wp_scope_label {P : Program} {a : Act} {w : World} {Q : Exit → Act → World → Prop} {c rest : Code} (l : Nat) (J : Act → World → Prop) (μ : Act → World → Nat) (hf : findLabel c l = some (Code.skip.seq rest))
    (pass : ∀ a w, J a w → ∀ J' : Act → World → Prop, Hid (∀ a' w', J a' w' → μ a' w' < μ a w → J' a' w') → rest.wp P (Exit.jump l J' Q) a w)
    (first : Hid (∀ a w, J a w → rest.wp P (Exit.jump l J Q) a w) → c.wp P (Exit.jump l J Q) a w) : (Code.scope c).wp P Q a w :=
  wp_scope_jumps l J μ hf (first fun a w hJ => pass a w hJ J (fun _ _ h _ => h)) (fun a w hJ => wp_seq (wp_skip (pass a w hJ _ (fun _ _ h1 h2 => ⟨h1, h2⟩))))

theorem Plan.to_ok {p : Plan} (h : p.Ok) (t : Int) : (p.to t).Ok := by
  obtain ⟨h1, h2, h3, h4, h5, h6, h7, h8, h9, h10⟩ := h
  refine ⟨h1, h2, h3, h4, h5, h6, ?_, h8, ?_, h10⟩
  · simp only [Plan.to]; omega
  · intro x hx
    have := h9 x hx
    simp only [Plan.to]; omega

theorem Plan.mid_step (p : Plan) {i : Nat} {x : Up} (h : p.l[i]? = some x) : p.mid (i + 1) = { p.mid i with l := (p.mid i).l.modify i (fun _ => x.ticked p.now p.wait p.tries) } := by
  have e := p.mid_succ h
  rw [← modify_const (p.mid_get h) (fun y => y.ticked p.now p.wait p.tries)] at e
  show Plan.mk _ _ _ _ _ _ _ _ _ _ = Plan.mk _ _ _ _ _ _ _ _ _ _
  simp only [Plan.mk.injEq]
  exact ⟨e, rfl, rfl, rfl, rfl, rfl, rfl, rfl, rfl, rfl⟩

theorem modify_same {α : Type} {l : List α} {i : Nat} {x : α} (hx : l[i]? = some x) : l.modify i (fun _ => x) = l := by
  apply List.ext_getElem?
  intro k
  simp only [List.getElem?_modify]
  by_cases hk : i = k
  · subst hk; simp [hx]
  · simp [hk]

theorem flatMap_le {α β : Type} (f : α → List β) (hf : ∀ x, (f x).length ≤ 1) (l : List α) : (l.flatMap f).length ≤ l.length := by
  induction l with
  | nil => simp
  | cons x l ih => simp only [List.flatMap_cons, List.length_append, List.length_cons]; have := hf x; omega

theorem Plan.goneTo_len (p : Plan) (i : Nat) (h : p.l.length ≤ 9) : (p.goneTo i).length ≤ 1000 := by
  have := flatMap_le (fun x : Up => x.goneOf p.now p.wait p.tries) (fun x => by unfold Up.goneOf; split <;> simp) (p.l.take i)
  have h2 := List.length_take_le i p.l
  simp only [Plan.goneTo]
  have h3 : (p.l.take i).length ≤ p.l.length := by simp; omega
  omega

theorem Plan.sendTo_len (p : Plan) (i : Nat) (h : p.l.length ≤ 9) : (p.sendTo i).length ≤ 1000 := by
  have := flatMap_le (fun x : Up => x.sendOf p.now p.wait p.tries) (fun x => by unfold Up.sendOf; split <;> simp) (p.l.take i)
  simp only [Plan.sendTo]
  have h3 : (p.l.take i).length ≤ p.l.length := by simp; omega
  omega

theorem Plan.mid_rest (p : Plan) {i : Nat} {x : Up} (h : p.l[i]? = some x) (hf : x.fate p.now p.wait p.tries = none) : p.mid (i + 1) = p.mid i := by
  rw [p.mid_step h]
  have e : x.ticked p.now p.wait p.tries = x := by unfold Up.ticked; rw [hf]
  rw [e, modify_same (p.mid_get h)]

theorem Plan.mid_ask (p : Plan) {i : Nat} {x : Up} (h : p.l[i]? = some x) (hi : i < p.next) (hf : x.fate p.now p.wait p.tries = some true) : p.mid (i + 1) = (p.mid i).ask i := by
  rw [p.mid_step h]
  have e : x.ticked p.now p.wait p.tries = x.ask p.now := by unfold Up.ticked; rw [hf]
  rw [e]
  simp only [Plan.ask]
  rw [modify_const (p.mid_get h) (fun y => y.ask p.now)]
  have e2 : max (p.mid i).next (i + 1) = (p.mid i).next := by show max p.next (i + 1) = p.next; omega
  rw [e2]
  rfl

set_option maxRecDepth 100000 in
set_option maxHeartbeats 4000000 in
theorem tick_any (w : World) (b : Nat) (v : Value) (P : Plan) (t : Int) (hP : PlanAt w b v P) (hb : P.begun = true) (ok : P.Ok) :
    Calls Try.prog 9 #[.pointer (some ⟨b, 0, none⟩), .int .i64 t] w fun e w' => ∃ g s, e = .returned (.tuple #[g, s]) ∧
      w'.ownsRow w.heap.size 3 1 g (P.tick t).1.length (ints (P.tick t).1) ∧ w'.ownsRow w.heap.size 3 1 s (P.tick t).2.1.length (ints (P.tick t).2.1) ∧
      PlanAt w' b v (P.tick t).2.2 ∧ Chg (PlanS b v) w w' := by
  have h9 := hP.c9
  rw [hb] at h9
  have hbl := lt_of_block hP.blk
  have hvl := hP.own.lt
  obtain ⟨Q, hQ⟩ : ∃ Q, Q = P.to t := ⟨_, rfl⟩
  have okQ : Q.Ok := by rw [hQ]; exact Plan.to_ok ok t
  obtain ⟨M, hM⟩ : ∃ M, M = Q.mid Q.next := ⟨_, rfl⟩
  have hT : P.tick t = (Q.goneTo Q.next, Q.sendTo Q.next ++ M.more.1, M.more.2) := by rw [hM, hQ]; rfl
  have HMM := Lib.hid hM
  rw [hT]
  have hto := to_any w b v P t hP
  rw [← hQ] at hto
  have HTO := Lib.hid hto
  have HVL := Lib.hid hvl
  have hlen := okQ.len
  have hnext := okQ.next
  have htime := okQ.time
  have hwait := okQ.wait
  have htries := okQ.tries
  have hevery := okQ.every
  have hks := okQ.ks
  have HU := Lib.hid okQ.ups
  have HR := Lib.hid okQ.rest
  clear hb hQ hT hto hvl okQ ok hM
  have HP := Lib.hid hP
  clear hP
  go_enter Try.func9, Try.ntmps9
  go_wp2_with fail
  refine wp_scope_label 0 (fun a' wr => ∃ (i : Nat) (I : Int) (g s u7 u8 u9 u10 u11 u12 u13 u14 u15 u16 u17 u18 u19 u20 u21 u22 u23 u24 u25 u26 u27 u28 u29 u30 u31 u32 u33 u34 u35 u36 u37 u38 u39 u40 u41 u42 u43 u44 u45 u46 u47 u48 u49 u50 u51 u52 u53 u54 u55 u56 u57 u58 u59 u60 u61 u62 u63 u64 u65 u66 u67 u68 u69 u70 u71 u72 u73 u74 u75 u76 u77 u78 u79 u80 u81 u82 : Value),
    a' = { tmps := #[.pointer (some ⟨b, 0, none⟩), .int .i64 t, undef, undef, g, s, .int .i64 I, u7, u8, u9, u10, u11, u12, u13, u14, u15, u16, u17, u18, u19, u20, u21, u22, u23, u24, u25, u26, u27, u28, u29, u30, u31, u32, u33, u34, u35, u36, u37, u38, u39, u40, u41, u42, u43, u44, u45, u46, u47, u48, u49, u50, u51, u52, u53, u54, u55, u56, u57, u58, u59, u60, u61, u62, u63, u64, u65, u66, u67, u68, u69, u70, u71, u72, u73, u74, u75, u76, u77, u78, u79, u80, u81, u82, undef, undef, undef, undef, undef, undef, undef, undef, undef, undef, undef, undef, undef, undef, undef, undef, undef, undef, undef, undef, undef, undef, undef, undef, undef, undef, undef, undef, undef, undef, undef, undef, undef, undef, undef, undef, undef, undef, undef, undef, undef, undef, undef, undef, undef], defers := [] } ∧
    I = i ∧ i ≤ Q.next ∧ PlanAt wr b v (Q.mid i) ∧ wr.ownsRow w.heap.size 3 1 g (Q.goneTo i).length (ints (Q.goneTo i)) ∧ wr.ownsRow w.heap.size 3 1 s (Q.sendTo i).length (ints (Q.sendTo i)) ∧ Dis g s ∧ Chg (PlanS b v) w wr)
    (fun a' _ => Q.next - (intOf (a'.tmps.getD 6 undef)).toNat) rfl ?pass ?first
  case first =>
    intro HPASS
    go_wp2_with fail
    refine HTO.out.mono ?_
    rintro e w1 ⟨rfl, hP1, hC1⟩
    clear h9
    go_wp2_with fail
    go_step3
    go_step
    go_step
    refine HPASS.out _ _ ⟨0, 0, .slice none 0 0, .slice none 0 0, _, _, _, _, _, _, _, _, _, _, _, _, _, _, _, _, _, _, _, _, _, _, _, _, _, _, _, _, _, _, _, _, _, _, _, _, _, _, _, _, _, _, _, _, _, _, _, _, _, _, _, _, _, _, _, _, _, _, _, _, _, _, _, _, _, _, _, _, _, _, _, _, _, _, _, _, rfl, rfl, Nat.zero_le _, ?_, ?_, ?_, Dis.nil _, hC1.mono (fun _ _ h => .inl h)⟩
    · rw [Plan.mid_zero]; exact hP1
    · exact World.ownsRow_nil _ _ _ _
    · exact World.ownsRow_nil _ _ _ _
  case pass =>
    rintro a' wr ⟨i, I, g, s, u7, u8, u9, u10, u11, u12, u13, u14, u15, u16, u17, u18, u19, u20, u21, u22, u23, u24, u25, u26, u27, u28, u29, u30, u31, u32, u33, u34, u35, u36, u37, u38, u39, u40, u41, u42, u43, u44, u45, u46, u47, u48, u49, u50, u51, u52, u53, u54, u55, u56, u57, u58, u59, u60, u61, u62, u63, u64, u65, u66, u67, u68, u69, u70, u71, u72, u73, u74, u75, u76, u77, u78, u79, u80, u81, u82, rfl, rfl, hi, hPi, hog, hos, hd, hC⟩ J' HJ
    have hbr : b < wr.heap.size := Nat.lt_of_lt_of_le hbl hC.size
    have h1 := hPi.c1
    have h1' : wr.cell? ⟨b, 1, none⟩ = some (.int .i64 Q.next) := h1
    clear h1
    by_cases hlt : i < Q.next
    · have hx : Q.l[i]? = some Q.l[i] := List.getElem?_eq_getElem (by omega)
      have hxm := HU.out Q.l[i] (List.getElem_mem (by omega))
      generalize Q.l[i] = x at *
      have hmx := Q.mid_get hx
      have hml := Q.mid_len i
      rcases hPi.form with ⟨hv, h2⟩ | ⟨bl, cap, hv, hcap, hcm, hgb⟩
      · rw [h2] at hmx; simp at hmx
      obtain ⟨hu0, hu1, hu2, hu3⟩ := hPi.up hv hmx
      have hfu := hPi.upFree hv
      rw [hml] at hv hcap
      have h0 := hPi.c0
      rw [hv] at h0
      have h3 : wr.cell? ⟨b, 3, none⟩ = some (.int .i64 Q.tries) := hPi.c3
      have h5 : wr.cell? ⟨b, 5, none⟩ = some (.int .i64 Q.wait) := hPi.c5
      have h7 : wr.cell? ⟨b, 7, none⟩ = some (.int .i64 Q.now) := hPi.c7
      have hlt' : (i : Int) < (Q.next : Int) := by omega
      have hbg : b ≠ bl := fun e => hgb e.symm
      have HX := Lib.hid hx
      have HV := Lib.hid hv
      have HMX := Lib.hid hmx
      have HML := Lib.hid hml
      clear hx hv hmx hml
      by_cases ho : x.op = true
      · rw [ho] at hu3
        by_cases hw : Q.now - x.last < Q.wait
        · have hfate : x.fate Q.now Q.wait Q.tries = none := by unfold Up.fate; rw [if_pos (.inr hw)]
          have hmid := Q.mid_rest HX.out hfate
          have HF := Lib.hid hfate
          have HM := Lib.hid hmid
          clear hfate hmid
          go_wp2_with fail
          go_quiet (fail)
          go_wp2_with fail
          go_step3
          have hgo : x.goneOf Q.now Q.wait Q.tries = [] := by unfold Up.goneOf; rw [HF.out]
          have hse : x.sendOf Q.now Q.wait Q.tries = [] := by unfold Up.sendOf; rw [HF.out]
          refine ⟨rfl, HJ.out _ _ ⟨i + 1, _, g, s, _, _, _, _, _, _, _, _, _, _, _, _, _, _, _, _, _, _, _, _, _, _, _, _, _, _, _, _, _, _, _, _, _, _, _, _, _, _, _, _, _, _, _, _, _, _, _, _, _, _, _, _, _, _, _, _, _, _, _, _, _, _, _, _, _, _, _, _, _, _, _, _, _, _, _, _, rfl, by omega, by omega, ?_, ?_, ?_, hd, hC.drewN _⟩ (by simp [intOf]; omega)⟩
          · rw [HM.out]; exact hPi.chg ((Chg.refl Nob wr).drewN _) (fun _ _ h => h)
          · rw [Q.goneTo_succ HX.out, hgo, List.append_nil]; exact hog
          · rw [Q.sendTo_succ HX.out, hse, List.append_nil]; exact hos
        · by_cases htr : Q.tries ≤ x.n
          · have hfate : x.fate Q.now Q.wait Q.tries = some false := by unfold Up.fate; rw [if_neg (by simp [ho]; omega), if_pos htr]
            have hmid := Q.mid_step HX.out
            have e : x.ticked Q.now Q.wait Q.tries = x.shut := by unfold Up.ticked; rw [hfate]
            rw [e] at hmid
            have HF := Lib.hid hfate
            have HM := Lib.hid hmid
            clear hfate hmid e
            have HPS : Hid (∀ n, PlanAt ((wr.drewN n).setCell ⟨bl, i * 4 + 3, none⟩ (.bool false)) b v (Q.mid (i + 1))) := by
              intro n
              have hPd : PlanAt (wr.drewN n) b v (Q.mid i) := hPi.chg ((Chg.refl Nob wr).drewN n) (fun _ _ h => h)
              have := hPd.storeUp (g := bl) (cap := cap) (by rw [HV.out, HML.out]) HMX.out (k := 3) (by omega) x.shut (u := .bool false) rfl rfl
              rw [HM.out]; exact this
            have HCS : Hid (∀ n, Chg (PlanS b v) w ((wr.drewN n).setCell ⟨bl, i * 4 + 3, none⟩ (.bool false))) := fun n =>
              (hC.drewN n).setCell (.inl (.inr (by rw [HV.out]; rfl))) _
            have hblw : bl < w.heap.size := (HVL.out bl (by rw [HV.out]; rfl)).2
            have HOG : Hid (∀ n o, (((wr.drewN n).setCell ⟨bl, i * 4 + 3, none⟩ (.bool false)).alloc o).ownsRow w.heap.size 3 1 g (Q.goneTo i).length (ints (Q.goneTo i))) := by
              intro n o
              refine World.ownsRow.alloc ?_ o
              refine ownsRow_setCell_other (w := wr.drewN n) hog (fun e => ?_) _
              have := (hog.lt _ e).1
              simp only at this; omega
            have hgl : (Q.goneTo i).length ≤ 1000 := Q.goneTo_len i hlen
            have hwl := hC.size
            go_wp2_with fail
            go_quiet (fail)
            go_wp2_with fail
            go_quiet (fail)
            go_wp2_with (at_builtin; go_loud (refine app_int _ rfl _ _ rfl w.heap.size g (Q.goneTo i) rfl (HOG.out _ _) ⟨wr.heap.size, 0, none⟩ 1 x.u rfl (by rw [World.cell?_alloc_at _ _ _ _ (by first | (rw [World.size_setCell]; done) | (rw [World.size_setCell]; rfl))]; first | done | rfl) hgl (by rw [World.size_alloc, World.size_setCell]; exact Nat.le_trans hwl (Nat.le_succ _)) ?_); intro v' w3 hown3 hgr3 hst3)
            go_step3
            have hgo : x.goneOf Q.now Q.wait Q.tries = [x.u] := by unfold Up.goneOf; rw [HF.out]
            have hse : x.sendOf Q.now Q.wait Q.tries = [] := by unfold Up.sendOf; rw [HF.out]
            have hC3 := ((HCS.out _).alloc _).grown hgr3 (fun j hj => .inr (hog.lt j hj).1)
            refine ⟨rfl, HJ.out _ _ ⟨i + 1, _, v', s, _, _, _, _, _, _, _, _, _, _, _, _, _, _, _, _, _, _, _, _, _, _, _, _, _, _, _, _, _, _, _, _, _, _, _, _, _, _, _, _, _, _, _, _, _, _, _, _, _, _, _, _, _, _, _, _, _, _, _, _, _, _, _, _, _, _, _, _, _, _, _, _, _, _, _, _, rfl, by omega, by omega, ?_, ?_, ?_, ?_, hC3⟩ (by simp [intOf]; omega)⟩
            · refine (HPS.out _).chg (((Chg.refl (fun j => g.ownBlock = some j) _).alloc _).grown hgr3 (fun j hj => .inl hj)) (fun j hs hj => ?_)
              have := (hog.lt j hj).1
              rcases hs with h | h
              · omega
              · have := (HVL.out j h).2; omega
            · rw [Q.goneTo_succ HX.out, hgo]; exact hown3
            · rw [Q.sendTo_succ HX.out, hse, List.append_nil]
              refine Chg.own (S := fun j => g.ownBlock = some j ∨ j = bl) (((((Chg.refl _ wr).drewN _).setCell (p := ⟨bl, i * 4 + 3, none⟩) (.inl (.inr rfl)) _).alloc _).grown hgr3 (fun j hj => .inl (.inl hj))) hos (fun j hj h => ?_)
              rcases h with h | h
              · exact hd j h hj
              · have := (hos.lt j hj).1; omega
            · refine (hd.symm.step (fun k hk => ?_) hst3).symm
              have := (hos.lt k hk).2
              simp; omega
          · have hfate : x.fate Q.now Q.wait Q.tries = some true := by unfold Up.fate; rw [if_neg (by simp [ho]; omega), if_neg htr]
            have hmid := Q.mid_ask HX.out hlt hfate
            have HF := Lib.hid hfate
            have HM := Lib.hid hmid
            clear hfate hmid
            have hgl : (Q.sendTo i).length ≤ 1000 := Q.sendTo_len i hlen
            have hwl := hC.size
            go_wp2_with fail
            go_quiet (fail)
            go_wp2_with fail
            go_quiet (fail)
            go_wp2_with fail
            refine (ask_any _ b v (Q.mid i) i x (hPi.chg ((Chg.refl Nob wr).drewN _) (fun _ _ h => h)) HMX.out (by rw [HML.out]; exact hlen) ⟨hxm.1, hxm.2.1⟩ (by show Q.next ≤ 9; omega)).mono ?_
            rintro e w2 ⟨rfl, hP2, hC2⟩
            rw [← HM.out] at hP2
            have hC2' : Chg (PlanS b v) wr w2 := Chg.trans ((Chg.refl _ wr).drewN _) hC2
            have hC3 := hC.trans hC2'
            have hnb : ∀ y n xs, wr.ownsRow w.heap.size 3 1 y n xs → ∀ j, y.ownBlock = some j → ¬ PlanS b v j := by
              intro y n xs hy j hj h
              have := (hy.lt j hj).1
              rcases h with h | h
              · have : j = b := h
                omega
              · have := (HVL.out j h).2; omega
            have hos2 := hC2'.own hos (hnb _ _ _ hos)
            have hog2 := hC2'.own hog (hnb _ _ _ hog)
            have hwl2 := hC3.size
            go_wp2_with (at_builtin; go_loud (refine app_int _ rfl _ _ rfl w.heap.size s (Q.sendTo i) rfl (hos2.alloc _) ⟨w2.heap.size, 0, none⟩ 1 x.u rfl (by simp) hgl (by simp; omega) ?_); intro v' w3 hown3 hgr3 hst3)
            go_step3
            have hgo : x.goneOf Q.now Q.wait Q.tries = [] := by unfold Up.goneOf; rw [HF.out]
            have hse : x.sendOf Q.now Q.wait Q.tries = [x.u] := by unfold Up.sendOf; rw [HF.out]
            have hC4 := (hC3.alloc _).grown hgr3 (fun j hj => .inr (hos.lt j hj).1)
            refine ⟨rfl, HJ.out _ _ ⟨i + 1, _, g, v', _, _, _, _, _, _, _, _, _, _, _, _, _, _, _, _, _, _, _, _, _, _, _, _, _, _, _, _, _, _, _, _, _, _, _, _, _, _, _, _, _, _, _, _, _, _, _, _, _, _, _, _, _, _, _, _, _, _, _, _, _, _, _, _, _, _, _, _, _, _, _, _, _, _, _, _, rfl, by omega, by omega, ?_, ?_, ?_, ?_, hC4⟩ (by simp [intOf]; omega)⟩
            · exact hP2.chg (((Chg.refl (fun j => s.ownBlock = some j) _).alloc _).grown hgr3 (fun j hj => .inl hj)) (fun j hs hj => hnb _ _ _ hos j hj hs)
            · rw [Q.goneTo_succ HX.out, hgo, List.append_nil]
              exact Chg.own (((Chg.refl (fun j => s.ownBlock = some j) _).alloc _).grown hgr3 (fun j hj => .inl hj)) hog2 (fun j hj h => hd j hj h)
            · rw [Q.sendTo_succ HX.out, hse]; exact hown3
            · refine hd.step (fun k hk => ?_) hst3
              have := (hog2.lt k hk).2
              simp; omega
      · have ho' : x.op = false := by simpa using ho
        rw [ho'] at hu3
        clear ho
        have hfate : x.fate Q.now Q.wait Q.tries = none := by unfold Up.fate; rw [if_pos (.inl ho')]
        have hmid := Q.mid_rest HX.out hfate
        have HF := Lib.hid hfate
        have HM := Lib.hid hmid
        clear hfate hmid
        go_wp2_with fail
        go_quiet (fail)
        go_wp2_with fail
        go_step3
        have hgo : x.goneOf Q.now Q.wait Q.tries = [] := by unfold Up.goneOf; rw [HF.out]
        have hse : x.sendOf Q.now Q.wait Q.tries = [] := by unfold Up.sendOf; rw [HF.out]
        refine ⟨rfl, HJ.out _ _ ⟨i + 1, _, g, s, _, _, _, _, _, _, _, _, _, _, _, _, _, _, _, _, _, _, _, _, _, _, _, _, _, _, _, _, _, _, _, _, _, _, _, _, _, _, _, _, _, _, _, _, _, _, _, _, _, _, _, _, _, _, _, _, _, _, _, _, _, _, _, _, _, _, _, _, _, _, _, _, _, _, _, _, rfl, by omega, by omega, ?_, ?_, ?_, hd, hC.drewN _⟩ (by simp [intOf]; omega)⟩
        · rw [HM.out]; exact hPi.chg ((Chg.refl Nob wr).drewN _) (fun _ _ h => h)
        · rw [Q.goneTo_succ HX.out, hgo, List.append_nil]; exact hog
        · rw [Q.sendTo_succ HX.out, hse, List.append_nil]; exact hos
    · have hin : i = Q.next := by omega
      have hge : (Q.next : Int) ≤ (i : Int) := by omega
      have hM := HMM.out
      have hPM : PlanAt wr b v M := by rw [hM, ← hin]; exact hPi
      have hog' : wr.ownsRow w.heap.size 3 1 g (Q.goneTo Q.next).length (ints (Q.goneTo Q.next)) := by rw [← hin]; exact hog
      have hos' : wr.ownsRow w.heap.size 3 1 s (Q.sendTo Q.next).length (ints (Q.sendTo Q.next)) := by rw [← hin]; exact hos
      have hml : M.l.length = Q.l.length := by rw [hM]; exact Q.mid_len _
      have hMn : M.next = Q.next := by rw [hM]; rfl
      have hMks : M.ks = Q.ks := by rw [hM]; rfl
      have hMnow : M.now = Q.now := by rw [hM]; rfl
      have hMst : M.start = Q.start := by rw [hM]; rfl
      have hMev : M.every = Q.every := by rw [hM]; rfl
      obtain ⟨a0, cap, hv⟩ : ∃ a0 cap, v = .slice a0 Q.l.length cap := by
        rcases hPM.form with ⟨hv, h2⟩ | ⟨bl, cap, hv, _⟩
        · rw [h2] at hml; exact ⟨_, _, by rw [← hml]; exact hv⟩
        · rw [hml] at hv; exact ⟨_, _, hv⟩
      have h0 := hPM.c0
      rw [hv] at h0
      have h4 : wr.cell? ⟨b, 4, none⟩ = some (.int .i64 Q.every) := by rw [← hMev]; exact hPM.c4
      have h6 : wr.cell? ⟨b, 6, none⟩ = some (.int .i64 Q.start) := by rw [← hMst]; exact hPM.c6
      have h7 : wr.cell? ⟨b, 7, none⟩ = some (.int .i64 Q.now) := by rw [← hMnow]; exact hPM.c7
      have h8 : wr.cell? ⟨b, 8, none⟩ = some (.int .i64 Q.ks) := by rw [← hMks]; exact hPM.c8
      have hfb := hPM.free
      have HML := Lib.hid hml
      have HMN := Lib.hid hMn
      have HMK := Lib.hid hMks
      have HMO := Lib.hid (And.intro hMnow (And.intro hMst hMev))
      have HV := Lib.hid hv
      have HIN := Lib.hid hin
      have HPI := Lib.hid hPi
      clear hM hml hMn hMks hMnow hMst hMev hv hin hPi hog hos
      have hk0 : 0 ≤ (Q.now - Q.start) / Q.every := Int.ediv_nonneg (by omega) (by omega)
      by_cases hks2 : Q.ks < (Q.now - Q.start) / Q.every
      · by_cases hnl : Q.next < Q.l.length
        · have hnl' : (Q.next : Int) < (Q.l.length : Int) := by omega
          go_wp2_with fail
          go_quiet (fail)
          go_wp2_with fail
          have hPK : PlanAt ((wr.drewN nq).setCell ⟨b, 8, none⟩ (.int .i64 ((Q.now - Q.start) / Q.every))) b v { M with ks := (Q.now - Q.start) / Q.every } := by
            have hPd : PlanAt (wr.drewN nq) b v M := hPM.chg ((Chg.refl Nob wr).drewN nq) (fun _ _ h => h)
            exact hPd.store rfl (by simp [Plan.cells])
          have hC1 : Chg (PlanS b v) wr ((wr.drewN nq).setCell ⟨b, 8, none⟩ (.int .i64 ((Q.now - Q.start) / Q.every))) := ((Chg.refl _ wr).drewN nq).setCell (.inl (.inl rfl)) _
          generalize (wr.drewN nq).setCell ⟨b, 8, none⟩ (.int .i64 ((Q.now - Q.start) / Q.every)) = w1 at *
          clear h0 h1' h4 h6 h7 h8 hfb
          have h0 := hPK.c0
          rw [HV.out] at h0
          have h1' : w1.cell? ⟨b, 1, none⟩ = some (.int .i64 Q.next) := by rw [← HMN.out]; exact hPK.c1
          have hnb : ∀ y n xs, wr.ownsRow w.heap.size 3 1 y n xs → ∀ j, y.ownBlock = some j → ¬ PlanS b v j := by
            intro y n xs hy j hj h
            have := (hy.lt j hj).1
            rcases h with h | h
            · have : j = b := h
              omega
            · have := (HVL.out j h).2; omega
          have hos1 := hC1.own hos' (hnb _ _ _ hos')
          have hog1 := hC1.own hog' (hnb _ _ _ hog')
          have HNB := Lib.hid hnb
          clear hnb
          have hx : Q.l[Q.next]? = some Q.l[Q.next] := List.getElem?_eq_getElem hnl
          have hxr := HR.out Q.next _ (Nat.le_refl _) hx
          generalize Q.l[Q.next] = x at *
          have hmx := Q.mid_get hx
          rw [← HMM.out] at hmx
          have hmore : M.more = ([x.u], ({ M with ks := (Q.now - Q.start) / Q.every } : Plan).ask Q.next) := by
            unfold Plan.more
            rw [HMK.out, HMO.out.1, HMO.out.2.1, HMO.out.2.2, if_pos hks2, HMN.out, HML.out, if_pos hnl]
            simp [Plan.uAt, hmx]
          have HX := Lib.hid hmx
          have HMORE := Lib.hid hmore
          clear hx hmx hmore
          have hgl : (Q.sendTo Q.next).length ≤ 1000 := Q.sendTo_len Q.next hlen
          go_quiet (fail)
          go_wp2_with fail
          refine (ask_any _ b v _ Q.next x (hPK.chg ((Chg.refl Nob w1).drewN _) (fun _ _ h => h)) HX.out (by show M.l.length ≤ 9; rw [HML.out]; exact hlen) (by omega) (by show M.next ≤ 9; rw [HMN.out]; omega)).mono ?_
          rintro e w2 ⟨rfl, hP2, hC2⟩
          have hC2' : Chg (PlanS b v) w1 w2 := Chg.trans ((Chg.refl _ w1).drewN _) hC2
          have hC3 := (hC.trans hC1).trans hC2'
          have hos2 := hC2'.own hos1 (fun j hj => HNB.out _ _ _ hos' j hj)
          have hog2 := hC2'.own hog1 (fun j hj => HNB.out _ _ _ hog' j hj)
          have hwl2 := hC3.size
          go_wp2_with (at_builtin; refine app_int _ rfl _ _ rfl w.heap.size s (Q.sendTo Q.next) rfl (hos2.alloc _) ⟨w2.heap.size, 0, none⟩ 1 x.u rfl (by simp) hgl (by simp; omega) ?_; intro v' w3 hown3 hgr3 _)
          simp only [Exit.jump]
          go_ret2
          rw [HMORE.out]
          refine ⟨g, v', rfl, ?_, hown3, ?_, (hC3.alloc _).grown hgr3 (fun j hj => .inr (hos'.lt j hj).1)⟩
          · exact Chg.own (((Chg.refl (fun j => s.ownBlock = some j) _).alloc _).grown hgr3 (fun j hj => .inl hj)) hog2 (fun j hj h => hd j hj h)
          · exact hP2.chg (((Chg.refl (fun j => s.ownBlock = some j) _).alloc _).grown hgr3 (fun j hj => .inl hj)) (fun j hs hj => HNB.out _ _ _ hos' j hj hs)
        · have hnl' : (Q.l.length : Int) ≤ (Q.next : Int) := by omega
          go_wp2_with fail
          go_quiet (fail)
          go_wp2_with fail
          have hPK : PlanAt ((wr.drewN nq).setCell ⟨b, 8, none⟩ (.int .i64 ((Q.now - Q.start) / Q.every))) b v { M with ks := (Q.now - Q.start) / Q.every } := by
            have hPd : PlanAt (wr.drewN nq) b v M := hPM.chg ((Chg.refl Nob wr).drewN nq) (fun _ _ h => h)
            exact hPd.store rfl (by simp [Plan.cells])
          have hC1 : Chg (PlanS b v) wr ((wr.drewN nq).setCell ⟨b, 8, none⟩ (.int .i64 ((Q.now - Q.start) / Q.every))) := ((Chg.refl _ wr).drewN nq).setCell (.inl (.inl rfl)) _
          generalize (wr.drewN nq).setCell ⟨b, 8, none⟩ (.int .i64 ((Q.now - Q.start) / Q.every)) = w1 at *
          clear h0 h1' h4 h6 h7 h8 hfb
          have h0 := hPK.c0
          rw [HV.out] at h0
          have h1' : w1.cell? ⟨b, 1, none⟩ = some (.int .i64 Q.next) := by rw [← HMN.out]; exact hPK.c1
          have hnb : ∀ y n xs, wr.ownsRow w.heap.size 3 1 y n xs → ∀ j, y.ownBlock = some j → ¬ PlanS b v j := by
            intro y n xs hy j hj h
            have := (hy.lt j hj).1
            rcases h with h | h
            · have : j = b := h
              omega
            · have := (HVL.out j h).2; omega
          have hos1 := hC1.own hos' (hnb _ _ _ hos')
          have hog1 := hC1.own hog' (hnb _ _ _ hog')
          have HNB := Lib.hid hnb
          clear hnb
          have hmore : M.more = ([], { M with ks := (Q.now - Q.start) / Q.every }) := by
            unfold Plan.more
            rw [HMK.out, HMO.out.1, HMO.out.2.1, HMO.out.2.2, if_pos hks2, HMN.out, HML.out, if_neg hnl]
          have HMORE := Lib.hid hmore
          clear hmore
          go_quiet (fail)
          go_wp2_with fail
          simp only [Exit.jump]
          go_ret2
          rw [HMORE.out, List.append_nil]
          exact ⟨g, s, rfl, hog1, hos1, hPK.chg ((Chg.refl Nob w1).drewN _) (fun _ _ h => h), (hC.trans hC1).drewN _⟩
      · have hmore : M.more = ([], M) := by
          unfold Plan.more
          rw [HMK.out, HMO.out.1, HMO.out.2.1, HMO.out.2.2, if_neg hks2]
        have HMORE := Lib.hid hmore
        clear hmore
        go_wp2_with fail
        go_quiet (fail)
        go_wp2_with fail
        simp only [Exit.jump]
        go_ret2
        rw [HMORE.out, List.append_nil]
        exact ⟨g, s, rfl, hog', hos', hPM.chg ((Chg.refl Nob wr).drewN _) (fun _ _ h => h), hC.drewN _⟩
end Go.Proofs.Ytbpbhccgnfakiaa.Hg
