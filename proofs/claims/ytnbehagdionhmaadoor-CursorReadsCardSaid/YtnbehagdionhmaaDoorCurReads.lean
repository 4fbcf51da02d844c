/- CursorReads, walked. -/
import Derived.Test.YtnbehagdionhmaaDoorCurDoes
import Derived.Deep.RegionHeld3
namespace Go.Proofs.YtnbehagdionhmaaDoor.Cur
open Go.RowKit Go.Proofs.YtnbehagdionhmaaDoor.Put

/-- From any point of the lexical order on, a region whose operations only read. -/
theorem wpAny_quiet_from {P : Program} {l : List Oper} {Q : Exit → Go.Act → World → Prop} {k fuel : Nat} {listed : Array Bool} {a : Go.Act} {w : World} (hs : Region.noSelect l.toArray = true)
    (hB : Region.lexFrom .any l.toArray (l.drop k).length k listed = true) (hf : fuel = (l.drop k).length) (h : wpQuiet P l.toArray (fun w' => ∃ n, w' = w.drewN n) (fun a' => ∀ w', (∃ n, w' = w.drewN n) → Q .normal a' w') (l.drop k) a) : wpAny P .any l.toArray Q fuel listed a w := by
  subst hf
  refine wpAny_of_quiet (C := fun w' => ∃ n, w' = w.drewN n) (Q := fun a' => ∀ w', (∃ n, w' = w.drewN n) → Q .normal a' w') (fun _ w' hw' h => h w' hw') _ _ _ _ ⟨0, rfl⟩ ?_
  exact wpAnyQ_lex hs (l.drop k) k listed a (fun j => by simp) hB h

theorem does_more (w : World) (b g : Nat) (s : ByteArray) (k : Nat) (a : Act) (ha : a.what < 256) (hbg : b ≠ g) (hg : As.Laid w) (h : At w b s k) (h' : RAt w g s k) :
    Calls Tryd.prog 21 #[.pointer (some ⟨b, 0, none⟩), .pointer (some ⟨g, 0, none⟩), .agg #[.int .u8 (a.what : Int), .int .i64 a.n]] w fun r w' => r = .returned (.bool true) ∧ ∃ k', At w' b s k' ∧ RAt w' g s k' ∧ Chg (fun i => i = b ∨ i = g) w w' ∧
      w'.cell? ⟨g, 0, none⟩ = some (.string s) ∧ w'.cell? ⟨g, 1, none⟩ = some (.int .i64 (k' : Int)) ∧ (0 : Int) ≤ (k' : Int) ∧ (k' : Int) ≤ (s.size : Int) :=
  (does_any w b g s k a ha hbg hg h h').mono fun _ _ ⟨h1, k', h2, h3, h4⟩ => ⟨h1, k', h2, h3, h4, h3.c0, h3.c1, Int.natCast_nonneg _, Int.ofNat_le.2 h3.le⟩

set_option maxRecDepth 100000 in
set_option maxHeartbeats 8000000 in
theorem reads_any (s : ByteArray) (v : Value) (l : List Act) (w : World) (hl : ActsAt w v l) (hg : As.Laid w) (hm : s.size ≤ 9223372036854775807) :
    Calls Tryd.prog 6 #[.string s, v] w fun e w' => e = .returned (.bool true) ∧ Chg Nob w w' := by
  obtain ⟨a, c, rfl, hmax, h32, hcell⟩ := hl
  have HG := Lib.hid hg
  have HM := Lib.hid h32
  have HL := Lib.hid hcell
  obtain ⟨n, hn⟩ : ∃ n, n = l.length := ⟨_, rfl⟩
  have HN := Lib.hid hn
  rw [← hn] at hmax ⊢
  clear hg h32 hcell hn
  have d0 : (0 : Int) ≤ (n : Int) := by omega
  by_cases hbig : s.size ≤ 20000
  · by_cases hbig2 : n ≤ 500
    · have d1 : ¬ (20000 : Int) < (s.size : Int) := by omega
      have d2 : ¬ (500 : Int) < (n : Int) := by omega
      have d3 : (s.size : Int) ≤ 20000 := by omega
      go_enter Tryd.func6, Tryd.ntmps6
      go_wp2_with fail
      refine (new_any s w hm).mono ?_
      rintro e w1 ⟨b, rfl, hb, hA1, hC1⟩
      have hgw : w.heap.size ≤ w1.heap.size := hC1.size
      have hlt := hA1.lt
      have hR1 : RAt (w1.alloc (.cells #[.string s, .int .i64 0] 50)) w1.heap.size s 0 := ⟨alloc_new w1 _, Nat.zero_le _, hm⟩
      have hA2 := hA1.nob ((Chg.refl Nob w1).alloc (.cells #[.string s, .int .i64 0] 50))
      have hD2 := hC1.alloc (.cells #[.string s, .int .i64 0] 50)
      clear hC1 hA1
      obtain ⟨g, hgg⟩ : ∃ g, g = w1.heap.size := ⟨_, rfl⟩
      rw [← hgg] at hR1 hgw hlt
      have HGG := Lib.hid hgg
      have hbg : b ≠ g := by omega
      go_wp2_with fail
      rw [← hgg]
      clear hgg
      go_loopw [7] (fun v wx => ∃ i : Nat, i ≤ n ∧ v = .int .i64 (i : Int) ∧ ∃ k, At wx b s k ∧ RAt wx g s k ∧ Chg Nob w wx) (fun v _ => n - (intOf v).toNat)
      case atStart => exact ⟨0, by omega, rfl, 0, hA2, hR1, hD2⟩
      case round =>
        obtain ⟨i, hi, rfl, k, hAk, hRk, hCk⟩ := hrel
        have i0 : (0 : Int) ≤ (i : Int) := by omega
        by_cases hij : i < n
        · have hij1 : (i : Int) < (n : Int) := by omega
          have hlt2 : i < l.length := by have := HN.out; omega
          obtain ⟨bl, off, rfl, hbl, hcell⟩ := HL.out.resolve_left (by intro e; rw [e] at hlt2; simp at hlt2)
          have hx := HM.out _ (List.getElem_mem hlt2)
          have hcw := hcell i _ (List.getElem?_eq_getElem hlt2)
          generalize l[i] = x at *
          have e1 := hCk.cell hcw.1 (fun h => h)
          have e2 := hCk.cell hcw.2 (fun h => h)
          have HX := Lib.hid hx
          have HGk := Lib.hid (HG.out.nob hCk)
          have HAk := Lib.hid hAk
          have HRk := Lib.hid hRk
          have HCk := Lib.hid hCk
          clear hcell hcw hx hAk hRk hCk
          have HDO := Lib.hid (does_more wr.drew b g s k x HX.out.1 hbg (HGk.out.nob (Chg.refl Nob wr).drew) (HAk.out.nob (Chg.refl Nob wr).drew) (HRk.out.nob (Chg.refl Nob wr).drew))
          go_upto_region 7 with fail
          refine wp_region_any (by kernel_rfl) ?_
          change wpAny _ _ _ _ _ _ _ (World.drew _)
          refine wpAny_take (i := 0) (v := ?v0) rfl (by kernel_rfl) (by kernel_rfl) (by kernel_rfl) (fun _ _ _ h => h) (Or.inl ⟨by rfl, ?hy0⟩) ?rest0
          case hy0 => (intro w; go_simp; try with_reducible rfl)
          refine wpAny_take (i := 1) (v := ?v1) rfl (by kernel_rfl) (by kernel_rfl) (by kernel_rfl) (fun _ _ _ h => h) (Or.inl ⟨by rfl, ?hy1⟩) ?rest1
          case hy1 => (intro w; go_simp; try with_reducible rfl)
          refine wpAny_take (i := 2) (v := ?v2) rfl (by kernel_rfl) (by kernel_rfl) (by kernel_rfl) (fun _ _ _ h => h) (Or.inl ⟨by rfl, ?hy2⟩) ?rest2
          case hy2 => (intro w; go_simp; try with_reducible rfl)
          refine wpAny_take (i := 3) (v := ?v3) rfl (by kernel_rfl) (by kernel_rfl) (by kernel_rfl) (fun _ _ _ h => h) (Or.inl ⟨by rfl, ?hy3⟩) ?rest3
          case hy3 => (intro w; go_simp; try with_reducible rfl)
          refine wpAny_take (i := 4) (v := ?v4) rfl (by kernel_rfl) (by kernel_rfl) (by kernel_rfl) (fun _ _ _ h => h) (Or.inl ⟨by rfl, ?hy4⟩) ?rest4
          case hy4 => (intro w; go_simp; try with_reducible rfl)
          refine wpAny_ready (rs := [5]) (by kernel_rfl) (by simp) ?_
          refine AllReady.cons rfl (fun K hK => ?_) AllReady.nil
          go_simp
          refine hK _ _ ?_
          clear hK K
          refine wpAny_ready (rs := [6]) (by kernel_rfl) (by simp) ?_
          refine AllReady.cons rfl (fun K hK => ?_) AllReady.nil
          go_simp
          refine HDO.out.mono ?_
          rintro r w' ⟨rfl, k1, hA, hR, hC, q0, q1, k3, k4⟩
          refine hK _ _ ?_
          clear hK K
          have HA := Lib.hid hA
          have HAT := Lib.hid (fun W (hW : Chg Nob w' W) => (at_any W b s k1 (HA.out.nob hW)).mono fun e w2 (h : e = .returned (.int .i64 (k1 : Int)) ∧ W = w2) => (⟨h.1, h.2.symm⟩ : e = .returned (.int .i64 (k1 : Int)) ∧ w2 = W))
          have HLF := Lib.hid (fun W (hW : Chg Nob w' W) => left_any W b s k1 (HA.out.nob hW))
          refine wpAny_quiet_from (k := 7) (by kernel_rfl) (by kernel_rfl) rfl ?_
          dsimp only [List.drop_succ_cons, List.drop_zero, List.drop]
          repeat (go_big_quiet_step (first | (go_at_call 22; refine Calls.quiet_of_same (HAT.out _ ((Chg.refl Nob w').drewN _))) | (go_at_call 23; refine Calls.quiet_of (HLF.out _ ((Chg.refl Nob w').drewN _)))))
          refine wpQuiet_nil ?_
          rintro _ ⟨nq, rfl⟩
          have hDD : Chg Nob w (w'.drewN nq) := (HCk.out.drew.trans' hC (fun i hi => .inr (by rcases hi with hi | hi <;> omega))).drewN nq
          have hR2 := hR.nob ((Chg.refl Nob w').drewN nq)
          have hA2 := HA.out.nob ((Chg.refl Nob w').drewN nq)
          clear hA hR hC
          go_wp2_with fail
          exact ⟨⟨i + 1, by omega, rfl, k1, hA2, hR2, hDD⟩, by simp [intOf]; omega⟩
        · obtain rfl : i = n := by omega
          have q0 := hRk.c0
          have q1 := hRk.c1
          have HAk := Lib.hid hAk
          have HRk := Lib.hid hRk
          clear hAk hRk
          go_upto_region 9 with fail
          go_region_held3 (fun w' => Chg Nob wr w' ∧ w'.cell? ⟨g, 0, none⟩ = some (.string s) ∧ w'.cell? ⟨g, 1, none⟩ = some (.int .i64 (k : Int)))
            (first
              | exact ⟨(Chg.refl Nob wr).drew, q0, q1⟩
              | exact (by
                  have hD := (‹Chg Nob wr _ ∧ _›).1.trans hC2
                  exact ⟨hD, (HRk.out.nob hD).c0, (HRk.out.nob hD).c1⟩)
              | go_keep)
            (first
              | (go_at_call 22; refine (at_any _ b s k (HAk.out.nob (‹Chg Nob wr _ ∧ _›).1)).mono ?_; rintro e w' ⟨rfl, rfl⟩)
              | (go_at_call 10; refine (awake_any _ (HG.out.nob (hCk.trans (‹Chg Nob wr _ ∧ _›).1))).mono ?_; rintro e w' ⟨rfl, hC2⟩))
          all_goals
            have hE := (‹Chg Nob wr _ ∧ _›).1
            go_wp2_with fail
            go_ret
            exact ⟨rfl, hCk.trans hE⟩
    · have d2 : (500 : Int) < (n : Int) := by omega
      have d1 : ¬ (20000 : Int) < (s.size : Int) := by omega
      go_enter Tryd.func6, Tryd.ntmps6
      go_wp2_with fail
      refine (awake_any w HG.out).mono ?_
      rintro e w0 ⟨rfl, hC0⟩
      go_wp2_with fail
      go_ret
      exact ⟨rfl, hC0⟩
  · have d1 : (20000 : Int) < (s.size : Int) := by omega
    go_enter Tryd.func6, Tryd.ntmps6
    go_wp2_with fail
    refine (awake_any w HG.out).mono ?_
    rintro e w0 ⟨rfl, hC0⟩
    go_wp2_with fail
    go_ret
    exact ⟨rfl, hC0⟩
end Go.Proofs.YtnbehagdionhmaaDoor.Cur
