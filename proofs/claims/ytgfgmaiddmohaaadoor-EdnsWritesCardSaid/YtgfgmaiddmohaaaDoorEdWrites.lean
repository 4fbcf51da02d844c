/- EdnsWrites, walked. -/
import Derived.Test.YtgfgmaiddmohaaaDoorEdA
import Derived.Test.YtgfgmaiddmohaaaDoorRegL
namespace Go.Proofs.YtgfgmaiddmohaaaDoor.Ed
open Go.RowKit Go.Proofs.YtgfgmaiddmohaaaDoor.Cur Go.Proofs.YtgfgmaiddmohaaaDoor.Put

/-- What both write. -/
theorem write_both (x : E) (hx : x.Ok) : ∃ (A B : Int) (S : ByteArray) (f : Int),
    (∀ W v, OptsAt W v x.opts → Calls Tryd.prog 30 #[.agg #[.int .u16 (x.size : Int), .int .u8 (x.ext : Int), .int .u8 (x.ver : Int), .int .u16 (x.flags : Int), v]] W fun r w' => r = .returned (.tuple #[.int .u16 A, .int .u32 B, .string S, .int .i64 f]) ∧ Chg Nob W w') ∧
    (∀ W v, OptsAt W v x.opts → Calls Tryd.prog 32 #[.agg #[.int .u16 (x.size : Int), .int .u8 (x.ext : Int), .int .u8 (x.ver : Int), .int .u16 (x.flags : Int), v]] W fun r w' => r = .returned (.tuple #[.int .u16 A, .int .u32 B, .string S, .int .i64 f]) ∧ Chg Nob W w') ∧
    ((∃ b, wro x.opts [] = some b ∧ A = (x.size : Int) ∧ B = (x.ttl : Int) ∧ S = ⟨b.toArray⟩ ∧ f = 0) ∨ (wro x.opts [] = none ∧ A = 0 ∧ B = 0 ∧ S = ⟨#[]⟩ ∧ f = 5)) := by
  cases h : wro x.opts [] with
  | some b =>
    refine ⟨x.size, x.ttl, ⟨b.toArray⟩, 0, fun W v hv => (write_any W x v hx hv).mono fun r w' h2 => ?_, fun W v hv => (rwrite_any W x v hx hv).mono fun r w' h2 => ?_, .inl ⟨b, rfl, rfl, rfl, rfl, rfl⟩⟩ <;>
    · obtain ⟨h2 | h2, hC⟩ := h2
      · obtain ⟨b', e, hr⟩ := h2
        rw [h] at e
        obtain rfl := Option.some.inj e
        exact ⟨hr, hC⟩
      · rw [h] at h2
        cases h2.1
  | none =>
    refine ⟨0, 0, ⟨#[]⟩, 5, fun W v hv => (write_any W x v hx hv).mono fun r w' h2 => ?_, fun W v hv => (rwrite_any W x v hx hv).mono fun r w' h2 => ?_, .inr ⟨rfl, rfl, rfl, rfl, rfl⟩⟩ <;>
    · obtain ⟨h2 | h2, hC⟩ := h2
      · obtain ⟨b', e, hr⟩ := h2
        rw [h] at e
        cases e
      · exact ⟨h2.2, hC⟩
/-- How both split. -/
theorem split_both (n : Int) : ∃ p q g : Int,
    (∀ W, Calls Tryd.prog 20 #[.int .i64 n] W fun e w' => e = .returned (.tuple #[.int .u8 p, .int .u8 q, .int .i64 g]) ∧ Chg Nob W w') ∧
    (∀ W, Calls Tryd.prog 33 #[.int .i64 n] W fun e w' => e = .returned (.tuple #[.int .u8 p, .int .u8 q, .int .i64 g]) ∧ Chg Nob W w') := by
  by_cases h : 0 ≤ n ∧ n ≤ 4095
  · obtain ⟨m, rfl⟩ := Int.eq_ofNat_of_zero_le h.1
    refine ⟨_, _, _, fun W => (split_ok W m (by omega)).mono fun e w' h => ⟨h.1, h.2 ▸ Chg.refl Nob W⟩, fun W => (rsplit_ok W m (by omega)).mono fun e w' h => ⟨h.1, h.2 ▸ Chg.refl Nob W⟩⟩
  · exact ⟨_, _, _, fun W => (split_no W n (by omega)).mono fun _ _ h => ⟨h.1, h.2 ▸ Chg.refl Nob W⟩, fun W => (rsplit_no W n (by omega)).mono fun _ _ h => ⟨h.1, h.2 ▸ Chg.refl Nob W⟩⟩
theorem bool_of {a b : Bool} {P : Prop} (h1 : a = true ↔ P) (h2 : b = true ↔ P) : a = b := Bool.eq_iff_iff.2 (h1.trans h2.symm)
theorem same_q (w : World) (x y : E) (v u : Value) (q : Bool) (hv : OptsAt w v x.opts) (hu : OptsAt w u y.opts) (hq : q = true ↔ x = y) :
    Calls Tryd.prog 34 #[.agg #[.int .u16 (x.size : Int), .int .u8 (x.ext : Int), .int .u8 (x.ver : Int), .int .u16 (x.flags : Int), v], .agg #[.int .u16 (y.size : Int), .int .u8 (y.ext : Int), .int .u8 (y.ver : Int), .int .u16 (y.flags : Int), u]] w fun e w' => e = .returned (.bool q) ∧ Chg Nob w w' :=
  (same_any w x y v u hv hu).mono fun e w' h => by
    obtain ⟨b, rfl, hb, hC⟩ := h
    rw [bool_of hb hq]
    exact ⟨rfl, hC⟩
theorem rsame_q (w : World) (x y : E) (v u : Value) (q : Bool) (hv : OptsAt w v x.opts) (hu : OptsAt w u y.opts) (hq : q = true ↔ x = y) :
    Calls Tryd.prog 29 #[.agg #[.int .u16 (x.size : Int), .int .u8 (x.ext : Int), .int .u8 (x.ver : Int), .int .u16 (x.flags : Int), v], .agg #[.int .u16 (y.size : Int), .int .u8 (y.ext : Int), .int .u8 (y.ver : Int), .int .u16 (y.flags : Int), u]] w fun e w' => e = .returned (.bool q) ∧ Chg Nob w w' :=
  (rsame_any w x y v u hv hu).mono fun e w' h => by
    obtain ⟨b, rfl, hb, hC⟩ := h
    rw [bool_of hb hq]
    exact ⟨rfl, hC⟩
theorem code_both (x y : Nat) (hx : x < 256) (hy : y < 256) : ∃ N : Int,
    (∀ W, Calls Tryd.prog 21 #[.int .u8 (x : Int), .int .u8 (y : Int)] W fun e w' => e = .returned (.int .i64 N) ∧ Chg Nob W w') ∧
    (∀ W, Calls Tryd.prog 35 #[.int .u8 (x : Int), .int .u8 (y : Int)] W fun e w' => e = .returned (.int .i64 N) ∧ Chg Nob W w') :=
  ⟨_, fun W => (code_any W x y hx hy).mono fun _ _ h => ⟨h.1, h.2 ▸ Chg.refl Nob W⟩, fun W => (rcode_any W x y hx hy).mono fun _ _ h => ⟨h.1, h.2 ▸ Chg.refl Nob W⟩⟩
/-- What a slot of the last region holds. -/
def Vals (l : List Value) (j : Nat) (v : Value) (_ : World) : Prop := v = l.getD j undef
theorem OptsAt.far {w w' : World} {a : Option Addr} {n c : Nat} {l : List Opt} (h : OptsAt w (.slice a n c) l) {S : Nat → Prop} (hs : ∀ x, a = some x → ¬ S x.block) (hc : Chg S w w') : OptsAt w' (.slice a n c) l := by
  obtain ⟨a', c0, e, hl, hk, h⟩ := h
  injection e with e1 e2 e3
  subst e1
  refine ⟨a, c0, by rw [e2, e3], hl, hk, ?_⟩
  rcases h with h | ⟨b, off, rfl, hb, h⟩
  · exact .inl h
  · exact .inr ⟨b, off, rfl, Nat.lt_of_lt_of_le hb hc.size, fun i o ho => ⟨hc.cell (h i o ho).1 (hs ⟨b, off, none⟩ rfl), hc.cell (h i o ho).2 (hs ⟨b, off, none⟩ rfl)⟩⟩

set_option maxRecDepth 100000 in
set_option maxHeartbeats 4000000 in
theorem writes_any (w : World) (x y : E) (v u : Value) (cd ex : Nat) (n : Int) (hx : x.Ok) (_hy : y.Ok) (hv : OptsAt w v x.opts) (hu : OptsAt w u y.opts) (hcd : cd < 256) (hex : ex < 256) (_hn : -9223372036854775808 ≤ n ∧ n ≤ 9223372036854775807) (hg : As.Laid w) :
    Calls Tryd.prog 13 #[.agg #[.int .u16 (x.size : Int), .int .u8 (x.ext : Int), .int .u8 (x.ver : Int), .int .u16 (x.flags : Int), v], .agg #[.int .u16 (y.size : Int), .int .u8 (y.ext : Int), .int .u8 (y.ver : Int), .int .u16 (y.flags : Int), u], .int .u8 (cd : Int), .int .u8 (ex : Int), .int .i64 n] w fun r w' => r = .returned (.bool true) ∧ Chg Nob w w' := by
  have HV := Lib.hid hv
  have HU := Lib.hid hu
  have HG := Lib.hid hg
  have HXK := Lib.hid hx
  obtain ⟨ad, c, rfl, hl, hxok, hcx⟩ := hv
  clear hxok hcx
  obtain ⟨ad', c', rfl, hl', hyok, hcy⟩ := hu
  clear hyok hcy
  have HLx := Lib.hid (fun W v (h : OptsAt W v x.opts) => long_any W x v h)
  have HLy := Lib.hid (fun W v (h : OptsAt W v y.opts) => long_any W y v h)
  obtain ⟨k, hk⟩ : ∃ k, k = x.opts.length := ⟨_, rfl⟩
  obtain ⟨k', hk'⟩ : ∃ k, k = y.opts.length := ⟨_, rfl⟩
  rw [← hk] at HV hl ⊢
  rw [← hk'] at HU hl' ⊢
  have HK := Lib.hid hk
  have HK' := Lib.hid hk'
  clear hk hk' hg
  have ry := alloc_new (w.alloc (.cells #[.int .u16 (x.size : Int), .int .u8 (x.ext : Int), .int .u8 (x.ver : Int), .int .u16 (x.flags : Int), .slice ad k c] 55)) (.cells #[.int .u16 (y.size : Int), .int .u8 (y.ext : Int), .int .u8 (y.ver : Int), .int .u16 (y.flags : Int), .slice ad' k' c'] 55)
  have rx := alloc_blk (alloc_new w (.cells #[.int .u16 (x.size : Int), .int .u8 (x.ext : Int), .int .u8 (x.ver : Int), .int .u16 (x.flags : Int), .slice ad k c] 55)) (.cells #[.int .u16 (y.size : Int), .int .u8 (y.ext : Int), .int .u8 (y.ver : Int), .int .u16 (y.flags : Int), .slice ad' k' c'] 55)
  have hC0 := ((Chg.refl Nob w).alloc (.cells #[.int .u16 (x.size : Int), .int .u8 (x.ext : Int), .int .u8 (x.ver : Int), .int .u16 (x.flags : Int), .slice ad k c] 55)).alloc (.cells #[.int .u16 (y.size : Int), .int .u8 (y.ext : Int), .int .u8 (y.ver : Int), .int .u16 (y.flags : Int), .slice ad' k' c'] 55)
  go_enter Tryd.func13, Tryd.ntmps13
  go_wp2_with fail
  generalize World.alloc (World.alloc w _) _ = W0 at *
  rw [World.size_alloc] at ry
  generalize hmx : w.heap.size = mx at *
  refine (HLx.out W0 _ (HV.out.nob hC0)).mono ?_
  rintro r w1 ⟨b1, rfl, hb1, hC1⟩
  have rx1 := hC1.heap rx (fun h => h)
  have ry1 := hC1.heap ry (fun h => h)
  have hD1 := hC0.trans hC1
  have cx1 := fun i => cell_blk rx1 i
  have cy1 := fun i => cell_blk ry1 i
  clear rx ry hC0 hC1
  cases b1 with
  | true =>
    clear hb1
    go_wp2_with fail
    refine (awake_any w1 (HG.out.nob hD1)).mono ?_
    rintro r w2 ⟨rfl, hC2⟩
    go_wp2_with fail
    (try simp only [Exit.inBlock, Exit.then])
    exact bodyPost_ret (v := .bool true) (by simp [results, Tryd.results13, go_sem]) rfl ⟨rfl, hD1.trans hC2⟩
  | false =>
    have hk3 := hb1 rfl
    rw [← HK.out] at hk3
    clear hb1
    go_wp2_with fail
    refine (HLy.out w1 _ (HU.out.nob hD1)).mono ?_
    rintro r w2 ⟨b2, rfl, hb2, hC2⟩
    have rx2 := hC2.heap rx1 (fun h => h)
    have ry2 := hC2.heap ry1 (fun h => h)
    have hD2 := hD1.trans hC2
    have cx2 := fun i => cell_blk rx2 i
    have cy2 := fun i => cell_blk ry2 i
    clear rx1 ry1 cx1 cy1 hD1 hC2
    cases b2 with
    | true =>
      clear hb2
      go_wp2_with fail
      refine (awake_any w2 (HG.out.nob hD2)).mono ?_
      rintro r w3 ⟨rfl, hC3⟩
      go_wp2_with fail
      (try simp only [Exit.inBlock, Exit.then])
      exact bodyPost_ret (v := .bool true) (by simp [results, Tryd.results13, go_sem]) rfl ⟨rfl, hD2.trans hC3⟩
    | false =>
      clear hb2
      have hlx := lt_of_block rx2
      have hly := lt_of_block ry2
      have n1 : mx ≠ w2.heap.size := by omega
      have n2 : mx ≠ w2.heap.size + 1 := by omega
      clear hx _hy
      have hE : ∀ W : World, W.heap[w2.heap.size + 1]? = some (.cells #[] 61 (0, 0)) → W.ownsRow (w2.heap.size + 1) 61 2 (.slice (some ⟨w2.heap.size + 1, 0, none⟩) 0 0) ([] : List Opt).length (optsV []) := fun W h => own_none h
      have hb4 := alloc_new (w2.alloc (.cells #[.int .u16 (x.size : Int), .int .u8 (x.ext : Int), .int .u8 (x.ver : Int), .int .u16 (x.flags : Int), .slice ad k c] 55)) (.cells #[] 61)
      rw [World.size_alloc] at hb4
      have HOX := Lib.hid (HV.out.nob ((hD2.alloc (.cells #[.int .u16 (x.size : Int), .int .u8 (x.ext : Int), .int .u8 (x.ver : Int), .int .u16 (x.flags : Int), .slice ad k c] 55)).alloc (.cells #[] 61)))
      have HE := Lib.hid (hE _ hb4)
      have hDA := (hD2.alloc (.cells #[.int .u16 (x.size : Int), .int .u8 (x.ext : Int), .int .u8 (x.ver : Int), .int .u16 (x.flags : Int), .slice ad k c] 55)).alloc (.cells #[] 61)
      have HIN := Lib.hid (alloc_blk (alloc_new w2 (.cells #[.int .u16 (x.size : Int), .int .u8 (x.ext : Int), .int .u8 (x.ver : Int), .int .u16 (x.flags : Int), .slice ad k c] 55)) (.cells #[] 61))
      have HRX := Lib.hid (alloc_blk (alloc_blk rx2 (.cells #[.int .u16 (x.size : Int), .int .u8 (x.ext : Int), .int .u8 (x.ver : Int), .int .u16 (x.flags : Int), .slice ad k c] 55)) (.cells #[] 61))
      have HRY := Lib.hid (alloc_blk (alloc_blk ry2 (.cells #[.int .u16 (x.size : Int), .int .u8 (x.ext : Int), .int .u8 (x.ver : Int), .int .u16 (x.flags : Int), .slice ad k c] 55)) (.cells #[] 61))
      clear hE hb4 rx2 ry2 cy2
      go_wp2_with (at_builtin; refine app_opts _ rfl _ _ rfl _ _ [] rfl HE.out (by intro o ho; cases ho) _ x.opts rfl HOX.out (by rw [← HK.out]; simp only [List.length_nil]; omega) (by rw [World.size_alloc, World.size_alloc]; omega) ?_; rw [List.nil_append, ← HK.out]; intro a3 c3 w3 hown3 hO3 hC3; have rin3 := hC3.heap HIN.out (fun h => by have h2 : w2.heap.size + 1 ≤ w2.heap.size := h; omega); have cin3 := fun i => cell_blk rin3 i; have zin3 := fun i => frozen_blk rin3 i; have HRX3 := Lib.hid (hC3.heap HRX.out (fun h => by have h2 : w2.heap.size + 1 ≤ mx := h; omega)); have HRY3 := Lib.hid (hC3.heap HRY.out (fun h => by have h2 : w2.heap.size + 1 ≤ mx + 1 := h; omega)); clear HRX HRY HIN cx2 HE)
      have hne3 : ∀ z, a3 = some z → z.block ≠ w2.heap.size := by
        intro z hz
        rcases hown3.2 with ⟨h, _⟩ | ⟨g, cap, cur, h, hbg, _⟩
        · injection h with h
          rw [h] at hz
          cases hz
        · injection h with h
          rw [h] at hz
          injection hz with hz
          subst hz
          show g ≠ w2.heap.size
          omega
      have hC4 : Chg (Only w2.heap.size) w3 (w3.setCell ⟨w2.heap.size, 4, none⟩ (.slice a3 k c3)) := (Chg.refl (Only w2.heap.size) w3).setCell (p := ⟨w2.heap.size, 4, none⟩) (.inl rfl) _
      have hD4 : Chg Nob w (w3.setCell ⟨w2.heap.size, 4, none⟩ (.slice a3 k c3)) := (hDA.trans' hC3 (fun j hj => .inr (by have h2 : w2.heap.size + 1 ≤ j := hj; omega))).setCell (p := ⟨w2.heap.size, 4, none⟩) (.inr (by show w.heap.size ≤ w2.heap.size; omega)) _
      have hO4 := OptsAt.only hO3 hne3 hC4
      have rin4 := set_blk rin3 4 (.slice a3 k c3)
      have rx4 := hC4.heap HRX3.out (fun e => by have e2 : mx = w2.heap.size := e; omega)
      have ry4 := hC4.heap HRY3.out (fun e => by have e2 : mx + 1 = w2.heap.size := e; omega)
      have hRI : (#[.int .u16 (x.size : Int), .int .u8 (x.ext : Int), .int .u8 (x.ver : Int), .int .u16 (x.flags : Int), .slice ad k c] : Array Value).setIfInBounds 4 (.slice a3 k c3) = #[.int .u16 (x.size : Int), .int .u8 (x.ext : Int), .int .u8 (x.ver : Int), .int .u16 (x.flags : Int), .slice a3 k c3] := rfl
      rw [hRI] at rin4
      clear hRI rin3 cin3 zin3 hC4 hC3 hDA HRX3 HRY3 HOX hO3 hown3 hne3 n1 n2 hD2 hl hl' hk3
      generalize hmi : w2.heap.size = mi at *
      generalize World.setCell w3 _ _ = W4 at *
      obtain ⟨A, B, S, f, hW1, hW2, _⟩ := write_both x HXK.out
      obtain ⟨p1, p2, p3, hP1, hP2⟩ := split_both n
      have HW1 := Lib.hid hW1
      have HW2 := Lib.hid hW2
      have HP1 := Lib.hid hP1
      have HP2 := Lib.hid hP2
      have HO4 := Lib.hid hO4
      clear hW1 hW2 hP1 hP2 hO4
      refine (HW1.out W4 _ HO4.out).mono ?_
      rintro r w5 ⟨rfl, hC5⟩
      have rx5 := hC5.heap rx4 (fun h => h)
      have cx5 := fun i => cell_blk rx5 i
      go_wp2_with fail
      refine (HW2.out w5 _ (HV.out.nob (hD4.trans hC5))).mono ?_
      rintro r w6 ⟨rfl, hC6⟩
      go_wp2_with fail
      refine (HP1.out w6).mono ?_
      rintro r w7 ⟨rfl, hC7⟩
      go_wp2_with fail
      refine (HP2.out w7).mono ?_
      rintro r w8 ⟨rfl, hC8⟩
      have hE := ((hC5.trans hC6).trans hC7).trans hC8
      have HD := Lib.hid (hD4.trans hE)
      have HCI := Lib.hid (fun W (h : Chg Nob w8 W) => fun i => cell_blk ((hE.trans h).heap rin4 (fun h => h)) i)
      have HCX := Lib.hid (fun W (h : Chg Nob w8 W) => fun i => cell_blk ((hE.trans h).heap rx4 (fun h => h)) i)
      have HCY := Lib.hid (fun W (h : Chg Nob w8 W) => fun i => cell_blk ((hE.trans h).heap ry4 (fun h => h)) i)
      obtain ⟨q, hq⟩ : ∃ q : Bool, q = true ↔ x = y := by
        by_cases h : x = y
        · exact ⟨true, by simp [h]⟩
        · exact ⟨false, by simp [h]⟩
      have HOI := Lib.hid (fun W (h : Chg Nob w8 W) => HO4.out.nob (hE.trans h))
      have HS1 := Lib.hid (fun W (h : Chg Nob w8 W) => same_q W x y _ _ q (HOI.out W h) (HU.out.nob (HD.out.trans h)) hq)
      have HS2 := Lib.hid (fun W (h : Chg Nob w8 W) => rsame_q W x y _ _ q (HV.out.nob (HD.out.trans h)) (HU.out.nob (HD.out.trans h)) hq)
      have HS3 := Lib.hid (fun W (h : Chg Nob w8 W) => same_q W x x _ _ true (HOI.out W h) (HV.out.nob (HD.out.trans h)) (by simp))
      have HS4 := Lib.hid (fun W (h : Chg Nob w8 W) => rsame_q W x x _ _ true (HOI.out W h) (HV.out.nob (HD.out.trans h)) (by simp))
      obtain ⟨N, hN1, hN2⟩ := code_both cd ex hcd hex
      have HC1 := Lib.hid hN1
      have HC2 := Lib.hid hN2
      clear hC5 hC6 hC7 hC8 rx5 cx5 hN1 hN2 hq hD4
      go_upto_region 9 with fail
      have hTm : ∀ (l : List Value) (j : Nat) (u : Value) (w w' : World), Chg Nob w w' → Vals l j u w → Vals l j u w' := fun _ _ _ _ _ _ h => h
      refine Reg.region_typed (T := Vals [.int .u16 A, .int .u16 A, .bool true, .bool true, .int .u32 B, .int .u32 B, .bool true, .bool true, .bool true, .string S, .string S, .bool true, .bool true, .bool true, .int .i64 f, .int .i64 f, .bool true, .bool true, .bool true, .agg #[.int .u16 (x.size : Int), .int .u8 (x.ext : Int), .int .u8 (x.ver : Int), .int .u16 (x.flags : Int), .slice a3 k c3], .agg #[.int .u16 (y.size : Int), .int .u8 (y.ext : Int), .int .u8 (y.ver : Int), .int .u16 (y.flags : Int), .slice ad' k' c'], .bool q, .agg #[.int .u16 (x.size : Int), .int .u8 (x.ext : Int), .int .u8 (x.ver : Int), .int .u16 (x.flags : Int), .slice ad k c], .agg #[.int .u16 (y.size : Int), .int .u8 (y.ext : Int), .int .u8 (y.ver : Int), .int .u16 (y.flags : Int), .slice ad' k' c'], .bool q, .bool true, .bool true, .bool true, .agg #[.int .u16 (x.size : Int), .int .u8 (x.ext : Int), .int .u8 (x.ver : Int), .int .u16 (x.flags : Int), .slice a3 k c3], .agg #[.int .u16 (x.size : Int), .int .u8 (x.ext : Int), .int .u8 (x.ver : Int), .int .u16 (x.flags : Int), .slice ad k c], .bool true, .bool true, .bool true, .agg #[.int .u16 (x.size : Int), .int .u8 (x.ext : Int), .int .u8 (x.ver : Int), .int .u16 (x.flags : Int), .slice a3 k c3], .agg #[.int .u16 (x.size : Int), .int .u8 (x.ext : Int), .int .u8 (x.ver : Int), .int .u16 (x.flags : Int), .slice ad k c], .bool true, .bool true, .bool true, .int .u8 (cd : Int), .int .u8 (ex : Int), .int .i64 N, .int .u8 (cd : Int), .int .u8 (ex : Int), .int .i64 N, .bool true, .bool true, .bool true, .int .u8 p1, .int .u8 p1, .bool true, .bool true, .bool true, .int .u8 p2, .int .u8 p2, .bool true, .bool true, .bool true, .int .i64 p3, .int .i64 p3, .bool true, .bool true, .bool true, .bool true, .bool true, .bool true]) (I := fun _ w' => Chg Nob w8 w') (by kernel_rfl) (by kernel_rfl) (Chg.refl Nob w8).drew ?_ ?_
      · skip
        intro i o ho listed a w hafter hI hK K hKK
        have hi : i < 65 := (Array.getElem?_eq_some_iff.1 ho).1
        have hcase : i = 0 ∨ i = 1 ∨ i = 2 ∨ i = 3 ∨ i = 4 ∨ i = 5 ∨ i = 6 ∨ i = 7 ∨ i = 8 ∨ i = 9 ∨ i = 10 ∨ i = 11 ∨ i = 12 ∨ i = 13 ∨ i = 14 ∨ i = 15 ∨ i = 16 ∨ i = 17 ∨ i = 18 ∨ i = 19 ∨ i = 20 ∨ i = 21 ∨ i = 22 ∨ i = 23 ∨ i = 24 ∨ i = 25 ∨ i = 26 ∨ i = 27 ∨ i = 28 ∨ i = 29 ∨ i = 30 ∨ i = 31 ∨ i = 32 ∨ i = 33 ∨ i = 34 ∨ i = 35 ∨ i = 36 ∨ i = 37 ∨ i = 38 ∨ i = 39 ∨ i = 40 ∨ i = 41 ∨ i = 42 ∨ i = 43 ∨ i = 44 ∨ i = 45 ∨ i = 46 ∨ i = 47 ∨ i = 48 ∨ i = 49 ∨ i = 50 ∨ i = 51 ∨ i = 52 ∨ i = 53 ∨ i = 54 ∨ i = 55 ∨ i = 56 ∨ i = 57 ∨ i = 58 ∨ i = 59 ∨ i = 60 ∨ i = 61 ∨ i = 62 ∨ i = 63 ∨ i = 64 := by omega
        clear hi
        rcases hcase with rfl | rfl | rfl | rfl | rfl | rfl | rfl | rfl | rfl | rfl | rfl | rfl | rfl | rfl | rfl | rfl | rfl | rfl | rfl | rfl | rfl | rfl | rfl | rfl | rfl | rfl | rfl | rfl | rfl | rfl | rfl | rfl | rfl | rfl | rfl | rfl | rfl | rfl | rfl | rfl | rfl | rfl | rfl | rfl | rfl | rfl | rfl | rfl | rfl | rfl | rfl | rfl | rfl | rfl | rfl | rfl | rfl | rfl | rfl | rfl | rfl | rfl | rfl | rfl | rfl
        · have ho2 := ho
          obtain rfl := (Option.some.inj ho).symm
          have e12 : a.tmps.getD 12 undef = .int .u16 A := (Reg.base_at hK 12 (by kernel_rfl)).trans rfl
          rw [if_pos (Reg.wanted_none rfl)]
          exact Reg.wp_val (v := .int .u16 A) (w' := w) (by simp [go_sem, execOp, Act.eval, e12]) (hKK _ _ rfl hI fun _ _ h => h)
        · have ho2 := ho
          obtain rfl := (Option.some.inj ho).symm
          have e16 : a.tmps.getD 16 undef = .int .u16 A := (Reg.base_at hK 16 (by kernel_rfl)).trans rfl
          rw [if_pos (Reg.wanted_none rfl)]
          exact Reg.wp_val (v := .int .u16 A) (w' := w) (by simp [go_sem, execOp, Act.eval, e16]) (hKK _ _ rfl hI fun _ _ h => h)
        · have ho2 := ho
          obtain rfl := (Option.some.inj ho).symm
          have e65 : a.tmps.getD 65 undef = .int .u16 A := hK.done 0 65 rfl (Reg.listed_of ho2 hafter (by kernel_rfl))
          have e66 : a.tmps.getD 66 undef = .int .u16 A := hK.done 1 66 rfl (Reg.listed_of ho2 hafter (by kernel_rfl))
          rw [if_pos (Reg.wanted_none rfl)]
          exact Reg.wp_val (v := .bool true) (w' := w) (by simp [go_sem, execOp, Act.eval, e65, e66]) (hKK _ _ rfl hI fun _ _ h => h)
        · have ho2 := ho
          obtain rfl := (Option.some.inj ho).symm
          have e67 : a.tmps.getD 67 undef = .bool true := hK.done 2 67 rfl (Reg.listed_of ho2 hafter (by kernel_rfl))
          rw [if_pos (Reg.wanted_none rfl)]
          exact Reg.wp_val (v := .bool true) (w' := w) (by simp [go_sem, execOp, Act.eval, e67]) (hKK _ _ rfl hI fun _ _ h => h)
        · have ho2 := ho
          obtain rfl := (Option.some.inj ho).symm
          have e13 : a.tmps.getD 13 undef = .int .u32 B := (Reg.base_at hK 13 (by kernel_rfl)).trans rfl
          have eg : a.tmps.getD 68 undef = .bool true := hK.done 3 68 rfl (Reg.listed_of ho2 hafter (by kernel_rfl))
          rw [if_pos (Reg.wanted_some rfl rfl eg)]
          exact Reg.wp_val (v := .int .u32 B) (w' := w) (by simp [go_sem, execOp, Act.eval, e13]) (hKK _ _ rfl hI fun _ _ h => h)
        · have ho2 := ho
          obtain rfl := (Option.some.inj ho).symm
          have e17 : a.tmps.getD 17 undef = .int .u32 B := (Reg.base_at hK 17 (by kernel_rfl)).trans rfl
          have eg : a.tmps.getD 68 undef = .bool true := hK.done 3 68 rfl (Reg.listed_of ho2 hafter (by kernel_rfl))
          rw [if_pos (Reg.wanted_some rfl rfl eg)]
          exact Reg.wp_val (v := .int .u32 B) (w' := w) (by simp [go_sem, execOp, Act.eval, e17]) (hKK _ _ rfl hI fun _ _ h => h)
        · have ho2 := ho
          obtain rfl := (Option.some.inj ho).symm
          have e69 : a.tmps.getD 69 undef = .int .u32 B := hK.done 4 69 rfl (Reg.listed_of ho2 hafter (by kernel_rfl))
          have e70 : a.tmps.getD 70 undef = .int .u32 B := hK.done 5 70 rfl (Reg.listed_of ho2 hafter (by kernel_rfl))
          have eg : a.tmps.getD 68 undef = .bool true := hK.done 3 68 rfl (Reg.listed_of ho2 hafter (by kernel_rfl))
          rw [if_pos (Reg.wanted_some rfl rfl eg)]
          exact Reg.wp_val (v := .bool true) (w' := w) (by simp [go_sem, execOp, Act.eval, e69, e70]) (hKK _ _ rfl hI fun _ _ h => h)
        · have ho2 := ho
          obtain rfl := (Option.some.inj ho).symm
          have e68 : a.tmps.getD 68 undef = .bool true := hK.done 3 68 rfl (Reg.listed_of ho2 hafter (by kernel_rfl))
          have e71 : a.tmps.getD 71 undef = .bool true := hK.done 6 71 rfl (Reg.listed_of ho2 hafter (by kernel_rfl))
          rw [if_pos (Reg.wanted_none rfl)]
          exact Reg.wp_val (v := .bool true) (w' := w) (by simp [go_sem, execOp, Act.eval, e68, e71]) (hKK _ _ rfl hI fun _ _ h => h)
        · have ho2 := ho
          obtain rfl := (Option.some.inj ho).symm
          have e72 : a.tmps.getD 72 undef = .bool true := hK.done 7 72 rfl (Reg.listed_of ho2 hafter (by kernel_rfl))
          rw [if_pos (Reg.wanted_none rfl)]
          exact Reg.wp_val (v := .bool true) (w' := w) (by simp [go_sem, execOp, Act.eval, e72]) (hKK _ _ rfl hI fun _ _ h => h)
        · have ho2 := ho
          obtain rfl := (Option.some.inj ho).symm
          have e14 : a.tmps.getD 14 undef = .string S := (Reg.base_at hK 14 (by kernel_rfl)).trans rfl
          have eg : a.tmps.getD 73 undef = .bool true := hK.done 8 73 rfl (Reg.listed_of ho2 hafter (by kernel_rfl))
          rw [if_pos (Reg.wanted_some rfl rfl eg)]
          exact Reg.wp_val (v := .string S) (w' := w) (by simp [go_sem, execOp, Act.eval, e14]) (hKK _ _ rfl hI fun _ _ h => h)
        · have ho2 := ho
          obtain rfl := (Option.some.inj ho).symm
          have e18 : a.tmps.getD 18 undef = .string S := (Reg.base_at hK 18 (by kernel_rfl)).trans rfl
          have eg : a.tmps.getD 73 undef = .bool true := hK.done 8 73 rfl (Reg.listed_of ho2 hafter (by kernel_rfl))
          rw [if_pos (Reg.wanted_some rfl rfl eg)]
          exact Reg.wp_val (v := .string S) (w' := w) (by simp [go_sem, execOp, Act.eval, e18]) (hKK _ _ rfl hI fun _ _ h => h)
        · have ho2 := ho
          obtain rfl := (Option.some.inj ho).symm
          have e74 : a.tmps.getD 74 undef = .string S := hK.done 9 74 rfl (Reg.listed_of ho2 hafter (by kernel_rfl))
          have e75 : a.tmps.getD 75 undef = .string S := hK.done 10 75 rfl (Reg.listed_of ho2 hafter (by kernel_rfl))
          have eg : a.tmps.getD 73 undef = .bool true := hK.done 8 73 rfl (Reg.listed_of ho2 hafter (by kernel_rfl))
          rw [if_pos (Reg.wanted_some rfl rfl eg)]
          exact Reg.wp_val (v := .bool true) (w' := w) (by simp [go_sem, execOp, Act.eval, e74, e75]) (hKK _ _ rfl hI fun _ _ h => h)
        · have ho2 := ho
          obtain rfl := (Option.some.inj ho).symm
          have e73 : a.tmps.getD 73 undef = .bool true := hK.done 8 73 rfl (Reg.listed_of ho2 hafter (by kernel_rfl))
          have e76 : a.tmps.getD 76 undef = .bool true := hK.done 11 76 rfl (Reg.listed_of ho2 hafter (by kernel_rfl))
          rw [if_pos (Reg.wanted_none rfl)]
          exact Reg.wp_val (v := .bool true) (w' := w) (by simp [go_sem, execOp, Act.eval, e73, e76]) (hKK _ _ rfl hI fun _ _ h => h)
        · have ho2 := ho
          obtain rfl := (Option.some.inj ho).symm
          have e77 : a.tmps.getD 77 undef = .bool true := hK.done 12 77 rfl (Reg.listed_of ho2 hafter (by kernel_rfl))
          rw [if_pos (Reg.wanted_none rfl)]
          exact Reg.wp_val (v := .bool true) (w' := w) (by simp [go_sem, execOp, Act.eval, e77]) (hKK _ _ rfl hI fun _ _ h => h)
        · have ho2 := ho
          obtain rfl := (Option.some.inj ho).symm
          have e15 : a.tmps.getD 15 undef = .int .i64 f := (Reg.base_at hK 15 (by kernel_rfl)).trans rfl
          have eg : a.tmps.getD 78 undef = .bool true := hK.done 13 78 rfl (Reg.listed_of ho2 hafter (by kernel_rfl))
          rw [if_pos (Reg.wanted_some rfl rfl eg)]
          exact Reg.wp_val (v := .int .i64 f) (w' := w) (by simp [go_sem, execOp, Act.eval, e15]) (hKK _ _ rfl hI fun _ _ h => h)
        · have ho2 := ho
          obtain rfl := (Option.some.inj ho).symm
          have e19 : a.tmps.getD 19 undef = .int .i64 f := (Reg.base_at hK 19 (by kernel_rfl)).trans rfl
          have eg : a.tmps.getD 78 undef = .bool true := hK.done 13 78 rfl (Reg.listed_of ho2 hafter (by kernel_rfl))
          rw [if_pos (Reg.wanted_some rfl rfl eg)]
          exact Reg.wp_val (v := .int .i64 f) (w' := w) (by simp [go_sem, execOp, Act.eval, e19]) (hKK _ _ rfl hI fun _ _ h => h)
        · have ho2 := ho
          obtain rfl := (Option.some.inj ho).symm
          have e79 : a.tmps.getD 79 undef = .int .i64 f := hK.done 14 79 rfl (Reg.listed_of ho2 hafter (by kernel_rfl))
          have e80 : a.tmps.getD 80 undef = .int .i64 f := hK.done 15 80 rfl (Reg.listed_of ho2 hafter (by kernel_rfl))
          have eg : a.tmps.getD 78 undef = .bool true := hK.done 13 78 rfl (Reg.listed_of ho2 hafter (by kernel_rfl))
          rw [if_pos (Reg.wanted_some rfl rfl eg)]
          exact Reg.wp_val (v := .bool true) (w' := w) (by simp [go_sem, execOp, Act.eval, e79, e80]) (hKK _ _ rfl hI fun _ _ h => h)
        · have ho2 := ho
          obtain rfl := (Option.some.inj ho).symm
          have e78 : a.tmps.getD 78 undef = .bool true := hK.done 13 78 rfl (Reg.listed_of ho2 hafter (by kernel_rfl))
          have e81 : a.tmps.getD 81 undef = .bool true := hK.done 16 81 rfl (Reg.listed_of ho2 hafter (by kernel_rfl))
          rw [if_pos (Reg.wanted_none rfl)]
          exact Reg.wp_val (v := .bool true) (w' := w) (by simp [go_sem, execOp, Act.eval, e78, e81]) (hKK _ _ rfl hI fun _ _ h => h)
        · have ho2 := ho
          obtain rfl := (Option.some.inj ho).symm
          have e82 : a.tmps.getD 82 undef = .bool true := hK.done 17 82 rfl (Reg.listed_of ho2 hafter (by kernel_rfl))
          rw [if_pos (Reg.wanted_none rfl)]
          exact Reg.wp_val (v := .bool true) (w' := w) (by simp [go_sem, execOp, Act.eval, e82]) (hKK _ _ rfl hI fun _ _ h => h)
        · have ho2 := ho
          obtain rfl := (Option.some.inj ho).symm
          have e11 : a.tmps.getD 11 undef = .pointer (some ⟨mi, 0, none⟩) := (Reg.base_at hK 11 (by kernel_rfl)).trans rfl
          have eg : a.tmps.getD 83 undef = .bool true := hK.done 18 83 rfl (Reg.listed_of ho2 hafter (by kernel_rfl))
          rw [if_pos (Reg.wanted_some rfl rfl eg)]
          exact Reg.wp_val (v := .agg #[.int .u16 (x.size : Int), .int .u8 (x.ext : Int), .int .u8 (x.ver : Int), .int .u16 (x.flags : Int), .slice a3 k c3]) (w' := w) (by simp [go_sem, execOp, Act.eval, e11, HCI.out w hI]) (hKK _ _ rfl hI fun _ _ h => h)
        · have ho2 := ho
          obtain rfl := (Option.some.inj ho).symm
          have e6 : a.tmps.getD 6 undef = .pointer (some ⟨mx + 1, 0, none⟩) := (Reg.base_at hK 6 (by kernel_rfl)).trans rfl
          have eg : a.tmps.getD 83 undef = .bool true := hK.done 18 83 rfl (Reg.listed_of ho2 hafter (by kernel_rfl))
          rw [if_pos (Reg.wanted_some rfl rfl eg)]
          exact Reg.wp_val (v := .agg #[.int .u16 (y.size : Int), .int .u8 (y.ext : Int), .int .u8 (y.ver : Int), .int .u16 (y.flags : Int), .slice ad' k' c']) (w' := w) (by simp [go_sem, execOp, Act.eval, e6, HCY.out w hI]) (hKK _ _ rfl hI fun _ _ h => h)
        · have ho2 := ho
          obtain rfl := (Option.some.inj ho).symm
          have e84 : a.tmps.getD 84 undef = .agg #[.int .u16 (x.size : Int), .int .u8 (x.ext : Int), .int .u8 (x.ver : Int), .int .u16 (x.flags : Int), .slice a3 k c3] := hK.done 19 84 rfl (Reg.listed_of ho2 hafter (by kernel_rfl))
          have e85 : a.tmps.getD 85 undef = .agg #[.int .u16 (y.size : Int), .int .u8 (y.ext : Int), .int .u8 (y.ver : Int), .int .u16 (y.flags : Int), .slice ad' k' c'] := hK.done 20 85 rfl (Reg.listed_of ho2 hafter (by kernel_rfl))
          have eg : a.tmps.getD 83 undef = .bool true := hK.done 18 83 rfl (Reg.listed_of ho2 hafter (by kernel_rfl))
          rw [if_pos (Reg.wanted_some rfl rfl eg)]
          refine Reg.wp_call (R := fun v w2 => v = .bool q ∧ Chg Nob w w2) (w' := w) (by simp [go_sem, execOp, Act.eval, e84, e85]) ((HS1.out w hI).mono fun e w2 h => ⟨_, h.1, rfl, h.2⟩) ?_
          rintro v w2 ⟨rfl, hC⟩
          exact hKK _ _ rfl (hI.trans hC) fun j u h => hTm _ j u w w2 hC h
        · have ho2 := ho
          obtain rfl := (Option.some.inj ho).symm
          have e5 : a.tmps.getD 5 undef = .pointer (some ⟨mx, 0, none⟩) := (Reg.base_at hK 5 (by kernel_rfl)).trans rfl
          have eg : a.tmps.getD 83 undef = .bool true := hK.done 18 83 rfl (Reg.listed_of ho2 hafter (by kernel_rfl))
          rw [if_pos (Reg.wanted_some rfl rfl eg)]
          exact Reg.wp_val (v := .agg #[.int .u16 (x.size : Int), .int .u8 (x.ext : Int), .int .u8 (x.ver : Int), .int .u16 (x.flags : Int), .slice ad k c]) (w' := w) (by simp [go_sem, execOp, Act.eval, e5, HCX.out w hI]) (hKK _ _ rfl hI fun _ _ h => h)
        · have ho2 := ho
          obtain rfl := (Option.some.inj ho).symm
          have e6 : a.tmps.getD 6 undef = .pointer (some ⟨mx + 1, 0, none⟩) := (Reg.base_at hK 6 (by kernel_rfl)).trans rfl
          have eg : a.tmps.getD 83 undef = .bool true := hK.done 18 83 rfl (Reg.listed_of ho2 hafter (by kernel_rfl))
          rw [if_pos (Reg.wanted_some rfl rfl eg)]
          exact Reg.wp_val (v := .agg #[.int .u16 (y.size : Int), .int .u8 (y.ext : Int), .int .u8 (y.ver : Int), .int .u16 (y.flags : Int), .slice ad' k' c']) (w' := w) (by simp [go_sem, execOp, Act.eval, e6, HCY.out w hI]) (hKK _ _ rfl hI fun _ _ h => h)
        · have ho2 := ho
          obtain rfl := (Option.some.inj ho).symm
          have e87 : a.tmps.getD 87 undef = .agg #[.int .u16 (x.size : Int), .int .u8 (x.ext : Int), .int .u8 (x.ver : Int), .int .u16 (x.flags : Int), .slice ad k c] := hK.done 22 87 rfl (Reg.listed_of ho2 hafter (by kernel_rfl))
          have e88 : a.tmps.getD 88 undef = .agg #[.int .u16 (y.size : Int), .int .u8 (y.ext : Int), .int .u8 (y.ver : Int), .int .u16 (y.flags : Int), .slice ad' k' c'] := hK.done 23 88 rfl (Reg.listed_of ho2 hafter (by kernel_rfl))
          have eg : a.tmps.getD 83 undef = .bool true := hK.done 18 83 rfl (Reg.listed_of ho2 hafter (by kernel_rfl))
          rw [if_pos (Reg.wanted_some rfl rfl eg)]
          refine Reg.wp_call (R := fun v w2 => v = .bool q ∧ Chg Nob w w2) (w' := w) (by simp [go_sem, execOp, Act.eval, e87, e88]) ((HS2.out w hI).mono fun e w2 h => ⟨_, h.1, rfl, h.2⟩) ?_
          rintro v w2 ⟨rfl, hC⟩
          exact hKK _ _ rfl (hI.trans hC) fun j u h => hTm _ j u w w2 hC h
        · have ho2 := ho
          obtain rfl := (Option.some.inj ho).symm
          have e86 : a.tmps.getD 86 undef = .bool q := hK.done 21 86 rfl (Reg.listed_of ho2 hafter (by kernel_rfl))
          have e89 : a.tmps.getD 89 undef = .bool q := hK.done 24 89 rfl (Reg.listed_of ho2 hafter (by kernel_rfl))
          have eg : a.tmps.getD 83 undef = .bool true := hK.done 18 83 rfl (Reg.listed_of ho2 hafter (by kernel_rfl))
          rw [if_pos (Reg.wanted_some rfl rfl eg)]
          exact Reg.wp_val (v := .bool true) (w' := w) (by simp [go_sem, execOp, Act.eval, e86, e89]) (hKK _ _ rfl hI fun _ _ h => h)
        · have ho2 := ho
          obtain rfl := (Option.some.inj ho).symm
          have e83 : a.tmps.getD 83 undef = .bool true := hK.done 18 83 rfl (Reg.listed_of ho2 hafter (by kernel_rfl))
          have e90 : a.tmps.getD 90 undef = .bool true := hK.done 25 90 rfl (Reg.listed_of ho2 hafter (by kernel_rfl))
          rw [if_pos (Reg.wanted_none rfl)]
          exact Reg.wp_val (v := .bool true) (w' := w) (by simp [go_sem, execOp, Act.eval, e83, e90]) (hKK _ _ rfl hI fun _ _ h => h)
        · have ho2 := ho
          obtain rfl := (Option.some.inj ho).symm
          have e91 : a.tmps.getD 91 undef = .bool true := hK.done 26 91 rfl (Reg.listed_of ho2 hafter (by kernel_rfl))
          rw [if_pos (Reg.wanted_none rfl)]
          exact Reg.wp_val (v := .bool true) (w' := w) (by simp [go_sem, execOp, Act.eval, e91]) (hKK _ _ rfl hI fun _ _ h => h)
        · have ho2 := ho
          obtain rfl := (Option.some.inj ho).symm
          have e11 : a.tmps.getD 11 undef = .pointer (some ⟨mi, 0, none⟩) := (Reg.base_at hK 11 (by kernel_rfl)).trans rfl
          have eg : a.tmps.getD 92 undef = .bool true := hK.done 27 92 rfl (Reg.listed_of ho2 hafter (by kernel_rfl))
          rw [if_pos (Reg.wanted_some rfl rfl eg)]
          exact Reg.wp_val (v := .agg #[.int .u16 (x.size : Int), .int .u8 (x.ext : Int), .int .u8 (x.ver : Int), .int .u16 (x.flags : Int), .slice a3 k c3]) (w' := w) (by simp [go_sem, execOp, Act.eval, e11, HCI.out w hI]) (hKK _ _ rfl hI fun _ _ h => h)
        · have ho2 := ho
          obtain rfl := (Option.some.inj ho).symm
          have e5 : a.tmps.getD 5 undef = .pointer (some ⟨mx, 0, none⟩) := (Reg.base_at hK 5 (by kernel_rfl)).trans rfl
          have eg : a.tmps.getD 92 undef = .bool true := hK.done 27 92 rfl (Reg.listed_of ho2 hafter (by kernel_rfl))
          rw [if_pos (Reg.wanted_some rfl rfl eg)]
          exact Reg.wp_val (v := .agg #[.int .u16 (x.size : Int), .int .u8 (x.ext : Int), .int .u8 (x.ver : Int), .int .u16 (x.flags : Int), .slice ad k c]) (w' := w) (by simp [go_sem, execOp, Act.eval, e5, HCX.out w hI]) (hKK _ _ rfl hI fun _ _ h => h)
        · have ho2 := ho
          obtain rfl := (Option.some.inj ho).symm
          have e93 : a.tmps.getD 93 undef = .agg #[.int .u16 (x.size : Int), .int .u8 (x.ext : Int), .int .u8 (x.ver : Int), .int .u16 (x.flags : Int), .slice a3 k c3] := hK.done 28 93 rfl (Reg.listed_of ho2 hafter (by kernel_rfl))
          have e94 : a.tmps.getD 94 undef = .agg #[.int .u16 (x.size : Int), .int .u8 (x.ext : Int), .int .u8 (x.ver : Int), .int .u16 (x.flags : Int), .slice ad k c] := hK.done 29 94 rfl (Reg.listed_of ho2 hafter (by kernel_rfl))
          have eg : a.tmps.getD 92 undef = .bool true := hK.done 27 92 rfl (Reg.listed_of ho2 hafter (by kernel_rfl))
          rw [if_pos (Reg.wanted_some rfl rfl eg)]
          refine Reg.wp_call (R := fun v w2 => v = .bool true ∧ Chg Nob w w2) (w' := w) (by simp [go_sem, execOp, Act.eval, e93, e94]) ((HS3.out w hI).mono fun e w2 h => ⟨_, h.1, rfl, h.2⟩) ?_
          rintro v w2 ⟨rfl, hC⟩
          exact hKK _ _ rfl (hI.trans hC) fun j u h => hTm _ j u w w2 hC h
        · have ho2 := ho
          obtain rfl := (Option.some.inj ho).symm
          have e92 : a.tmps.getD 92 undef = .bool true := hK.done 27 92 rfl (Reg.listed_of ho2 hafter (by kernel_rfl))
          have e95 : a.tmps.getD 95 undef = .bool true := hK.done 30 95 rfl (Reg.listed_of ho2 hafter (by kernel_rfl))
          rw [if_pos (Reg.wanted_none rfl)]
          exact Reg.wp_val (v := .bool true) (w' := w) (by simp [go_sem, execOp, Act.eval, e92, e95]) (hKK _ _ rfl hI fun _ _ h => h)
        · have ho2 := ho
          obtain rfl := (Option.some.inj ho).symm
          have e96 : a.tmps.getD 96 undef = .bool true := hK.done 31 96 rfl (Reg.listed_of ho2 hafter (by kernel_rfl))
          rw [if_pos (Reg.wanted_none rfl)]
          exact Reg.wp_val (v := .bool true) (w' := w) (by simp [go_sem, execOp, Act.eval, e96]) (hKK _ _ rfl hI fun _ _ h => h)
        · have ho2 := ho
          obtain rfl := (Option.some.inj ho).symm
          have e11 : a.tmps.getD 11 undef = .pointer (some ⟨mi, 0, none⟩) := (Reg.base_at hK 11 (by kernel_rfl)).trans rfl
          have eg : a.tmps.getD 97 undef = .bool true := hK.done 32 97 rfl (Reg.listed_of ho2 hafter (by kernel_rfl))
          rw [if_pos (Reg.wanted_some rfl rfl eg)]
          exact Reg.wp_val (v := .agg #[.int .u16 (x.size : Int), .int .u8 (x.ext : Int), .int .u8 (x.ver : Int), .int .u16 (x.flags : Int), .slice a3 k c3]) (w' := w) (by simp [go_sem, execOp, Act.eval, e11, HCI.out w hI]) (hKK _ _ rfl hI fun _ _ h => h)
        · have ho2 := ho
          obtain rfl := (Option.some.inj ho).symm
          have e5 : a.tmps.getD 5 undef = .pointer (some ⟨mx, 0, none⟩) := (Reg.base_at hK 5 (by kernel_rfl)).trans rfl
          have eg : a.tmps.getD 97 undef = .bool true := hK.done 32 97 rfl (Reg.listed_of ho2 hafter (by kernel_rfl))
          rw [if_pos (Reg.wanted_some rfl rfl eg)]
          exact Reg.wp_val (v := .agg #[.int .u16 (x.size : Int), .int .u8 (x.ext : Int), .int .u8 (x.ver : Int), .int .u16 (x.flags : Int), .slice ad k c]) (w' := w) (by simp [go_sem, execOp, Act.eval, e5, HCX.out w hI]) (hKK _ _ rfl hI fun _ _ h => h)
        · have ho2 := ho
          obtain rfl := (Option.some.inj ho).symm
          have e98 : a.tmps.getD 98 undef = .agg #[.int .u16 (x.size : Int), .int .u8 (x.ext : Int), .int .u8 (x.ver : Int), .int .u16 (x.flags : Int), .slice a3 k c3] := hK.done 33 98 rfl (Reg.listed_of ho2 hafter (by kernel_rfl))
          have e99 : a.tmps.getD 99 undef = .agg #[.int .u16 (x.size : Int), .int .u8 (x.ext : Int), .int .u8 (x.ver : Int), .int .u16 (x.flags : Int), .slice ad k c] := hK.done 34 99 rfl (Reg.listed_of ho2 hafter (by kernel_rfl))
          have eg : a.tmps.getD 97 undef = .bool true := hK.done 32 97 rfl (Reg.listed_of ho2 hafter (by kernel_rfl))
          rw [if_pos (Reg.wanted_some rfl rfl eg)]
          refine Reg.wp_call (R := fun v w2 => v = .bool true ∧ Chg Nob w w2) (w' := w) (by simp [go_sem, execOp, Act.eval, e98, e99]) ((HS4.out w hI).mono fun e w2 h => ⟨_, h.1, rfl, h.2⟩) ?_
          rintro v w2 ⟨rfl, hC⟩
          exact hKK _ _ rfl (hI.trans hC) fun j u h => hTm _ j u w w2 hC h
        · have ho2 := ho
          obtain rfl := (Option.some.inj ho).symm
          have e97 : a.tmps.getD 97 undef = .bool true := hK.done 32 97 rfl (Reg.listed_of ho2 hafter (by kernel_rfl))
          have e100 : a.tmps.getD 100 undef = .bool true := hK.done 35 100 rfl (Reg.listed_of ho2 hafter (by kernel_rfl))
          rw [if_pos (Reg.wanted_none rfl)]
          exact Reg.wp_val (v := .bool true) (w' := w) (by simp [go_sem, execOp, Act.eval, e97, e100]) (hKK _ _ rfl hI fun _ _ h => h)
        · have ho2 := ho
          obtain rfl := (Option.some.inj ho).symm
          have e101 : a.tmps.getD 101 undef = .bool true := hK.done 36 101 rfl (Reg.listed_of ho2 hafter (by kernel_rfl))
          rw [if_pos (Reg.wanted_none rfl)]
          exact Reg.wp_val (v := .bool true) (w' := w) (by simp [go_sem, execOp, Act.eval, e101]) (hKK _ _ rfl hI fun _ _ h => h)
        · have ho2 := ho
          obtain rfl := (Option.some.inj ho).symm
          have e2 : a.tmps.getD 2 undef = .int .u8 (cd : Int) := (Reg.base_at hK 2 (by kernel_rfl)).trans rfl
          have eg : a.tmps.getD 102 undef = .bool true := hK.done 37 102 rfl (Reg.listed_of ho2 hafter (by kernel_rfl))
          rw [if_pos (Reg.wanted_some rfl rfl eg)]
          exact Reg.wp_val (v := .int .u8 (cd : Int)) (w' := w) (by simp [go_sem, execOp, Act.eval, e2]) (hKK _ _ rfl hI fun _ _ h => h)
        · have ho2 := ho
          obtain rfl := (Option.some.inj ho).symm
          have e3 : a.tmps.getD 3 undef = .int .u8 (ex : Int) := (Reg.base_at hK 3 (by kernel_rfl)).trans rfl
          have eg : a.tmps.getD 102 undef = .bool true := hK.done 37 102 rfl (Reg.listed_of ho2 hafter (by kernel_rfl))
          rw [if_pos (Reg.wanted_some rfl rfl eg)]
          exact Reg.wp_val (v := .int .u8 (ex : Int)) (w' := w) (by simp [go_sem, execOp, Act.eval, e3]) (hKK _ _ rfl hI fun _ _ h => h)
        · have ho2 := ho
          obtain rfl := (Option.some.inj ho).symm
          have e103 : a.tmps.getD 103 undef = .int .u8 (cd : Int) := hK.done 38 103 rfl (Reg.listed_of ho2 hafter (by kernel_rfl))
          have e104 : a.tmps.getD 104 undef = .int .u8 (ex : Int) := hK.done 39 104 rfl (Reg.listed_of ho2 hafter (by kernel_rfl))
          have eg : a.tmps.getD 102 undef = .bool true := hK.done 37 102 rfl (Reg.listed_of ho2 hafter (by kernel_rfl))
          rw [if_pos (Reg.wanted_some rfl rfl eg)]
          refine Reg.wp_call (R := fun v w2 => v = .int .i64 N ∧ Chg Nob w w2) (w' := w) (by simp [go_sem, execOp, Act.eval, e103, e104]) ((HC1.out w).mono fun e w2 h => ⟨_, h.1, rfl, h.2⟩) ?_
          rintro v w2 ⟨rfl, hC⟩
          exact hKK _ _ rfl (hI.trans hC) fun j u h => hTm _ j u w w2 hC h
        · have ho2 := ho
          obtain rfl := (Option.some.inj ho).symm
          have e2 : a.tmps.getD 2 undef = .int .u8 (cd : Int) := (Reg.base_at hK 2 (by kernel_rfl)).trans rfl
          have eg : a.tmps.getD 102 undef = .bool true := hK.done 37 102 rfl (Reg.listed_of ho2 hafter (by kernel_rfl))
          rw [if_pos (Reg.wanted_some rfl rfl eg)]
          exact Reg.wp_val (v := .int .u8 (cd : Int)) (w' := w) (by simp [go_sem, execOp, Act.eval, e2]) (hKK _ _ rfl hI fun _ _ h => h)
        · have ho2 := ho
          obtain rfl := (Option.some.inj ho).symm
          have e3 : a.tmps.getD 3 undef = .int .u8 (ex : Int) := (Reg.base_at hK 3 (by kernel_rfl)).trans rfl
          have eg : a.tmps.getD 102 undef = .bool true := hK.done 37 102 rfl (Reg.listed_of ho2 hafter (by kernel_rfl))
          rw [if_pos (Reg.wanted_some rfl rfl eg)]
          exact Reg.wp_val (v := .int .u8 (ex : Int)) (w' := w) (by simp [go_sem, execOp, Act.eval, e3]) (hKK _ _ rfl hI fun _ _ h => h)
        · have ho2 := ho
          obtain rfl := (Option.some.inj ho).symm
          have e106 : a.tmps.getD 106 undef = .int .u8 (cd : Int) := hK.done 41 106 rfl (Reg.listed_of ho2 hafter (by kernel_rfl))
          have e107 : a.tmps.getD 107 undef = .int .u8 (ex : Int) := hK.done 42 107 rfl (Reg.listed_of ho2 hafter (by kernel_rfl))
          have eg : a.tmps.getD 102 undef = .bool true := hK.done 37 102 rfl (Reg.listed_of ho2 hafter (by kernel_rfl))
          rw [if_pos (Reg.wanted_some rfl rfl eg)]
          refine Reg.wp_call (R := fun v w2 => v = .int .i64 N ∧ Chg Nob w w2) (w' := w) (by simp [go_sem, execOp, Act.eval, e106, e107]) ((HC2.out w).mono fun e w2 h => ⟨_, h.1, rfl, h.2⟩) ?_
          rintro v w2 ⟨rfl, hC⟩
          exact hKK _ _ rfl (hI.trans hC) fun j u h => hTm _ j u w w2 hC h
        · have ho2 := ho
          obtain rfl := (Option.some.inj ho).symm
          have e105 : a.tmps.getD 105 undef = .int .i64 N := hK.done 40 105 rfl (Reg.listed_of ho2 hafter (by kernel_rfl))
          have e108 : a.tmps.getD 108 undef = .int .i64 N := hK.done 43 108 rfl (Reg.listed_of ho2 hafter (by kernel_rfl))
          have eg : a.tmps.getD 102 undef = .bool true := hK.done 37 102 rfl (Reg.listed_of ho2 hafter (by kernel_rfl))
          rw [if_pos (Reg.wanted_some rfl rfl eg)]
          exact Reg.wp_val (v := .bool true) (w' := w) (by simp [go_sem, execOp, Act.eval, e105, e108]) (hKK _ _ rfl hI fun _ _ h => h)
        · have ho2 := ho
          obtain rfl := (Option.some.inj ho).symm
          have e102 : a.tmps.getD 102 undef = .bool true := hK.done 37 102 rfl (Reg.listed_of ho2 hafter (by kernel_rfl))
          have e109 : a.tmps.getD 109 undef = .bool true := hK.done 44 109 rfl (Reg.listed_of ho2 hafter (by kernel_rfl))
          rw [if_pos (Reg.wanted_none rfl)]
          exact Reg.wp_val (v := .bool true) (w' := w) (by simp [go_sem, execOp, Act.eval, e102, e109]) (hKK _ _ rfl hI fun _ _ h => h)
        · have ho2 := ho
          obtain rfl := (Option.some.inj ho).symm
          have e110 : a.tmps.getD 110 undef = .bool true := hK.done 45 110 rfl (Reg.listed_of ho2 hafter (by kernel_rfl))
          rw [if_pos (Reg.wanted_none rfl)]
          exact Reg.wp_val (v := .bool true) (w' := w) (by simp [go_sem, execOp, Act.eval, e110]) (hKK _ _ rfl hI fun _ _ h => h)
        · have ho2 := ho
          obtain rfl := (Option.some.inj ho).symm
          have e20 : a.tmps.getD 20 undef = .int .u8 p1 := (Reg.base_at hK 20 (by kernel_rfl)).trans rfl
          have eg : a.tmps.getD 111 undef = .bool true := hK.done 46 111 rfl (Reg.listed_of ho2 hafter (by kernel_rfl))
          rw [if_pos (Reg.wanted_some rfl rfl eg)]
          exact Reg.wp_val (v := .int .u8 p1) (w' := w) (by simp [go_sem, execOp, Act.eval, e20]) (hKK _ _ rfl hI fun _ _ h => h)
        · have ho2 := ho
          obtain rfl := (Option.some.inj ho).symm
          have e23 : a.tmps.getD 23 undef = .int .u8 p1 := (Reg.base_at hK 23 (by kernel_rfl)).trans rfl
          have eg : a.tmps.getD 111 undef = .bool true := hK.done 46 111 rfl (Reg.listed_of ho2 hafter (by kernel_rfl))
          rw [if_pos (Reg.wanted_some rfl rfl eg)]
          exact Reg.wp_val (v := .int .u8 p1) (w' := w) (by simp [go_sem, execOp, Act.eval, e23]) (hKK _ _ rfl hI fun _ _ h => h)
        · have ho2 := ho
          obtain rfl := (Option.some.inj ho).symm
          have e112 : a.tmps.getD 112 undef = .int .u8 p1 := hK.done 47 112 rfl (Reg.listed_of ho2 hafter (by kernel_rfl))
          have e113 : a.tmps.getD 113 undef = .int .u8 p1 := hK.done 48 113 rfl (Reg.listed_of ho2 hafter (by kernel_rfl))
          have eg : a.tmps.getD 111 undef = .bool true := hK.done 46 111 rfl (Reg.listed_of ho2 hafter (by kernel_rfl))
          rw [if_pos (Reg.wanted_some rfl rfl eg)]
          exact Reg.wp_val (v := .bool true) (w' := w) (by simp [go_sem, execOp, Act.eval, e112, e113]) (hKK _ _ rfl hI fun _ _ h => h)
        · have ho2 := ho
          obtain rfl := (Option.some.inj ho).symm
          have e111 : a.tmps.getD 111 undef = .bool true := hK.done 46 111 rfl (Reg.listed_of ho2 hafter (by kernel_rfl))
          have e114 : a.tmps.getD 114 undef = .bool true := hK.done 49 114 rfl (Reg.listed_of ho2 hafter (by kernel_rfl))
          rw [if_pos (Reg.wanted_none rfl)]
          exact Reg.wp_val (v := .bool true) (w' := w) (by simp [go_sem, execOp, Act.eval, e111, e114]) (hKK _ _ rfl hI fun _ _ h => h)
        · have ho2 := ho
          obtain rfl := (Option.some.inj ho).symm
          have e115 : a.tmps.getD 115 undef = .bool true := hK.done 50 115 rfl (Reg.listed_of ho2 hafter (by kernel_rfl))
          rw [if_pos (Reg.wanted_none rfl)]
          exact Reg.wp_val (v := .bool true) (w' := w) (by simp [go_sem, execOp, Act.eval, e115]) (hKK _ _ rfl hI fun _ _ h => h)
        · have ho2 := ho
          obtain rfl := (Option.some.inj ho).symm
          have e21 : a.tmps.getD 21 undef = .int .u8 p2 := (Reg.base_at hK 21 (by kernel_rfl)).trans rfl
          have eg : a.tmps.getD 116 undef = .bool true := hK.done 51 116 rfl (Reg.listed_of ho2 hafter (by kernel_rfl))
          rw [if_pos (Reg.wanted_some rfl rfl eg)]
          exact Reg.wp_val (v := .int .u8 p2) (w' := w) (by simp [go_sem, execOp, Act.eval, e21]) (hKK _ _ rfl hI fun _ _ h => h)
        · have ho2 := ho
          obtain rfl := (Option.some.inj ho).symm
          have e24 : a.tmps.getD 24 undef = .int .u8 p2 := (Reg.base_at hK 24 (by kernel_rfl)).trans rfl
          have eg : a.tmps.getD 116 undef = .bool true := hK.done 51 116 rfl (Reg.listed_of ho2 hafter (by kernel_rfl))
          rw [if_pos (Reg.wanted_some rfl rfl eg)]
          exact Reg.wp_val (v := .int .u8 p2) (w' := w) (by simp [go_sem, execOp, Act.eval, e24]) (hKK _ _ rfl hI fun _ _ h => h)
        · have ho2 := ho
          obtain rfl := (Option.some.inj ho).symm
          have e117 : a.tmps.getD 117 undef = .int .u8 p2 := hK.done 52 117 rfl (Reg.listed_of ho2 hafter (by kernel_rfl))
          have e118 : a.tmps.getD 118 undef = .int .u8 p2 := hK.done 53 118 rfl (Reg.listed_of ho2 hafter (by kernel_rfl))
          have eg : a.tmps.getD 116 undef = .bool true := hK.done 51 116 rfl (Reg.listed_of ho2 hafter (by kernel_rfl))
          rw [if_pos (Reg.wanted_some rfl rfl eg)]
          exact Reg.wp_val (v := .bool true) (w' := w) (by simp [go_sem, execOp, Act.eval, e117, e118]) (hKK _ _ rfl hI fun _ _ h => h)
        · have ho2 := ho
          obtain rfl := (Option.some.inj ho).symm
          have e116 : a.tmps.getD 116 undef = .bool true := hK.done 51 116 rfl (Reg.listed_of ho2 hafter (by kernel_rfl))
          have e119 : a.tmps.getD 119 undef = .bool true := hK.done 54 119 rfl (Reg.listed_of ho2 hafter (by kernel_rfl))
          rw [if_pos (Reg.wanted_none rfl)]
          exact Reg.wp_val (v := .bool true) (w' := w) (by simp [go_sem, execOp, Act.eval, e116, e119]) (hKK _ _ rfl hI fun _ _ h => h)
        · have ho2 := ho
          obtain rfl := (Option.some.inj ho).symm
          have e120 : a.tmps.getD 120 undef = .bool true := hK.done 55 120 rfl (Reg.listed_of ho2 hafter (by kernel_rfl))
          rw [if_pos (Reg.wanted_none rfl)]
          exact Reg.wp_val (v := .bool true) (w' := w) (by simp [go_sem, execOp, Act.eval, e120]) (hKK _ _ rfl hI fun _ _ h => h)
        · have ho2 := ho
          obtain rfl := (Option.some.inj ho).symm
          have e22 : a.tmps.getD 22 undef = .int .i64 p3 := (Reg.base_at hK 22 (by kernel_rfl)).trans rfl
          have eg : a.tmps.getD 121 undef = .bool true := hK.done 56 121 rfl (Reg.listed_of ho2 hafter (by kernel_rfl))
          rw [if_pos (Reg.wanted_some rfl rfl eg)]
          exact Reg.wp_val (v := .int .i64 p3) (w' := w) (by simp [go_sem, execOp, Act.eval, e22]) (hKK _ _ rfl hI fun _ _ h => h)
        · have ho2 := ho
          obtain rfl := (Option.some.inj ho).symm
          have e25 : a.tmps.getD 25 undef = .int .i64 p3 := (Reg.base_at hK 25 (by kernel_rfl)).trans rfl
          have eg : a.tmps.getD 121 undef = .bool true := hK.done 56 121 rfl (Reg.listed_of ho2 hafter (by kernel_rfl))
          rw [if_pos (Reg.wanted_some rfl rfl eg)]
          exact Reg.wp_val (v := .int .i64 p3) (w' := w) (by simp [go_sem, execOp, Act.eval, e25]) (hKK _ _ rfl hI fun _ _ h => h)
        · have ho2 := ho
          obtain rfl := (Option.some.inj ho).symm
          have e122 : a.tmps.getD 122 undef = .int .i64 p3 := hK.done 57 122 rfl (Reg.listed_of ho2 hafter (by kernel_rfl))
          have e123 : a.tmps.getD 123 undef = .int .i64 p3 := hK.done 58 123 rfl (Reg.listed_of ho2 hafter (by kernel_rfl))
          have eg : a.tmps.getD 121 undef = .bool true := hK.done 56 121 rfl (Reg.listed_of ho2 hafter (by kernel_rfl))
          rw [if_pos (Reg.wanted_some rfl rfl eg)]
          exact Reg.wp_val (v := .bool true) (w' := w) (by simp [go_sem, execOp, Act.eval, e122, e123]) (hKK _ _ rfl hI fun _ _ h => h)
        · have ho2 := ho
          obtain rfl := (Option.some.inj ho).symm
          have e121 : a.tmps.getD 121 undef = .bool true := hK.done 56 121 rfl (Reg.listed_of ho2 hafter (by kernel_rfl))
          have e124 : a.tmps.getD 124 undef = .bool true := hK.done 59 124 rfl (Reg.listed_of ho2 hafter (by kernel_rfl))
          rw [if_pos (Reg.wanted_none rfl)]
          exact Reg.wp_val (v := .bool true) (w' := w) (by simp [go_sem, execOp, Act.eval, e121, e124]) (hKK _ _ rfl hI fun _ _ h => h)
        · have ho2 := ho
          obtain rfl := (Option.some.inj ho).symm
          have e125 : a.tmps.getD 125 undef = .bool true := hK.done 60 125 rfl (Reg.listed_of ho2 hafter (by kernel_rfl))
          rw [if_pos (Reg.wanted_none rfl)]
          exact Reg.wp_val (v := .bool true) (w' := w) (by simp [go_sem, execOp, Act.eval, e125]) (hKK _ _ rfl hI fun _ _ h => h)
        · have ho2 := ho
          obtain rfl := (Option.some.inj ho).symm
          have eg : a.tmps.getD 126 undef = .bool true := hK.done 61 126 rfl (Reg.listed_of ho2 hafter (by kernel_rfl))
          rw [if_pos (Reg.wanted_some rfl rfl eg)]
          refine Reg.wp_call (R := fun v w2 => v = .bool true ∧ Chg Nob w w2) (w' := w) (by simp [go_sem, execOp, Act.eval]) ((awake_any w (HG.out.nob (HD.out.trans hI))).mono fun e w2 h => ⟨_, h.1, rfl, h.2⟩) ?_
          rintro v w2 ⟨rfl, hC⟩
          exact hKK _ _ rfl (hI.trans hC) fun j u h => hTm _ j u w w2 hC h
        · have ho2 := ho
          obtain rfl := (Option.some.inj ho).symm
          have e126 : a.tmps.getD 126 undef = .bool true := hK.done 61 126 rfl (Reg.listed_of ho2 hafter (by kernel_rfl))
          have e127 : a.tmps.getD 127 undef = .bool true := hK.done 62 127 rfl (Reg.listed_of ho2 hafter (by kernel_rfl))
          rw [if_pos (Reg.wanted_none rfl)]
          exact Reg.wp_val (v := .bool true) (w' := w) (by simp [go_sem, execOp, Act.eval, e126, e127]) (hKK _ _ rfl hI fun _ _ h => h)
        · have ho2 := ho
          obtain rfl := (Option.some.inj ho).symm
          have e128 : a.tmps.getD 128 undef = .bool true := hK.done 63 128 rfl (Reg.listed_of ho2 hafter (by kernel_rfl))
          rw [if_pos (Reg.wanted_none rfl)]
          exact Reg.wp_val (v := .bool true) (w' := w) (by simp [go_sem, execOp, Act.eval, e128]) (hKK _ _ rfl hI fun _ _ h => h)
      · intro vals listed w' hT hall hI
        have h64 : vals 64 = .bool true := hT 64 10 rfl
        generalize hAA : Reg.fill _ _ vals = AA
        obtain rfl : AA = ⟨#[_, _, _, _, _, _, _, _, _, _, vals 64, _, _, _, _, _, _, _, _, _, _, _, _, _, _, _, _, _, _, _, _, _, _, _, _, _, _, _, _, _, _, _, _, _, _, _, _, _, _, _, _, _, _, _, _, _, _, _, _, _, _, _, _, _, _, vals 0, vals 1, vals 2, vals 3, vals 4, vals 5, vals 6, vals 7, vals 8, vals 9, vals 10, vals 11, vals 12, vals 13, vals 14, vals 15, vals 16, vals 17, vals 18, vals 19, vals 20, vals 21, vals 22, vals 23, vals 24, vals 25, vals 26, vals 27, vals 28, vals 29, vals 30, vals 31, vals 32, vals 33, vals 34, vals 35, vals 36, vals 37, vals 38, vals 39, vals 40, vals 41, vals 42, vals 43, vals 44, vals 45, vals 46, vals 47, vals 48, vals 49, vals 50, vals 51, vals 52, vals 53, vals 54, vals 55, vals 56, vals 57, vals 58, vals 59, vals 60, vals 61, vals 62, vals 63], []⟩ := hAA.symm.trans rfl
        rw [h64]
        clear hAA hT hall
        go_wp2_with fail
        (try simp only [Exit.inBlock, Exit.then])
        exact bodyPost_ret (v := .bool true) (by simp [results, Tryd.results13, go_sem]) rfl ⟨rfl, HD.out.trans hI⟩
end Go.Proofs.YtgfgmaiddmohaaaDoor.Ed
