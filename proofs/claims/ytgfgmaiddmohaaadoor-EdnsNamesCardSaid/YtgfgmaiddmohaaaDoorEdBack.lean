/- EdnsBack, walked. -/
import Derived.Test.YtgfgmaiddmohaaaDoorEdLong
import Derived.Test.YtgfgmaiddmohaaaDoorEdAw
namespace Go.Proofs.YtgfgmaiddmohaaaDoor.Ed
open Go.RowKit Go.Proofs.YtgfgmaiddmohaaaDoor.Cur Go.Proofs.YtgfgmaiddmohaaaDoor.Put

/-- What edns.Write says of an EDNS. -/
theorem write_some (w : World) (x : E) (v : Value) (hx : x.Ok) (hv : OptsAt w v x.opts) (b : List UInt8) (h : wro x.opts [] = some b) :
    Calls Tryd.prog 30 #[.agg #[.int .u16 (x.size : Int), .int .u8 (x.ext : Int), .int .u8 (x.ver : Int), .int .u16 (x.flags : Int), v]] w fun r w' => r = .returned (.tuple #[.int .u16 (x.size : Int), .int .u32 (x.ttl : Int), .string ⟨b.toArray⟩, .int .i64 0]) ∧ Chg Nob w w' :=
  (write_any w x v hx hv).mono fun r w' h2 => by
    obtain ⟨⟨b', e, hr⟩ | h2, hC⟩ := h2
    · rw [h] at e
      obtain rfl := Option.some.inj e
      exact ⟨hr, hC⟩
    · rw [h] at h2
      cases h2.1
theorem write_none (w : World) (x : E) (v : Value) (hx : x.Ok) (hv : OptsAt w v x.opts) (h : wro x.opts [] = none) :
    Calls Tryd.prog 30 #[.agg #[.int .u16 (x.size : Int), .int .u8 (x.ext : Int), .int .u8 (x.ver : Int), .int .u16 (x.flags : Int), v]] w fun r w' => r = .returned (.tuple #[.int .u16 0, .int .u32 0, .string ⟨#[]⟩, .int .i64 5]) ∧ Chg Nob w w' :=
  (write_any w x v hx hv).mono fun r w' h2 => by
    obtain ⟨⟨b', e, hr⟩ | h2, hC⟩ := h2
    · rw [h] at e
      cases e
    · exact ⟨h2.2, hC⟩
theorem read_some (w : World) (cl ttl : Nat) (s : ByteArray) (l : List Opt) (hcl : cl < 65536) (httl : ttl < 4294967296) (hm : s.size ≤ 1000000) (hg : As.Laid w) (h : parse s = some l) :
    Calls Tryd.prog 28 #[.int .u16 (cl : Int), .int .u32 (ttl : Int), .string s] w fun r w' => ∃ v, r = .returned (.tuple #[.agg #[.int .u16 (cl : Int), .int .u8 ((ttl / 16777216 : Nat) : Int), .int .u8 ((ttl / 65536 % 256 : Nat) : Int), .int .u16 ((ttl % 65536 : Nat) : Int), v], .int .i64 0]) ∧ OptsAt w' v l ∧ Chg Nob w w' :=
  (read_any w cl ttl s hcl httl hm hg).mono fun r w' h2 => by
    rcases h2 with ⟨l', v, h3, h4⟩ | ⟨h3, _⟩
    · rw [h] at h3
      obtain rfl := Option.some.inj h3
      exact ⟨v, h4⟩
    · rw [h] at h3
      cases h3
theorem read_none (w : World) (cl ttl : Nat) (s : ByteArray) (hcl : cl < 65536) (httl : ttl < 4294967296) (hm : s.size ≤ 1000000) (hg : As.Laid w) (h : parse s = none) :
    Calls Tryd.prog 28 #[.int .u16 (cl : Int), .int .u32 (ttl : Int), .string s] w fun r w' => r = .returned (.tuple #[.agg #[.int .u16 0, .int .u8 0, .int .u8 0, .int .u16 0, .slice none 0 0], .int .i64 4]) ∧ Chg Nob w w' :=
  (read_any w cl ttl s hcl httl hm hg).mono fun r w' h2 => by
    rcases h2 with ⟨l', v, h3, _⟩ | ⟨_, h4⟩
    · rw [h] at h3
      cases h3
    · exact h4
theorem same_yes (w : World) (x y : E) (v u : Value) (hv : OptsAt w v x.opts) (hu : OptsAt w u y.opts) (hq : x = y) :
    Calls Tryd.prog 34 #[.agg #[.int .u16 (x.size : Int), .int .u8 (x.ext : Int), .int .u8 (x.ver : Int), .int .u16 (x.flags : Int), v], .agg #[.int .u16 (y.size : Int), .int .u8 (y.ext : Int), .int .u8 (y.ver : Int), .int .u16 (y.flags : Int), u]] w fun e w' => e = .returned (.bool true) ∧ Chg Nob w w' :=
  (same_any w x y v u hv hu).mono fun e w' h => by
    obtain ⟨b, rfl, hb, hC⟩ := h
    rw [hb.2 hq]
    exact ⟨rfl, hC⟩
theorem rsame_yes (w : World) (x y : E) (v u : Value) (hv : OptsAt w v x.opts) (hu : OptsAt w u y.opts) (hq : x = y) :
    Calls Tryd.prog 29 #[.agg #[.int .u16 (x.size : Int), .int .u8 (x.ext : Int), .int .u8 (x.ver : Int), .int .u16 (x.flags : Int), v], .agg #[.int .u16 (y.size : Int), .int .u8 (y.ext : Int), .int .u8 (y.ver : Int), .int .u16 (y.flags : Int), u]] w fun e w' => e = .returned (.bool true) ∧ Chg Nob w w' :=
  (rsame_any w x y v u hv hu).mono fun e w' h => by
    obtain ⟨b, rfl, hb, hC⟩ := h
    rw [hb.2 hq]
    exact ⟨rfl, hC⟩

/-- What one line reads. -/
def eOf (cl ttl : Nat) (l : List Opt) : E := ⟨cl, ttl / 16777216, ttl / 65536 % 256, ttl % 65536, l⟩
theorem eOf_ok {cl ttl : Nat} {l : List Opt} (hcl : cl < 65536) (httl : ttl < 4294967296) : (eOf cl ttl l).Ok := ⟨hcl, by show ttl / 16777216 < 256; omega, by show ttl / 65536 % 256 < 256; omega, by show ttl % 65536 < 65536; omega⟩
theorem eOf_ttl {cl ttl : Nat} {l : List Opt} : (eOf cl ttl l).ttl = ttl := by
  show 16777216 * (ttl / 16777216) + 65536 * (ttl / 65536 % 256) + ttl % 65536 = ttl
  omega
theorem ttl_lt {x : E} (hx : x.Ok) : x.ttl < 4294967296 := by
  obtain ⟨h1, h2, h3, h4⟩ := hx
  show 16777216 * x.ext + 65536 * x.ver + x.flags < _
  omega
theorem eOf_back {x : E} (hx : x.Ok) : eOf x.size x.ttl x.opts = x := by
  obtain ⟨h1, h2, h3, h4⟩ := hx
  have e : x.ttl = 16777216 * x.ext + 65536 * x.ver + x.flags := rfl
  refine E.ext_of rfl ?_ ?_ ?_ rfl
  · show x.ttl / 16777216 = x.ext
    omega
  · show x.ttl / 65536 % 256 = x.ver
    omega
  · show x.ttl % 65536 = x.flags
    omega

theorem read_e (w : World) (cl ttl : Nat) (s : ByteArray) (l : List Opt) (y : E) (hy : y = eOf cl ttl l) (hcl : cl < 65536) (httl : ttl < 4294967296) (hm : s.size ≤ 1000000) (hg : As.Laid w) (h : parse s = some l) :
    Calls Tryd.prog 28 #[.int .u16 (cl : Int), .int .u32 (ttl : Int), .string s] w fun r w' => ∃ v, r = .returned (.tuple #[.agg #[.int .u16 (y.size : Int), .int .u8 (y.ext : Int), .int .u8 (y.ver : Int), .int .u16 (y.flags : Int), v], .int .i64 0]) ∧ OptsAt w' v y.opts ∧ Chg Nob w w' := by
  subst hy
  exact read_some w cl ttl s l hcl httl hm hg h
theorem read_x (w : World) (x : E) (hx : x.Ok) (hok : ∀ o ∈ x.opts, o.Ok) (b : List UInt8) (hb : wro x.opts [] = some b) (hg : As.Laid w) :
    Calls Tryd.prog 28 #[.int .u16 (x.size : Int), .int .u32 (x.ttl : Int), .string ⟨b.toArray⟩] w fun r w' => ∃ v, r = .returned (.tuple #[.agg #[.int .u16 (x.size : Int), .int .u8 (x.ext : Int), .int .u8 (x.ver : Int), .int .u16 (x.flags : Int), v], .int .i64 0]) ∧ OptsAt w' v x.opts ∧ Chg Nob w w' := by
  rw [wro_nil] at hb
  split at hb
  · obtain rfl := Option.some.inj hb
    refine read_e w x.size x.ttl _ x.opts x (eOf_back hx).symm hx.1 (ttl_lt hx) ?_ hg (parse_all (fit_of x.opts hok (by omega)))
    show (total x.opts).toArray.size ≤ 1000000
    rw [List.size_toArray]
    omega
  · cases hb
theorem write_y (w : World) (cl ttl : Nat) (s : ByteArray) (l : List Opt) (y : E) (v : Value) (hy : y = eOf cl ttl l) (hcl : cl < 65536) (httl : ttl < 4294967296) (hm : s.size ≤ 20000) (hv : OptsAt w v y.opts) (h : parse s = some l) :
    Calls Tryd.prog 30 #[.agg #[.int .u16 (y.size : Int), .int .u8 (y.ext : Int), .int .u8 (y.ver : Int), .int .u16 (y.flags : Int), v]] w fun r w' => r = .returned (.tuple #[.int .u16 (cl : Int), .int .u32 (ttl : Int), .string s, .int .i64 0]) ∧ Chg Nob w w' := by
  subst hy
  have h1 := (parse_back h).1
  have hw : wro (eOf cl ttl l).opts [] = some (total l) := by
    rw [wro_nil]
    show (if (total l).length ≤ 65535 then _ else _) = _
    rw [if_pos (by rw [← h1]; have := size_list s; omega)]
    rfl
  have h2 := write_some w (eOf cl ttl l) v (eOf_ok hcl httl) hv _ hw
  rw [eOf_ttl, ← h1] at h2
  exact h2

set_option maxRecDepth 100000 in
set_option maxHeartbeats 4000000 in
theorem back_any (w : World) (x : E) (v : Value) (cl ttl : Nat) (s : ByteArray) (hx : x.Ok) (hv : OptsAt w v x.opts) (hcl : cl < 65536) (httl : ttl < 4294967296) (hs : s.size ≤ 9223372036854775807) (hg : As.Laid w) :
    Calls Tryd.prog 14 #[.agg #[.int .u16 (x.size : Int), .int .u8 (x.ext : Int), .int .u8 (x.ver : Int), .int .u16 (x.flags : Int), v], .int .u16 (cl : Int), .int .u32 (ttl : Int), .string s] w fun r w' => r = .returned (.bool true) ∧ Chg Nob w w' := by
  have HV := Lib.hid hv
  have HG := Lib.hid hg
  have HXK := Lib.hid hx
  obtain ⟨ad, c, rfl, hl, hxok, hcx⟩ := hv
  have HOK := Lib.hid hxok
  clear hxok hcx hg hx
  have HLx := Lib.hid (fun W v (h : OptsAt W v x.opts) => long_any W x v h)
  obtain ⟨k, hk⟩ : ∃ k, k = x.opts.length := ⟨_, rfl⟩
  rw [← hk] at HV hl ⊢
  have HK := Lib.hid hk
  clear hk
  have rx := alloc_new w (.cells #[.int .u16 (x.size : Int), .int .u8 (x.ext : Int), .int .u8 (x.ver : Int), .int .u16 (x.flags : Int), .slice ad k c] 55)
  have hC0 := (Chg.refl Nob w).alloc (.cells #[.int .u16 (x.size : Int), .int .u8 (x.ext : Int), .int .u8 (x.ver : Int), .int .u16 (x.flags : Int), .slice ad k c] 55)
  have s0 : (0 : Int) ≤ (s.size : Int) := by omega
  go_enter Tryd.func14, Tryd.ntmps14
  go_wp2_with fail
  generalize World.alloc w _ = W0 at *
  generalize hmx : w.heap.size = mx at *
  refine (HLx.out W0 _ (HV.out.nob hC0)).mono ?_
  rintro r w1 ⟨b1, rfl, _, hC1⟩
  have rx1 := hC1.heap rx (fun h => h)
  have hD1 := hC0.trans hC1
  have cx1 := fun i => cell_blk rx1 i
  clear rx hC0 hC1
  cases b1 with
  | true =>
    go_wp2_with fail
    refine (awake_any w1 (HG.out.nob hD1)).mono ?_
    rintro r w2 ⟨rfl, hC2⟩
    go_wp2_with fail
    (try simp only [Exit.inBlock, Exit.then])
    exact bodyPost_ret (v := .bool true) (by simp [results, Tryd.results14, go_sem]) rfl ⟨rfl, hD1.trans hC2⟩
  | false =>
    by_cases hlong : 20000 < s.size
    · have hl2 : (20000 : Int) < (s.size : Int) := by omega
      go_wp2_with fail
      refine (awake_any w1 (HG.out.nob hD1)).mono ?_
      rintro r w2 ⟨rfl, hC2⟩
      go_wp2_with fail
      (try simp only [Exit.inBlock, Exit.then])
      exact bodyPost_ret (v := .bool true) (by simp [results, Tryd.results14, go_sem]) rfl ⟨rfl, hD1.trans hC2⟩
    · have hl2 : ¬ (20000 : Int) < (s.size : Int) := by omega
      have hl3 : ¬ (65535 : Int) < (s.size : Int) := by omega
      go_wp2_with fail
      refine (awake_any w1 (HG.out.nob hD1)).mono ?_
      rintro r w2 ⟨rfl, hC2⟩
      have rx2 := hC2.heap rx1 (fun h => h)
      have hD2 := hD1.trans hC2
      have cx2 := fun i => cell_blk rx2 i
      clear rx1 hD1 hC2 cx1
      go_wp2_with fail
      --HERE
      by_cases hw : ∃ b, wro x.opts [] = some b
      · obtain ⟨b, hb⟩ := hw
        have HW1 := Lib.hid (write_some w2 x _ HXK.out (HV.out.nob hD2) b hb)
        have HRX := Lib.hid (fun W hg => read_x W x HXK.out HOK.out b hb hg)
        clear hb
        obtain ⟨S, hS⟩ : ∃ S : ByteArray, S = ⟨b.toArray⟩ := ⟨_, rfl⟩
        obtain ⟨T, hT⟩ : ∃ T : Nat, T = x.ttl := ⟨_, rfl⟩
        rw [← hS, ← hT] at HW1 HRX
        clear hS hT
        refine HW1.out.mono ?_
        rintro r w3 ⟨rfl, hC3⟩
        have rx3 := hC3.heap rx2 (fun h => h)
        have hD3 := hD2.trans hC3
        clear rx2 hD2 cx2 hC3 HW1
        go_wp2_with fail
        refine (HRX.out w3 (HG.out.nob hD3)).mono ?_
        rintro r w4 ⟨v4, rfl, hO4, hC4⟩
        obtain ⟨a4, c4, rfl, hl4, hk4, hu4⟩ := hO4
        have HO4 := Lib.hid (show OptsAt w4 (.slice a4 x.opts.length c4) x.opts from ⟨a4, c4, rfl, hl4, hk4, hu4⟩)
        rw [← HK.out] at HO4 hl4 ⊢
        have r4 := alloc_new w4 (.cells #[.int .u16 (x.size : Int), .int .u8 (x.ext : Int), .int .u8 (x.ver : Int), .int .u16 (x.flags : Int), .slice a4 k c4] 55)
        have rx4 := alloc_blk (hC4.heap rx3 (fun h => h)) (.cells #[.int .u16 (x.size : Int), .int .u8 (x.ext : Int), .int .u8 (x.ver : Int), .int .u16 (x.flags : Int), .slice a4 k c4] 55)
        have hD4 := (hD3.trans hC4).alloc (.cells #[.int .u16 (x.size : Int), .int .u8 (x.ext : Int), .int .u8 (x.ver : Int), .int .u16 (x.flags : Int), .slice a4 k c4] 55)
        have HO5 := Lib.hid (HO4.out.nob ((Chg.refl Nob w4).alloc (.cells #[.int .u16 (x.size : Int), .int .u8 (x.ext : Int), .int .u8 (x.ver : Int), .int .u16 (x.flags : Int), .slice a4 k c4] 55)))
        have c4' := fun i => cell_blk r4 i
        have cx4 := fun i => cell_blk rx4 i
        obtain ⟨m4, hm4⟩ : ∃ m, m = w4.heap.size := ⟨_, rfl⟩
        have hlt := lt_of_block rx3
        have hlt2 := hC4.size
        clear hk4 hu4 HO4 hC4 rx3 hD3 HRX
        go_wp2_with fail
        rw [← hm4] at r4 c4' ⊢
        generalize World.alloc w4 _ = W4 at *
        clear hm4 hlt hlt2
        have HS1 := Lib.hid (fun W (h : Chg Nob W4 W) => rsame_yes W x x _ _ (HV.out.nob (hD4.trans h)) (HO5.out.nob h) rfl)
        have HS2 := Lib.hid (fun W (h : Chg Nob W4 W) => same_yes W x x _ _ (HV.out.nob (hD4.trans h)) (HO5.out.nob h) rfl)
        refine (HS1.out W4 (Chg.refl _ _)).mono ?_
        rintro r w5 ⟨rfl, hC5⟩
        have c5 := fun i => cell_blk (hC5.heap r4 (fun h => h)) i
        have cx5 := fun i => cell_blk (hC5.heap rx4 (fun h => h)) i
        go_wp2_with fail
        refine (HS2.out w5 hC5).mono ?_
        rintro r w6 ⟨rfl, hC6⟩
        have hD6 := (hD4.trans hC5).trans hC6
        clear c4' cx4 c5 cx5 r4 rx4 hC5 hC6 hD4 HS1 HS2 HO5
        by_cases hp : ∃ l, parse s = some l
        · obtain ⟨l, hp⟩ := hp
          obtain ⟨y, hy⟩ : ∃ y, y = eOf cl ttl l := ⟨_, rfl⟩
          have HRE := Lib.hid (fun W hg => read_e W cl ttl s l y hy hcl httl (by omega) hg hp)
          have HWY := Lib.hid (fun W v hv => write_y W cl ttl s l y v hy hcl httl (by omega) hv hp)
          clear hp hy
          go_wp2_with fail
          refine (HRE.out w6 (HG.out.nob hD6)).mono ?_
          rintro r w8 ⟨v8, rfl, hO8, hC8⟩
          obtain ⟨a8, c8, rfl, hl8, hk8, hu8⟩ := hO8
          have HO8 := Lib.hid (show OptsAt w8 (.slice a8 y.opts.length c8) y.opts from ⟨a8, c8, rfl, hl8, hk8, hu8⟩)
          generalize hn8 : y.opts.length = n8 at *
          have hD8 := (hD6.trans hC8).alloc (.cells #[.int .u16 (y.size : Int), .int .u8 (y.ext : Int), .int .u8 (y.ver : Int), .int .u16 (y.flags : Int), .slice a8 n8 c8] 55)
          have HO9 := Lib.hid (HO8.out.nob ((Chg.refl Nob w8).alloc (.cells #[.int .u16 (y.size : Int), .int .u8 (y.ext : Int), .int .u8 (y.ver : Int), .int .u16 (y.flags : Int), .slice a8 n8 c8] 55)))
          have r8 := alloc_new w8 (.cells #[.int .u16 (y.size : Int), .int .u8 (y.ext : Int), .int .u8 (y.ver : Int), .int .u16 (y.flags : Int), .slice a8 n8 c8] 55)
          have c8' := fun i => cell_blk r8 i
          clear hk8 hu8 hn8 hC8 HRE
          go_wp2_with fail
          refine (HWY.out _ _ HO9.out).mono ?_
          rintro r w9 ⟨rfl, hC9⟩
          go_wp2_with fail
          (try simp only [Exit.inBlock, Exit.then])
          exact bodyPost_ret (v := .bool true) (by simp [results, Tryd.results14, go_sem]) rfl ⟨rfl, hD8.trans hC9⟩
        · have hp2 : parse s = none := by
            cases h : parse s with
            | none => rfl
            | some l => exact absurd ⟨l, h⟩ hp
          have HRE := Lib.hid (fun W hg => read_none W cl ttl s hcl httl (by omega) hg hp2)
          have HSM := Lib.hid (fun W => rsame_yes W ⟨0, 0, 0, 0, []⟩ ⟨0, 0, 0, 0, []⟩ (.slice none 0 0) (.slice none 0 0) (OptsAt.nil W none 0) (OptsAt.nil W none 0) rfl)
          clear hp hp2
          go_wp2_with fail
          refine (HRE.out w6 (HG.out.nob hD6)).mono ?_
          rintro r w8 ⟨rfl, hC8⟩
          have hD8 := (hD6.trans hC8).alloc (.cells #[.int .u16 0, .int .u8 0, .int .u8 0, .int .u16 0, .slice none 0 0] 55)
          have r8 := alloc_new w8 (.cells #[.int .u16 0, .int .u8 0, .int .u8 0, .int .u16 0, .slice none 0 0] 55)
          have c8' := fun i => cell_blk r8 i
          clear hC8 HRE
          go_wp2_with fail
          refine (HSM.out _).mono ?_
          rintro r w9 ⟨rfl, hC9⟩
          go_wp2_with fail
          (try simp only [Exit.inBlock, Exit.then])
          exact bodyPost_ret (v := .bool true) (by simp [results, Tryd.results14, go_sem]) rfl ⟨rfl, hD8.trans hC9⟩
      · have hw2 : wro x.opts [] = none := by
          cases h : wro x.opts [] with
          | none => rfl
          | some b => exact absurd ⟨b, h⟩ hw
        refine (write_none w2 x _ HXK.out (HV.out.nob hD2) hw2).mono ?_
        rintro r w3 ⟨rfl, hC3⟩
        have hD3 := hD2.trans hC3
        clear rx2 hD2 cx2 hC3 hw hw2
        by_cases hp : ∃ l, parse s = some l
        · obtain ⟨l, hp⟩ := hp
          obtain ⟨y, hy⟩ : ∃ y, y = eOf cl ttl l := ⟨_, rfl⟩
          have HRE := Lib.hid (fun W hg => read_e W cl ttl s l y hy hcl httl (by omega) hg hp)
          have HWY := Lib.hid (fun W v hv => write_y W cl ttl s l y v hy hcl httl (by omega) hv hp)
          clear hp hy
          go_wp2_with fail
          refine (HRE.out w3 (HG.out.nob hD3)).mono ?_
          rintro r w8 ⟨v8, rfl, hO8, hC8⟩
          obtain ⟨a8, c8, rfl, hl8, hk8, hu8⟩ := hO8
          have HO8 := Lib.hid (show OptsAt w8 (.slice a8 y.opts.length c8) y.opts from ⟨a8, c8, rfl, hl8, hk8, hu8⟩)
          generalize hn8 : y.opts.length = n8 at *
          have hD8 := (hD3.trans hC8).alloc (.cells #[.int .u16 (y.size : Int), .int .u8 (y.ext : Int), .int .u8 (y.ver : Int), .int .u16 (y.flags : Int), .slice a8 n8 c8] 55)
          have HO9 := Lib.hid (HO8.out.nob ((Chg.refl Nob w8).alloc (.cells #[.int .u16 (y.size : Int), .int .u8 (y.ext : Int), .int .u8 (y.ver : Int), .int .u16 (y.flags : Int), .slice a8 n8 c8] 55)))
          have r8 := alloc_new w8 (.cells #[.int .u16 (y.size : Int), .int .u8 (y.ext : Int), .int .u8 (y.ver : Int), .int .u16 (y.flags : Int), .slice a8 n8 c8] 55)
          have c8' := fun i => cell_blk r8 i
          clear hk8 hu8 hn8 hC8 HRE
          go_wp2_with fail
          refine (HWY.out _ _ HO9.out).mono ?_
          rintro r w9 ⟨rfl, hC9⟩
          go_wp2_with fail
          (try simp only [Exit.inBlock, Exit.then])
          exact bodyPost_ret (v := .bool true) (by simp [results, Tryd.results14, go_sem]) rfl ⟨rfl, hD8.trans hC9⟩
        · have hp2 : parse s = none := by
            cases h : parse s with
            | none => rfl
            | some l => exact absurd ⟨l, h⟩ hp
          have HRE := Lib.hid (fun W hg => read_none W cl ttl s hcl httl (by omega) hg hp2)
          have HSM := Lib.hid (fun W => rsame_yes W ⟨0, 0, 0, 0, []⟩ ⟨0, 0, 0, 0, []⟩ (.slice none 0 0) (.slice none 0 0) (OptsAt.nil W none 0) (OptsAt.nil W none 0) rfl)
          clear hp hp2
          go_wp2_with fail
          refine (HRE.out w3 (HG.out.nob hD3)).mono ?_
          rintro r w8 ⟨rfl, hC8⟩
          have hD8 := (hD3.trans hC8).alloc (.cells #[.int .u16 0, .int .u8 0, .int .u8 0, .int .u16 0, .slice none 0 0] 55)
          have r8 := alloc_new w8 (.cells #[.int .u16 0, .int .u8 0, .int .u8 0, .int .u16 0, .slice none 0 0] 55)
          have c8' := fun i => cell_blk r8 i
          clear hC8 HRE
          go_wp2_with fail
          refine (HSM.out _).mono ?_
          rintro r w9 ⟨rfl, hC9⟩
          go_wp2_with fail
          (try simp only [Exit.inBlock, Exit.then])
          exact bodyPost_ret (v := .bool true) (by simp [results, Tryd.results14, go_sem]) rfl ⟨rfl, hD8.trans hC9⟩
end Go.Proofs.YtgfgmaiddmohaaaDoor.Ed
