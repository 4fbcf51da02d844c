/- edns.Read, walked. -/
import Derived.Test.YtgfgmaiddmohaaaDoorEdApp
import Derived.Test.YtgfgmaiddmohaaaDoorReg
import Derived.Laws.ResultCell
namespace Go.Proofs.YtgfgmaiddmohaaaDoor.Ed
open Go.RowKit Go.Proofs.YtgfgmaiddmohaaaDoor.Cur Go.Proofs.YtgfgmaiddmohaaaDoor.Put

/-- A slice's options lie apart from a cursor. -/
theorem OptsAt.chg {w w' : World} {a : Option Addr} {n c g : Nat} {l : List Opt} {s : ByteArray} {k : Nat} (h : OptsAt w (.slice a n c) l) (hA : At w g s k) (hc : Chg (Only g) w w') : OptsAt w' (.slice a n c) l := by
  obtain ⟨a', c', e, hl, hk, h⟩ := h
  refine ⟨a', c', e, hl, hk, ?_⟩
  rcases h with h | ⟨b, off, rfl, hb, h⟩
  · exact .inl h
  · by_cases hnil : l = []
    · exact .inl hnil
    · have hbg : b ≠ g := by
        rintro rfl
        have h0 : l[0]? = some (l[0]'(List.length_pos_iff.2 hnil)) := List.getElem?_eq_getElem _
        have h1 := (h 0 _ h0).1
        rw [cell_blk hA.blk] at h1
        match off, h1 with
        | 0, h1 => simp at h1
        | 1, h1 => simp at h1
        | o + 2, h1 => simp at h1
      have hs : ∀ i, ¬ Only g (⟨b, i, none⟩ : Addr).block := fun i e => hbg e
      exact .inr ⟨b, off, rfl, Nat.lt_of_lt_of_le hb hc.size, fun i o ho => ⟨hc.cell (h i o ho).1 (hs _), hc.cell (h i o ho).2 (hs _)⟩⟩

/-- An Edns stored whole. -/
theorem Chg.set5 {S : Nat → Prop} {w0 w : World} {m : Nat} (h : Chg S w0 w) (hm : S m ∨ w0.heap.size ≤ m) (a b c d e : Value) :
    Chg S w0 (((((w.setCell ⟨m, 0, none⟩ a).setCell ⟨m, 1, none⟩ b).setCell ⟨m, 2, none⟩ c).setCell ⟨m, 3, none⟩ d).setCell ⟨m, 4, none⟩ e) :=
  ((((h.setCell (p := ⟨m, 0, none⟩) hm a).setCell (p := ⟨m, 1, none⟩) hm b).setCell (p := ⟨m, 2, none⟩) hm c).setCell (p := ⟨m, 3, none⟩) hm d).setCell (p := ⟨m, 4, none⟩) hm e
theorem OptsAt.only {w w' : World} {a : Option Addr} {n c m : Nat} {l : List Opt} (h : OptsAt w (.slice a n c) l) (hm : ∀ x, a = some x → x.block ≠ m) (hc : Chg (Only m) w w') : OptsAt w' (.slice a n c) l := by
  obtain ⟨a', c', e, hl, hk, h⟩ := h
  injection e with e1 e2 e3
  subst e1
  refine ⟨a, c', by rw [← e2, e3], hl, hk, ?_⟩
  rcases h with h | ⟨b, off, rfl, hb, h⟩
  · exact .inl h
  · have hs : ∀ i, ¬ Only m (⟨b, i, none⟩ : Addr).block := fun i e => hm _ rfl (show b = m from e)
    exact .inr ⟨b, off, rfl, Nat.lt_of_lt_of_le hb hc.size, fun i o ho => ⟨hc.cell (h i o ho).1 (hs _), hc.cell (h i o ho).2 (hs _)⟩⟩
theorem OptsAt.nob_cap {w : World} {a : Option Addr} {n c : Nat} {l : List Opt} (h : OptsAt w (.slice a n c) l) (c' : Nat) : OptsAt w (.slice a n c') l := by
  obtain ⟨a', c0, e, h⟩ := h
  injection e with e1 e2 e3
  subst e1
  exact ⟨a, c', by rw [e2], h⟩

/-- What is told of the slots of Read's last region. -/
def ReadT (a : Option Addr) (n c : Nat) (acc : List Opt) (o : Opt) (m1 B : Nat) (j : Nat) (v : Value) (w : World) : Prop :=
  match j with
  | 10 => ∃ g, v = .slice (some ⟨g, 0, none⟩) 1 1 ∧ B ≤ g ∧ w.heap[g]? = some (.cells #[.int .u16 (o.code : Int), .string o.data] 61 (0, 0))
  | 11 => ∃ g c2, v = .slice (some ⟨g, 0, none⟩) (n + 1) c2 ∧ B ≤ g ∧ n + 1 ≤ c2 ∧ OptsAt w (.slice (some ⟨g, 0, none⟩) (n + 1) c2) (acc ++ [o])
  | 13 => True
  | j => v = [Value.pointer (some ⟨m1, 4, none⟩), .slice a n c, .pointer (some ⟨m1, 4, none⟩), .slice a n c, .int .i64 (n : Int), .pointer (some ⟨m1, 4, none⟩), .slice a n c, .int .i64 (n : Int), .slice a n n, .agg #[.int .u16 (o.code : Int), .string o.data], undef, undef, .pointer (some ⟨m1, 4, none⟩)].getD j undef
theorem readT_mono {a : Option Addr} {n c : Nat} {acc : List Opt} {o : Opt} {m1 B j : Nat} {v : Value} {w w' : World} (hC : Chg (Only m1) w w') (hm : m1 < B) (h : ReadT a n c acc o m1 B j v w) : ReadT a n c acc o m1 B j v w' := by
  unfold ReadT at *
  split at h
  · obtain ⟨g, h1, h2, h3⟩ := h
    exact ⟨g, h1, h2, hC.heap h3 (fun e => by have e2 : g = m1 := e; omega)⟩
  · obtain ⟨g, c2, h1, h2, h4, h3⟩ := h
    exact ⟨g, c2, h1, h2, h4, OptsAt.only h3 (fun x hx e => by injection hx with hx; subst hx; simp at e; omega) hC⟩
  · trivial
  · exact h
/-- What is told of the world. -/
def ReadI (acc : List Opt) (o : Opt) (cl : Nat) (e1 e2 e3 : Int) (n m1 : Nat) (W : World) (listed : Array Bool) (w : World) : Prop :=
  Chg (Only m1) W w ∧ (listed.getD 13 false = false → w.heap[m1]? = W.heap[m1]?) ∧
  (listed.getD 13 false = true → ∃ g c2, W.heap.size ≤ g ∧ n + 1 ≤ c2 ∧ OptsAt w (.slice (some ⟨g, 0, none⟩) (n + 1) c2) (acc ++ [o]) ∧ w.heap[m1]? = some (.cells #[.int .u16 (cl : Int), .int .u8 e1, .int .u8 e2, .int .u16 e3, .slice (some ⟨g, 0, none⟩) (n + 1) c2] 55 (0, 0)))

theorem OptsAt.set5 {w : World} {ad : Option Addr} {n k m : Nat} {l : List Opt} (h : OptsAt w (.slice ad n k) l) (hm : ∀ x, ad = some x → x.block ≠ m) (a b c d e : Value) :
    OptsAt (((((w.setCell ⟨m, 0, none⟩ a).setCell ⟨m, 1, none⟩ b).setCell ⟨m, 2, none⟩ c).setCell ⟨m, 3, none⟩ d).setCell ⟨m, 4, none⟩ e) (.slice ad n k) l :=
  h.only hm (Chg.set5 (Chg.refl (Only m) w) (.inl rfl) a b c d e)

set_option maxRecDepth 100000 in
set_option maxHeartbeats 4000000 in
theorem read_any (w : World) (cl ttl : Nat) (s : ByteArray) (hcl : cl < 65536) (httl : ttl < 4294967296) (hm : s.size ≤ 1000000) (hg : As.Laid w) :
    Calls Tryd.prog 28 #[.int .u16 (cl : Int), .int .u32 (ttl : Int), .string s] w fun r w' =>
      (∃ l v, parse s = some l ∧ r = .returned (.tuple #[.agg #[.int .u16 (cl : Int), .int .u8 ((ttl / 16777216 : Nat) : Int), .int .u8 ((ttl / 65536 % 256 : Nat) : Int), .int .u16 ((ttl % 65536 : Nat) : Int), v], .int .i64 0]) ∧ OptsAt w' v l ∧ Chg Nob w w') ∨
      (parse s = none ∧ r = .returned (.tuple #[.agg #[.int .u16 0, .int .u8 0, .int .u8 0, .int .u16 0, .slice none 0 0], .int .i64 4]) ∧ Chg Nob w w') := by
  have HG := Lib.hid hg
  clear hg
  have t0 : (0 : Int) ≤ (ttl : Int) := by omega
  have t1 : (ttl : Int) ≤ 4294967295 := by omega
  have c0 : (0 : Int) ≤ (cl : Int) := by omega
  go_enter Tryd.func28, Tryd.ntmps28
  go_wp2_with fail
  obtain ⟨e1, he1⟩ : ∃ e : Int, e = (ttl : Int) / 16777216 := ⟨_, rfl⟩
  obtain ⟨e2, he2⟩ : ∃ e : Int, e = (ttl : Int) / 65536 % 256 := ⟨_, rfl⟩
  obtain ⟨e3, he3⟩ : ∃ e : Int, e = IntKind.u16.wrap (ttl : Int) := ⟨_, rfl⟩
  have HE := Lib.hid (show e1 = ((ttl / 16777216 : Nat) : Int) ∧ e2 = ((ttl / 65536 % 256 : Nat) : Int) ∧ e3 = ((ttl % 65536 : Nat) : Int) from ⟨by omega, by omega, by rw [he3, IntKind.wrap_u16]; omega⟩)
  rw [← he1, ← he2, ← he3]
  have r6 := alloc_blk (alloc_new w (.cells #[.int .u16 0, .int .u8 0, .int .u8 0, .int .u16 0, .slice none 0 0] 55)) (.cells #[.int .u16 (cl : Int), .int .u8 e1, .int .u8 e2, .int .u16 e3, .slice none 0 0] 55)
  have r8 := Hd.alloc_new1 w (.cells #[.int .u16 0, .int .u8 0, .int .u8 0, .int .u16 0, .slice none 0 0] 55) (.cells #[.int .u16 (cl : Int), .int .u8 e1, .int .u8 e2, .int .u16 e3, .slice none 0 0] 55)
  have hD0 := ((Chg.refl Nob w).alloc (.cells #[.int .u16 0, .int .u8 0, .int .u8 0, .int .u16 0, .slice none 0 0] 55)).alloc (.cells #[.int .u16 (cl : Int), .int .u8 e1, .int .u8 e2, .int .u16 e3, .slice none 0 0] 55)
  have hsz : w.heap.size + 2 = ((w.alloc (.cells #[.int .u16 0, .int .u8 0, .int .u8 0, .int .u16 0, .slice none 0 0] 55)).alloc (.cells #[.int .u16 (cl : Int), .int .u8 e1, .int .u8 e2, .int .u16 e3, .slice none 0 0] 55)).heap.size := by simp
  generalize World.alloc (World.alloc w _) _ = W2 at *
  clear he1 he2 he3 t0 t1 c0 httl hcl
  refine (new_any s W2 (by omega)).mono ?_
  rintro r w3 ⟨g, rfl, hg, hA3, hC3⟩
  have r6 := hC3.heap r6 (fun h => h)
  have r8 := hC3.heap r8 (fun h => h)
  have hD3 := hD0.trans hC3
  clear hC3 hD0
  go_wp2_with fail
  go_loopg [11] (s.size) (fun gk _ wx => ∃ (k f : Nat) (acc : List Opt) (a : Option Addr) (c : Nat), k ≤ s.size ∧ gk = s.size - k ∧ parse s = (parseF s (f + 1) k).map (acc ++ ·) ∧ s.size - k ≤ f ∧ acc.length * 4 ≤ k ∧ acc.length ≤ c ∧ (acc = [] → a = none) ∧
    wx.heap[w.heap.size]? = some (.cells #[.int .u16 0, .int .u8 0, .int .u8 0, .int .u16 0, .slice none 0 0] 55 (0, 0)) ∧ wx.heap[w.heap.size + 1]? = some (.cells #[.int .u16 (cl : Int), .int .u8 e1, .int .u8 e2, .int .u16 e3, .slice a acc.length c] 55 (0, 0)) ∧ OptsAt wx (.slice a acc.length c) acc ∧ (∀ x, a = some x → W2.heap.size ≤ x.block) ∧ At wx g s k ∧ Chg Nob w wx)
  case atStart => exact ⟨0, s.size, [], none, 0, Nat.zero_le _, rfl, parse_start s, by omega, by simp, by simp, fun _ => rfl, r6, r8, OptsAt.nil _ _ _, (fun x h => by cases h), hA3, hD3⟩
  case round =>
    obtain ⟨k, f, acc, a, c, hk, rfl, hpar, hf, hacc, hcap, hnil, r6, r8, hO, hfr, hA, hC⟩ := hrel
    have hLF := left_any _ g s k hA
    go_wp2_with fail
    refine hLF.mono ?_
    rintro r w4 ⟨rfl, n4, rfl⟩
    by_cases hks : k < s.size
    · have hks1 : (0 : Int) < (s.size : Int) - (k : Int) := by omega
      go_wp2_with fail
      have hmg : ¬ Only g w.heap.size := fun e => by have e2 : w.heap.size = g := e; omega
      have hmg1 : ¬ Only g (w.heap.size + 1) := fun e => by have e2 : w.heap.size + 1 = g := e; omega
      cases hoa : optAt s k with
      | none =>
        have hn := parse_fail hpar hks hoa
        refine (option_no _ g s k (HG.out.nob (hC.drewN n4)) (hA.nob ((Chg.refl Nob wr).drewN n4)) hoa).mono ?_
        rintro r w5 ⟨rfl, hC5⟩
        have r6 := alloc_blk (hC5.heap (show (wr.drewN n4).heap[w.heap.size]? = _ from r6) hmg) (.cells #[.int .u16 0, .string ⟨#[]⟩] 61)
        have hD5 := ((hC.drewN n4).trans' hC5 (fun i hi => .inr (by have e2 : i = g := hi; omega))).alloc (.cells #[.int .u16 0, .string ⟨#[]⟩] 61)
        have c6 := fun i => cell_blk r6 i
        have z6 := fun i => frozen_blk r6 i
        clear hpar r8 hO hA hC hC5 hLF hA3 hD3
        have hD6 := Chg.set5 hD5 (m := w.heap.size) (.inr (Nat.le_refl _)) (.int .u16 0) (.int .u8 0) (.int .u8 0) (.int .u16 0) (.slice none 0 0)
        go_wp2_with fail
        (try simp only [Exit.inBlock, Exit.then])
        refine bodyPost_ret (v := .tuple #[.agg #[.int .u16 0, .int .u8 0, .int .u8 0, .int .u16 0, .slice none 0 0], .int .i64 4]) ?_ rfl (.inr ⟨hn, rfl, hD6⟩)
        rw [results_cell_tmp rfl]
        go_simp
      | some ok =>
        obtain ⟨o, k'⟩ := ok
        have hp := parse_step hpar hks hoa
        have HOS := Lib.hid (optAt_some hoa)
        have HP := Lib.hid hp
        refine (option_ok _ g s k k' o (hA.nob ((Chg.refl Nob wr).drewN n4)) hoa).mono ?_
        rintro r w5 ⟨rfl, hA5, hC5⟩
        have hO5 := OptsAt.chg (hO.nob ((Chg.refl Nob wr).drewN n4)) (hA.nob ((Chg.refl Nob wr).drewN n4)) hC5
        have r6 := alloc_blk (hC5.heap (show (wr.drewN n4).heap[w.heap.size]? = _ from r6) hmg) (.cells #[.int .u16 (o.code : Int), .string o.data] 61)
        have r8 := alloc_blk (hC5.heap (show (wr.drewN n4).heap[w.heap.size + 1]? = _ from r8) hmg1) (.cells #[.int .u16 (o.code : Int), .string o.data] 61)
        have r10 := alloc_new w5 (.cells #[.int .u16 (o.code : Int), .string o.data] 61)
        have hD5 := ((hC.drewN n4).trans' hC5 (fun i hi => .inr (by have e2 : i = g := hi; omega))).alloc (.cells #[.int .u16 (o.code : Int), .string o.data] 61)
        have hA6 := hA5.nob ((Chg.refl Nob w5).alloc (.cells #[.int .u16 (o.code : Int), .string o.data] 61))
        have hO6 := hO5.nob ((Chg.refl Nob w5).alloc (.cells #[.int .u16 (o.code : Int), .string o.data] 61))
        have hsz5 := hC5.size
        have hszr := hC.size
        have HR10 := Lib.hid r10
        clear hpar hp hoa hO hO5 hA hC hC5 hLF hA3 hD3 hA5
        go_upto_region 7 with fail
        generalize World.alloc w5 _ = W6 at *
        obtain ⟨m1, hm1⟩ : ∃ m, m = w.heap.size + 1 := ⟨_, rfl⟩
        obtain ⟨m2, hm2⟩ : ∃ m, m = w5.heap.size := ⟨_, rfl⟩
        obtain ⟨n, hn⟩ : ∃ n, n = acc.length := ⟨_, rfl⟩
        have hlt2 := lt_of_block r10
        have hlt8 := lt_of_block r8
        rw [← hm1, ← hn] at r8
        rw [← hm2] at r10 hlt2
        rw [← hm1] at hlt8
        rw [← hn] at hO6
        rw [← hm1, ← hm2]
        have hn0 : (0 : Int) ≤ (n : Int) := by omega
        have h12 : m2 ≠ m1 := by have e1 : (wr.drewN n4).heap.size = wr.heap.size := rfl; have e2 := lt_of_block (show wr.heap[w.heap.size + 1]? = _ by assumption); omega
        refine Reg.region_closed (T := ReadT a n c acc o m1 W6.heap.size) (I := ReadI acc o cl e1 e2 e3 n m1 W6) (by kernel_rfl) (by kernel_rfl) ⟨(Chg.refl (Only m1) W6).drew, fun _ => rfl, fun h => by cases h⟩ ?_ ?_
        · intro i o' ho listed av w' hi hcl hafter hI hK hl K hKK
          have hi2 : i < 14 := (Array.getElem?_eq_some_iff.1 ho).1
          have hcase : i = 0 ∨ i = 1 ∨ i = 2 ∨ i = 3 ∨ i = 4 ∨ i = 5 ∨ i = 6 ∨ i = 7 ∨ i = 8 ∨ i = 9 ∨ i = 10 ∨ i = 11 ∨ i = 12 ∨ i = 13 := by omega
          clear hi2
          obtain ⟨hC, hI1, _⟩ := hI
          rcases hcase with rfl | rfl | rfl | rfl | rfl | rfl | rfl | rfl | rfl | rfl | rfl | rfl | rfl | rfl
          · have ho2 := ho
            obtain rfl := (Option.some.inj ho).symm
            have h13 := Reg.not_yet hcl (j := 13) (by kernel_rfl) hl
            have hb := (hI1 h13).trans r8
            have h13' : (listed.setIfInBounds 0 true).getD 13 false = false := by rw [Reg.set_at hi, if_neg (by decide)]; exact h13
            rw [if_pos (Reg.wanted_none rfl)]
            have e8 : av.tmps.getD 8 undef = .pointer (some ⟨m1, 0, none⟩) := (Reg.base_at hK 8 (by kernel_rfl)).trans rfl
            exact Reg.wp_val (v := .pointer (some ⟨m1, 4, none⟩)) (w' := w') (by simp [go_sem, execOp, Act.eval, e8]) (hKK _ _ rfl ⟨hC, fun _ => hI1 h13, fun h => by rw [h13'] at h; cases h⟩ fun _ _ h => h)
          · have ho2 := ho
            obtain rfl := (Option.some.inj ho).symm
            have h13 := Reg.not_yet hcl (j := 13) (by kernel_rfl) hl
            have hb := (hI1 h13).trans r8
            have h13' : (listed.setIfInBounds 1 true).getD 13 false = false := by rw [Reg.set_at hi, if_neg (by decide)]; exact h13
            rw [if_pos (Reg.wanted_none rfl)]
            have e36 : av.tmps.getD 36 undef = .pointer (some ⟨m1, 4, none⟩) := hK.done 0 36 rfl (Reg.listed_of ho2 hafter (by kernel_rfl))
            have hc4 : w'.cell? ⟨m1, 4, none⟩ = some (.slice a n c) := cell_blk hb 4
            exact Reg.wp_val (v := .slice a n c) (w' := w') (by simp [go_sem, execOp, Act.eval, e36, hc4]) (hKK _ _ rfl ⟨hC, fun _ => hI1 h13, fun h => by rw [h13'] at h; cases h⟩ fun _ _ h => h)
          · have ho2 := ho
            obtain rfl := (Option.some.inj ho).symm
            have h13 := Reg.not_yet hcl (j := 13) (by kernel_rfl) hl
            have hb := (hI1 h13).trans r8
            have h13' : (listed.setIfInBounds 2 true).getD 13 false = false := by rw [Reg.set_at hi, if_neg (by decide)]; exact h13
            rw [if_pos (Reg.wanted_none rfl)]
            have e8 : av.tmps.getD 8 undef = .pointer (some ⟨m1, 0, none⟩) := (Reg.base_at hK 8 (by kernel_rfl)).trans rfl
            exact Reg.wp_val (v := .pointer (some ⟨m1, 4, none⟩)) (w' := w') (by simp [go_sem, execOp, Act.eval, e8]) (hKK _ _ rfl ⟨hC, fun _ => hI1 h13, fun h => by rw [h13'] at h; cases h⟩ fun _ _ h => h)
          · have ho2 := ho
            obtain rfl := (Option.some.inj ho).symm
            have h13 := Reg.not_yet hcl (j := 13) (by kernel_rfl) hl
            have hb := (hI1 h13).trans r8
            have h13' : (listed.setIfInBounds 3 true).getD 13 false = false := by rw [Reg.set_at hi, if_neg (by decide)]; exact h13
            rw [if_pos (Reg.wanted_none rfl)]
            have e38 : av.tmps.getD 38 undef = .pointer (some ⟨m1, 4, none⟩) := hK.done 2 38 rfl (Reg.listed_of ho2 hafter (by kernel_rfl))
            have hc4 : w'.cell? ⟨m1, 4, none⟩ = some (.slice a n c) := cell_blk hb 4
            exact Reg.wp_val (v := .slice a n c) (w' := w') (by simp [go_sem, execOp, Act.eval, e38, hc4]) (hKK _ _ rfl ⟨hC, fun _ => hI1 h13, fun h => by rw [h13'] at h; cases h⟩ fun _ _ h => h)
          · have ho2 := ho
            obtain rfl := (Option.some.inj ho).symm
            have h13 := Reg.not_yet hcl (j := 13) (by kernel_rfl) hl
            have hb := (hI1 h13).trans r8
            have h13' : (listed.setIfInBounds 4 true).getD 13 false = false := by rw [Reg.set_at hi, if_neg (by decide)]; exact h13
            rw [if_pos (Reg.wanted_none rfl)]
            have e39 : av.tmps.getD 39 undef = .slice a n c := hK.done 3 39 rfl (Reg.listed_of ho2 hafter (by kernel_rfl))
            exact Reg.wp_val (v := .int .i64 (n : Int)) (w' := w') (by simp [go_sem, execOp, Act.eval, e39]) (hKK _ _ rfl ⟨hC, fun _ => hI1 h13, fun h => by rw [h13'] at h; cases h⟩ fun _ _ h => h)
          · have ho2 := ho
            obtain rfl := (Option.some.inj ho).symm
            have h13 := Reg.not_yet hcl (j := 13) (by kernel_rfl) hl
            have hb := (hI1 h13).trans r8
            have h13' : (listed.setIfInBounds 5 true).getD 13 false = false := by rw [Reg.set_at hi, if_neg (by decide)]; exact h13
            rw [if_pos (Reg.wanted_none rfl)]
            have e8 : av.tmps.getD 8 undef = .pointer (some ⟨m1, 0, none⟩) := (Reg.base_at hK 8 (by kernel_rfl)).trans rfl
            exact Reg.wp_val (v := .pointer (some ⟨m1, 4, none⟩)) (w' := w') (by simp [go_sem, execOp, Act.eval, e8]) (hKK _ _ rfl ⟨hC, fun _ => hI1 h13, fun h => by rw [h13'] at h; cases h⟩ fun _ _ h => h)
          · have ho2 := ho
            obtain rfl := (Option.some.inj ho).symm
            have h13 := Reg.not_yet hcl (j := 13) (by kernel_rfl) hl
            have hb := (hI1 h13).trans r8
            have h13' : (listed.setIfInBounds 6 true).getD 13 false = false := by rw [Reg.set_at hi, if_neg (by decide)]; exact h13
            rw [if_pos (Reg.wanted_none rfl)]
            have e41 : av.tmps.getD 41 undef = .pointer (some ⟨m1, 4, none⟩) := hK.done 5 41 rfl (Reg.listed_of ho2 hafter (by kernel_rfl))
            have hc4 : w'.cell? ⟨m1, 4, none⟩ = some (.slice a n c) := cell_blk hb 4
            exact Reg.wp_val (v := .slice a n c) (w' := w') (by simp [go_sem, execOp, Act.eval, e41, hc4]) (hKK _ _ rfl ⟨hC, fun _ => hI1 h13, fun h => by rw [h13'] at h; cases h⟩ fun _ _ h => h)
          · have ho2 := ho
            obtain rfl := (Option.some.inj ho).symm
            have h13 := Reg.not_yet hcl (j := 13) (by kernel_rfl) hl
            have hb := (hI1 h13).trans r8
            have h13' : (listed.setIfInBounds 7 true).getD 13 false = false := by rw [Reg.set_at hi, if_neg (by decide)]; exact h13
            rw [if_pos (Reg.wanted_none rfl)]
            have e42 : av.tmps.getD 42 undef = .slice a n c := hK.done 6 42 rfl (Reg.listed_of ho2 hafter (by kernel_rfl))
            exact Reg.wp_val (v := .int .i64 (n : Int)) (w' := w') (by simp [go_sem, execOp, Act.eval, e42]) (hKK _ _ rfl ⟨hC, fun _ => hI1 h13, fun h => by rw [h13'] at h; cases h⟩ fun _ _ h => h)
          · have ho2 := ho
            obtain rfl := (Option.some.inj ho).symm
            have h13 := Reg.not_yet hcl (j := 13) (by kernel_rfl) hl
            have hb := (hI1 h13).trans r8
            have h13' : (listed.setIfInBounds 8 true).getD 13 false = false := by rw [Reg.set_at hi, if_neg (by decide)]; exact h13
            rw [if_pos (Reg.wanted_none rfl)]
            have e37 : av.tmps.getD 37 undef = .slice a n c := hK.done 1 37 rfl (Reg.listed_of ho2 hafter (by kernel_rfl))
            have e40 : av.tmps.getD 40 undef = .int .i64 (n : Int) := hK.done 4 40 rfl (Reg.listed_of ho2 hafter (by kernel_rfl))
            have e43 : av.tmps.getD 43 undef = .int .i64 (n : Int) := hK.done 7 43 rfl (Reg.listed_of ho2 hafter (by kernel_rfl))
            have hcapI : (n : Int) ≤ (c : Int) := by omega
            exact Reg.wp_val (v := .slice a n n) (w' := w') (by simp [go_sem, execOp, Act.eval, e37, e40, e43, hn0, hcapI]) (hKK _ _ rfl ⟨hC, fun _ => hI1 h13, fun h => by rw [h13'] at h; cases h⟩ fun _ _ h => h)
          · have ho2 := ho
            obtain rfl := (Option.some.inj ho).symm
            have h13 := Reg.not_yet hcl (j := 13) (by kernel_rfl) hl
            have hb := (hI1 h13).trans r8
            have h13' : (listed.setIfInBounds 9 true).getD 13 false = false := by rw [Reg.set_at hi, if_neg (by decide)]; exact h13
            rw [if_pos (Reg.wanted_none rfl)]
            have e10 : av.tmps.getD 10 undef = .pointer (some ⟨m2, 0, none⟩) := (Reg.base_at hK 10 (by kernel_rfl)).trans rfl
            have hb2 := hC.heap r10 (fun e => h12 e)
            have hc0 : w'.cell? ⟨m2, 0, none⟩ = some (.int .u16 (o.code : Int)) := cell_blk hb2 0
            have hc1 : w'.cell? ⟨m2, 1, none⟩ = some (.string o.data) := cell_blk hb2 1
            exact Reg.wp_val (v := .agg #[.int .u16 (o.code : Int), .string o.data]) (w' := w') (by simp [go_sem, execOp, Act.eval, e10, hc0, hc1]) (hKK _ _ rfl ⟨hC, fun _ => hI1 h13, fun h => by rw [h13'] at h; cases h⟩ fun _ _ h => h)
          · have ho2 := ho
            obtain rfl := (Option.some.inj ho).symm
            have h13 := Reg.not_yet hcl (j := 13) (by kernel_rfl) hl
            have hb := (hI1 h13).trans r8
            have h13' : (listed.setIfInBounds 10 true).getD 13 false = false := by rw [Reg.set_at hi, if_neg (by decide)]; exact h13
            rw [if_pos (Reg.wanted_none rfl)]
            have e45 : av.tmps.getD 45 undef = .agg #[.int .u16 (o.code : Int), .string o.data] := hK.done 9 45 rfl (Reg.listed_of ho2 hafter (by kernel_rfl))
            rw [Array.getD_eq_getD_getElem?] at e45
            refine Reg.wp_val (v := .slice (some ⟨w'.heap.size, 0, none⟩) 1 1) (w' := w'.alloc (.cells #[.int .u16 (o.code : Int), .string o.data] 61)) (by simp [go_sem, execOp, Act.eval, e45]) (hKK _ _ ⟨w'.heap.size, rfl, hC.size, alloc_new w' _⟩ ⟨hC.alloc _, fun _ => (Below.heap_alloc w' _ _ (Nat.lt_of_lt_of_le hlt8 hC.size)).trans (hI1 h13), fun h => by rw [h13'] at h; cases h⟩ fun j u h => readT_mono ((Chg.refl (Only m1) w').alloc _) hlt8 h)
          · have ho2 := ho
            obtain rfl := (Option.some.inj ho).symm
            have h13 := Reg.not_yet hcl (j := 13) (by kernel_rfl) hl
            have hb := (hI1 h13).trans r8
            have h13' : (listed.setIfInBounds 11 true).getD 13 false = false := by rw [Reg.set_at hi, if_neg (by decide)]; exact h13
            rw [if_pos (Reg.wanted_none rfl)]
            have e44 : av.tmps.getD 44 undef = .slice a n n := hK.done 8 44 rfl (Reg.listed_of ho2 hafter (by kernel_rfl))
            obtain ⟨g1, e46, hg1, hg2⟩ : ∃ g1, av.tmps.getD 46 undef = .slice (some ⟨g1, 0, none⟩) 1 1 ∧ W6.heap.size ≤ g1 ∧ w'.heap[g1]? = some (.cells #[.int .u16 (o.code : Int), .string o.data] 61 (0, 0)) := hK.done 10 46 rfl (Reg.listed_of ho2 hafter (by kernel_rfl))
            obtain ⟨g2, c2, w2, hr, hg3, hcp2, hO2, hC2⟩ := app_opt w' a acc o g1 ⟨HOS.out.2.2.1, by have := HOS.out.2.2.2.1; omega⟩ hnil (OptsAt.only (hn ▸ OptsAt.nob_cap hO6 n) (fun x hx e => by have := hfr x hx; omega) hC) hg2 (by have := HOS.out.1; omega) 53
            rw [← hn] at hr hO2 hcp2
            refine Reg.wp_val (v := .slice (some ⟨g2, 0, none⟩) (n + 1) c2) (w' := w2) (by simp only [List.getElem_toArray, List.getElem_cons_succ, List.getElem_cons_zero, execOp, resolve, invoke, builtin, Sem.run_bind, Sem.run_pure, Result.andThen_ok, List.map_toArray, List.map_cons, List.map_nil, Act.eval, e44, e46, hr]) (hKK _ _ ⟨g2, c2, rfl, Nat.le_trans hC.size hg3, hcp2, hO2⟩ ⟨hC.trans (hC2.mono (fun _ _ h => h.elim)), fun _ => (hC2.block m1 (Nat.lt_of_lt_of_le hlt8 hC.size) (fun h => h)).trans (hI1 h13), fun h => by rw [h13'] at h; cases h⟩ fun j u h => readT_mono (hC2.mono (fun _ _ h => h.elim)) hlt8 h)
          · have ho2 := ho
            obtain rfl := (Option.some.inj ho).symm
            have h13 := Reg.not_yet hcl (j := 13) (by kernel_rfl) hl
            have hb := (hI1 h13).trans r8
            have h13' : (listed.setIfInBounds 12 true).getD 13 false = false := by rw [Reg.set_at hi, if_neg (by decide)]; exact h13
            rw [if_pos (Reg.wanted_none rfl)]
            have e8 : av.tmps.getD 8 undef = .pointer (some ⟨m1, 0, none⟩) := (Reg.base_at hK 8 (by kernel_rfl)).trans rfl
            exact Reg.wp_val (v := .pointer (some ⟨m1, 4, none⟩)) (w' := w') (by simp [go_sem, execOp, Act.eval, e8]) (hKK _ _ rfl ⟨hC, fun _ => hI1 h13, fun h => by rw [h13'] at h; cases h⟩ fun _ _ h => h)
          · have ho2 := ho
            obtain rfl := (Option.some.inj ho).symm
            rw [if_pos (Reg.wanted_none rfl)]
            have e48 : av.tmps.getD 48 undef = .pointer (some ⟨m1, 4, none⟩) := hK.done 12 48 rfl (Reg.listed_of ho2 hafter (by kernel_rfl))
            obtain ⟨g2, c2, e47, hg2, hcp2, hO2⟩ : ∃ g2 c2, av.tmps.getD 47 undef = .slice (some ⟨g2, 0, none⟩) (n + 1) c2 ∧ W6.heap.size ≤ g2 ∧ n + 1 ≤ c2 ∧ OptsAt w' (.slice (some ⟨g2, 0, none⟩) (n + 1) c2) (acc ++ [o]) := hK.done 11 47 rfl (Reg.listed_of ho2 hafter (by kernel_rfl))
            have hb := (hI1 hl).trans r8
            have hc4 : w'.cell? ⟨m1, 4, none⟩ = some (.slice a n c) := cell_blk hb 4
            have hf4 := frozen_blk hb 4
            have hS : Chg (Only m1) w' (w'.setCell ⟨m1, 4, none⟩ (.slice (some ⟨g2, 0, none⟩) (n + 1) c2)) := (Chg.refl (Only m1) w').setCell (p := ⟨m1, 4, none⟩) (.inl rfl) _
            refine Reg.wp_unit (w' := w'.setCell ⟨m1, 4, none⟩ (.slice (some ⟨g2, 0, none⟩) (n + 1) c2)) (by simp [go_sem, execOp, Act.eval, e48, e47, hc4, hf4]) (hKK _ _ trivial ⟨hC.trans hS, fun h => (by rw [Reg.set_at hi, if_pos rfl] at h; cases h), fun _ => ⟨g2, c2, hg2, hcp2, OptsAt.only hO2 (fun x hx e => by injection hx with hx; subst hx; simp at e; omega) hS, set_blk hb 4 _⟩⟩ fun j u h => readT_mono hS hlt8 h)
        · intro vals listed w' hT hall hI
          generalize hAA : Reg.fill _ _ vals = AA
          obtain rfl : AA = ⟨#[_, _, _, _, _, _, _, _, _, _, _, _, _, _, _, _, _, _, _, _, _, _, _, _, _, _, _, _, _, _, _, _, _, _, _, _, vals 0, vals 1, vals 2, vals 3, vals 4, vals 5, vals 6, vals 7, vals 8, vals 9, vals 10, vals 11, vals 12, _], []⟩ := hAA.symm.trans rfl
          clear hAA
          obtain ⟨hC, _, hI2⟩ := hI
          obtain ⟨g2, c2, hg2, hcp2, hO2, hb2⟩ := hI2 (hall 13 (by decide))
          obtain ⟨f', rfl⟩ : ∃ f', f = f' + 1 := ⟨f - 1, by omega⟩
          have hos := HOS.out
          have hl2 : (acc ++ [o]).length = n + 1 := by rw [List.length_append, ← hn]; rfl
          have hgl := hA6.lt
          have hdz : (wr.drewN n4).heap.size = wr.heap.size := rfl
          have hgm1 : g ≠ m1 := by omega
          have hr6 := hC.heap r6 (fun e => by have e2 : w.heap.size = m1 := e; omega)
          have hA7 := hA6.chg hC (fun e => hgm1 e)
          have hD7 := hD5.trans' hC (fun i hi => .inr (by have e2 : i = m1 := hi; omega))
          have hsz7 := hC.size
          subst hm1
          go_wp2_with fail
          go_roundg (s.size - k')
          case measure => omega
          case rel => exact ⟨k', f', acc ++ [o], some ⟨g2, 0, none⟩, c2, hos.2.1, rfl, HP.out, by omega, by omega, by omega, (fun h => by simp at h), hr6, by rw [hl2]; exact hb2, by rw [hl2]; exact hO2, (fun x hx => by injection hx with hx; subst hx; show W2.heap.size ≤ g2; omega), hA7, hD7⟩
    · have hks1 : ¬ (0 : Int) < (s.size : Int) - (k : Int) := by omega
      have hn := parse_end hpar hks
      have c6 := fun i => cell_blk r6 i
      have c8 := fun i => cell_blk r8 i
      have z6 := fun i => frozen_blk r6 i
      clear hpar hA3 hD3
      have hD6 := Lib.hid (Chg.set5 (hC.drewN n4) (m := w.heap.size) (.inr (Nat.le_refl _)) (.int .u16 (cl : Int)) (.int .u8 e1) (.int .u8 e2) (.int .u16 e3) (.slice a acc.length c))
      have hO6 := Lib.hid (OptsAt.set5 (hO.nob ((Chg.refl Nob wr).drewN n4)) (m := w.heap.size) (fun x hx e => by have := hfr x hx; omega) (.int .u16 (cl : Int)) (.int .u8 e1) (.int .u8 e2) (.int .u16 e3) (.slice a acc.length c))
      have HN := Lib.hid hn
      clear hnil hfr hO hC hA hn
      go_wp2_with fail
      obtain ⟨h1, h2, h3⟩ := HE.out
      (try simp only [Exit.inBlock, Exit.then])
      refine bodyPost_ret (v := .tuple #[.agg #[.int .u16 (cl : Int), .int .u8 e1, .int .u8 e2, .int .u16 e3, .slice a acc.length c], .int .i64 0]) ?_ rfl (.inl ⟨acc, .slice a acc.length c, HN.out, by rw [h1, h2, h3], hO6.out, hD6.out⟩)
      clear h1 h2 h3 HN hO6 hD6
      rw [results_cell_tmp rfl]
      go_simp
end Go.Proofs.YtgfgmaiddmohaaaDoor.Ed
