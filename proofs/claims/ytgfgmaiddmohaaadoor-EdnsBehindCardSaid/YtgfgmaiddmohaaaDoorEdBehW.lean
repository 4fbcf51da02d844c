/- EdnsBehind, walked. -/
import Derived.Test.YtgfgmaiddmohaaaDoorEdBehind
import Derived.Test.YtgfgmaiddmohaaaDoorRegV
namespace Go.Proofs.YtgfgmaiddmohaaaDoor.Ed
open Go.RowKit Go.Proofs.YtgfgmaiddmohaaaDoor.Cur Go.Proofs.YtgfgmaiddmohaaaDoor.Put

theorem OptsAt.only' {w w' : World} {v : Value} {l : List Opt} {m : Nat} (h : OptsAt w v l) (hc : Chg (Only m) w w') (hm : ∀ z, v.ownBlock = some z → z ≠ m) : OptsAt w' v l := by
  obtain ⟨a, c, rfl, h2⟩ := h
  exact OptsAt.only ⟨a, c, rfl, h2⟩ (fun z hz => hm z.block (by rw [hz]; rfl)) hc
theorem OptsAt.blk {w : World} {v : Value} {l : List Opt} (h : OptsAt w v l) (hl : l ≠ []) : ∃ b, v.ownBlock = some b ∧ b < w.heap.size := by
  obtain ⟨a, c, rfl, _, _, h2⟩ := h
  obtain ⟨b, off, rfl, hb, _⟩ := h2.resolve_left hl
  exact ⟨b, rfl, hb⟩
/-- Options that lay there are kept, whatever is done to a newer block. -/
theorem OptsAt.old {w w1 w' : World} {v : Value} {l : List Opt} {m : Nat} (h : OptsAt w v l) (h1 : Chg Nob w w1) (hc : Chg (Only m) w1 w') (hm : w.heap.size ≤ m) : OptsAt w' v l := by
  have h2 := h.nob h1
  obtain ⟨a, c, rfl, hl, hk, h3⟩ := h
  rcases h3 with h3 | ⟨b, off, rfl, hb, _⟩
  · subst h3
    exact OptsAt.nil w' a c
  · exact OptsAt.only h2 (fun z hz => by injection hz with hz; subst hz; show b ≠ m; omega) hc
theorem own_geO {w : World} {base : Nat} {v : Value} {n k B : Nat} {xs : List Value} (h : w.ownsRow base 61 2 v n xs) (hk : v.ownBlock = some k) (hb : B ≤ base) : B ≤ k := by
  rcases h.2 with ⟨rfl, _⟩ | ⟨g, cap, cur, rfl, hbg, _⟩
  · cases hk
  · have : g = k := by simpa [Value.ownBlock] using hk
    omega

theorem ba_append (l m : List UInt8) : (⟨l.toArray⟩ : ByteArray) ++ (⟨m.toArray⟩ : ByteArray) = ⟨(l ++ m).toArray⟩ := by
  apply ByteArray.ext
  rw [ByteArray.data_append]
  simp
theorem ba_size (l : List UInt8) : (⟨l.toArray⟩ : ByteArray).size = l.length := by
  show l.toArray.size = _
  simp
/-- Whatever edns.Write says of an EDNS, it says it wherever the options lie. -/
theorem write_gen (x : E) (hx : x.Ok) : ∃ (A B : Int) (S : ByteArray) (f : Int),
    (∀ W v, OptsAt W v x.opts → Calls Tryd.prog 30 #[.agg #[.int .u16 (x.size : Int), .int .u8 (x.ext : Int), .int .u8 (x.ver : Int), .int .u16 (x.flags : Int), v]] W fun r w' => r = .returned (.tuple #[.int .u16 A, .int .u32 B, .string S, .int .i64 f]) ∧ Chg Nob W w') ∧
    (((total x.opts).length ≤ 65535 ∧ S = ⟨(total x.opts).toArray⟩ ∧ f = 0) ∨ (65535 < (total x.opts).length ∧ f = 5)) := by
  by_cases h : (total x.opts).length ≤ 65535
  · have hw := wro_nil x.opts
    rw [if_pos h] at hw
    exact ⟨_, _, _, _, fun W v hv => write_some W x v hx hv _ hw, .inl ⟨h, rfl, rfl⟩⟩
  · have hw := wro_nil x.opts
    rw [if_neg h] at hw
    exact ⟨_, _, _, _, fun W v hv => write_none W x v hx hv hw, .inr ⟨by omega, rfl⟩⟩

theorem parseF_cut2 : ∀ (l : List Opt) (s : ByteArray) (A : List UInt8) (j f : Nat), (∀ o ∈ l, Fit o) → s.data.toList = A ++ (total l).take j → j < f → parseF s f A.length = (cutN l j).map fun m => l.take m
  | [], s, A, j, f, _, h, hf => by
    obtain ⟨f, rfl⟩ : ∃ g, f = g + 1 := ⟨f - 1, by omega⟩
    rw [parseF, if_neg (by rw [size_list, h]; simp [total])]
    rfl
  | o :: l, s, A, j, f, hk, h, hf => by
    have hb := Opt.bytes_len o
    obtain ⟨f, rfl⟩ : ∃ g, f = g + 1 := ⟨f - 1, by omega⟩
    rw [total] at h
    rw [cutN]
    by_cases h0 : j = 0
    · subst h0
      rw [if_pos rfl, parseF, if_neg (by rw [size_list, h]; simp)]
      rfl
    · rw [if_neg h0]
      by_cases hj : j < o.bytes.length
      · rw [if_pos hj]
        rw [List.take_append_of_le_length (by omega)] at h
        rw [parseF, if_pos (by rw [size_list, h, List.length_append, List.length_take]; omega), optAt_cut (hk o (List.mem_cons_self ..)) h hj]
        rfl
      · rw [if_neg hj]
        rw [List.take_append, List.take_of_length_le (by omega)] at h
        rw [parseF, if_pos (by rw [size_list, h, List.length_append, List.length_append]; omega), optAt_here (hk o (List.mem_cons_self ..)) h]
        have h2 := parseF_cut2 l s (A ++ o.bytes) (j - o.bytes.length) f (fun q hq => hk q (List.mem_cons_of_mem _ hq)) (by rw [h, List.append_assoc]) (by omega)
        rw [List.length_append] at h2
        simp only [h2, Option.map_map]
        cases cutN l (j - o.bytes.length) with
        | none => rfl
        | some m => rfl
theorem cut_ba (l : List UInt8) (K : Nat) (s : ByteArray) (hs : s = ⟨l.toArray⟩) : (s.extract 0 K).data.toList = l.take K := by
  subst hs
  rw [ByteArray.data_extract, Array.toList_extract, List.extract_eq_take_drop]
  simp
theorem parse_cut (L : List Opt) (K : Nat) (s : ByteArray) (hs : s = ⟨(total L).toArray⟩) (hk : ∀ o ∈ L, Fit o) (hK : K ≤ s.size) : parse (s.extract 0 K) = if (endsAt L K).2 = K then some (L.take (endsAt L K).1) else none := by
  have h1 := cut_ba (total L) K s hs
  have hsz : s.size = (total L).length := by rw [hs, ba_size]
  have h2 := parseF_cut2 L (s.extract 0 K) [] K ((s.extract 0 K).size + 1) hk (by rw [h1]; simp) (by rw [size_list, h1, List.length_take]; omega)
  rw [cutN_ends L K (by omega)] at h2
  unfold parse
  rw [show ([] : List UInt8).length = 0 from rfl] at h2
  rw [h2]
  split <;> rfl
theorem ends_le : ∀ (L : List Opt) (K : Nat), (endsAt L K).1 ≤ L.length
  | [], _ => Nat.le_refl _
  | o :: L, K => by
    rw [endsAt]
    split
    · simp
    · have := ends_le L (K - o.bytes.length)
      simp only [List.length_cons]
      omega
theorem rem_len (x : Int) (m : Nat) (hm : m ≤ 1000000) : ∃ p : Nat, wrap64 ((IntKind.u64.wrap x).tmod ((m : Int) + 1)) = (p : Int) ∧ p ≤ m := by
  have h0 : 0 ≤ IntKind.u64.wrap x := by simp only [IntKind.wrap_u64]; omega
  have e : (IntKind.u64.wrap x).tmod ((m : Int) + 1) = (IntKind.u64.wrap x) % ((m : Int) + 1) := Int.tmod_eq_emod_of_nonneg h0
  have h3 := Int.emod_nonneg (IntKind.u64.wrap x) (show (m : Int) + 1 ≠ 0 by omega)
  have h4 := Int.emod_lt_of_pos (IntKind.u64.wrap x) (show (0 : Int) < (m : Int) + 1 by omega)
  rw [e]
  generalize (IntKind.u64.wrap x) % ((m : Int) + 1) = r at *
  refine ⟨r.toNat, ?_, by omega⟩
  rw [show wrap64 r = r by unfold wrap64; omega]
  omega
/-- What a reading of the text that is cut off answers. -/
theorem read_cut (cl : Nat) (L : List Opt) (K : Nat) (s : ByteArray) (hcl : cl < 65536) (hs : s = ⟨(total L).toArray⟩) (hk : ∀ o ∈ L, Fit o) (hK : K ≤ s.size) (hm : s.size ≤ 65535) : ∃ (sz e : Int) (m : Nat),
    (∀ W, As.Laid W → Calls Tryd.prog 28 #[.int .u16 (cl : Int), .int .u32 0, .string (s.extract 0 K)] W fun r w' => ∃ v a c, v = .tuple #[.agg #[.int .u16 sz, .int .u8 0, .int .u8 0, .int .u16 0, .slice a m c], .int .i64 e] ∧ r = .returned v ∧ Chg Nob W w') ∧
    (((endsAt L K).2 = K ∧ e = 0 ∧ m = (endsAt L K).1) ∨ ((endsAt L K).2 ≠ K ∧ e = 4 ∧ m = 0)) := by
  have hp := parse_cut L K s hs hk hK
  have hz : (s.extract 0 K).size ≤ 1000000 := by rw [ByteArray.size_extract]; omega
  by_cases h : (endsAt L K).2 = K
  · rw [if_pos h] at hp
    refine ⟨cl, 0, (endsAt L K).1, fun W hg => (read_some W cl 0 _ _ hcl (by omega) hz hg hp).mono fun r w' h2 => ?_, .inl ⟨h, rfl, rfl⟩⟩
    obtain ⟨v, rfl, hO, hC⟩ := h2
    obtain ⟨a, c, rfl, _⟩ := hO
    rw [List.length_take, Nat.min_eq_left (ends_le L K)]
    exact ⟨_, a, c, rfl, rfl, hC⟩
  · rw [if_neg h] at hp
    refine ⟨0, 4, 0, fun W hg => (read_none W cl 0 _ hcl (by omega) hz hg hp).mono fun r w' h2 => ?_, .inr ⟨h, rfl, rfl⟩⟩
    exact ⟨_, none, 0, rfl, h2.1, h2.2⟩

/-- What is told of the slots of the last region. -/
def CutT (B mx K m : Nat) (U S3 : ByteArray) (cl : Nat) (sz e : Int) (listed : Array Bool) (j : Nat) (v : Value) (w : World) : Prop :=
  match j with
  | 5 => ∃ a c, v = .tuple #[.agg #[.int .u16 sz, .int .u8 0, .int .u8 0, .int .u16 0, .slice a m c], .int .i64 e]
  | 6 => ∃ a c, v = .tuple #[.agg #[.int .u16 sz, .int .u8 0, .int .u8 0, .int .u16 0, .slice a m c], .int .i64 e]
  | 7 => ∃ a c, v = .agg #[.int .u16 sz, .int .u8 0, .int .u8 0, .int .u16 0, .slice a m c]
  | 9 => ∃ g, v = .pointer (some ⟨g, 0, none⟩) ∧ B ≤ g ∧ (listed.getD 10 false = false → w.heap[g]? = some (.cells #[.int .u16 0, .int .u8 0, .int .u8 0, .int .u16 0, .slice none 0 0] 55 (0, 0))) ∧ (listed.getD 10 false = true → ∃ a c, w.heap[g]? = some (.cells #[.int .u16 sz, .int .u8 0, .int .u8 0, .int .u16 0, .slice a m c] 55 (0, 0)))
  | 10 => True
  | j => v = [.pointer (some ⟨mx, 0, none⟩), .int .u16 (cl : Int), .string S3, .int .i64 (K : Int), .string U, undef, undef, undef, .int .i64 e, undef, undef, .int .i64 e].getD j undef
theorem cutT_nob {B mx K m : Nat} {U S3 : ByteArray} {cl : Nat} {sz e : Int} {listed : Array Bool} {i j : Nat} {v : Value} {w w' : World} (hi : i < listed.size) (hne : i ≠ 10) (hC : Chg Nob w w') (h : CutT B mx K m U S3 cl sz e listed j v w) : CutT B mx K m U S3 cl sz e (listed.setIfInBounds i true) j v w' := by
  unfold CutT at *
  split at h
  · exact h
  · exact h
  · exact h
  · obtain ⟨g, h1, h2, h3, h4⟩ := h
    refine ⟨g, h1, h2, fun hl => hC.heap (h3 (set_false hi hl)) (fun h => h), fun hl => ?_⟩
    obtain ⟨a, c, h5⟩ := h4 (set_ne hi hne hl)
    exact ⟨a, c, hC.heap h5 (fun h => h)⟩
  · trivial
  · exact h

set_option maxRecDepth 100000 in
set_option maxHeartbeats 4000000 in
theorem behind_any (w : World) (x y : E) (v u : Value) (n : Int) (hx : x.Ok) (hy : y.Ok) (hv : OptsAt w v x.opts) (hu : OptsAt w u y.opts) (hn : -9223372036854775808 ≤ n ∧ n ≤ 9223372036854775807) (hg : As.Laid w) :
    Calls Tryd.prog 11 #[.agg #[.int .u16 (x.size : Int), .int .u8 (x.ext : Int), .int .u8 (x.ver : Int), .int .u16 (x.flags : Int), v], .agg #[.int .u16 (y.size : Int), .int .u8 (y.ext : Int), .int .u8 (y.ver : Int), .int .u16 (y.flags : Int), u], .int .i64 n] w fun r w' => r = .returned (.bool true) ∧ Chg Nob w w' := by
  have HV := Lib.hid hv
  have HU := Lib.hid hu
  have HG := Lib.hid hg
  have HXK := Lib.hid hx
  have HYK := Lib.hid hy
  have HN := Lib.hid hn
  obtain ⟨ad, c, rfl, hl, hxok, hcx⟩ := hv
  obtain ⟨ad', c', rfl, hl', hyok, hcy⟩ := hu
  have HXO := Lib.hid hxok
  have HYO := Lib.hid hyok
  clear hcx hcy hx hy hn hxok hyok
  have HLx := Lib.hid (fun W v (h : OptsAt W v x.opts) => long_any W x v h)
  have HLy := Lib.hid (fun W v (h : OptsAt W v y.opts) => long_any W y v h)
  obtain ⟨k, hk⟩ : ∃ k, k = x.opts.length := ⟨_, rfl⟩
  obtain ⟨k', hk'⟩ : ∃ k, k = y.opts.length := ⟨_, rfl⟩
  rw [← hk] at HV hl ⊢
  rw [← hk'] at HU hl' ⊢
  have HK := Lib.hid hk
  have HK' := Lib.hid hk'
  clear hk hk' hg
  have ry := alloc_new (w.alloc (.cells #[.int .u16 (x.size : Int), .int .u8 (x.ext : Int), .int .u8 (x.ver : Int), .int .u16 (x.flags : Int), .slice ad k c] 55)) (.cells #[.int .u16 (y.size : Int), .int .u8 (y.ext : Int), .int .u8 (y.ver : Int), .int .u16 (y.flags : Int), .slice ad' k' c'] 55)
  have rx := alloc_blk (alloc_new w (.cells #[.int .u16 (x.size : Int), .int .u8 (x.ext : Int), .int .u8 (x.ver : Int), .int .u16 (x.flags : Int), .slice ad k c] 55)) (.cells #[.int .u16 (y.size : Int), .int .u8 (y.ext : Int), .int .u8 (y.ver : Int), .int .u16 (y.flags : Int), .slice ad' k' c'] 55)
  have hC0 := ((Chg.refl Nob w).alloc (.cells #[.int .u16 (x.size : Int), .int .u8 (x.ext : Int), .int .u8 (x.ver : Int), .int .u16 (x.flags : Int), .slice ad k c] 55)).alloc (.cells #[.int .u16 (y.size : Int), .int .u8 (y.ext : Int), .int .u8 (y.ver : Int), .int .u16 (y.flags : Int), .slice ad' k' c'] 55)
  go_enter Tryd.func11, Tryd.ntmps11
  go_wp2_with fail
  generalize World.alloc (World.alloc w _) _ = W0 at *
  rw [World.size_alloc] at ry
  generalize hmx : w.heap.size = mx at *
  refine (HLx.out W0 _ (HV.out.nob hC0)).mono ?_
  rintro r w1 ⟨b1, rfl, hb1, hC1⟩
  have rx1 := hC1.heap rx (fun h => h)
  have ry1 := hC1.heap ry (fun h => h)
  have hD1 := hC0.trans hC1
  have cx1 := fun i => cell_blk rx1 i
  have cy1 := fun i => cell_blk ry1 i
  clear rx ry hC0 hC1
  cases b1 with
  | true =>
    clear hb1
    go_wp2_with fail
    refine (awake_any w1 (HG.out.nob hD1)).mono ?_
    rintro r w2 ⟨rfl, hC2⟩
    go_wp2_with fail
    (try simp only [Exit.inBlock, Exit.then])
    exact bodyPost_ret (v := .bool true) (by simp [results, Tryd.results11, go_sem]) rfl ⟨rfl, hD1.trans hC2⟩
  | false =>
    have hk3 := hb1 rfl
    rw [← HK.out] at hk3
    clear hb1
    go_wp2_with fail
    refine (HLy.out w1 _ (HU.out.nob hD1)).mono ?_
    rintro r w2 ⟨b2, rfl, hb2, hC2⟩
    have rx2 := hC2.heap rx1 (fun h => h)
    have ry2 := hC2.heap ry1 (fun h => h)
    have hD2 := hD1.trans hC2
    have cx2 := fun i => cell_blk rx2 i
    have cy2 := fun i => cell_blk ry2 i
    clear rx1 ry1 cx1 cy1 hD1 hC2
    cases b2 with
    | true =>
      clear hb2
      go_wp2_with fail
      refine (awake_any w2 (HG.out.nob hD2)).mono ?_
      rintro r w3 ⟨rfl, hC3⟩
      go_wp2_with fail
      (try simp only [Exit.inBlock, Exit.then])
      exact bodyPost_ret (v := .bool true) (by simp [results, Tryd.results11, go_sem]) rfl ⟨rfl, hD2.trans hC3⟩
    | false =>
      have hk4 := hb2 rfl
      rw [← HK'.out] at hk4
      clear hb2
      go_wp2_with fail
      refine (awake_any w2 (HG.out.nob hD2)).mono ?_
      rintro r w3 ⟨rfl, hC3⟩
      have rx3 := hC3.heap rx2 (fun h => h)
      have ry3 := hC3.heap ry2 (fun h => h)
      have hD3 := hD2.trans hC3
      have cx3 := fun i => cell_blk rx3 i
      have cy3 := fun i => cell_blk ry3 i
      clear rx2 ry2 cx2 cy2 hD2 hC3
      go_upto_region 4 with fail
      have rb := alloc_new w3 (.cells #[.int .u16 (x.size : Int), .int .u8 (x.ext : Int), .int .u8 (x.ver : Int), .int .u16 (x.flags : Int), .slice ad k c] 55)
      have rx4 := alloc_blk rx3 (.cells #[.int .u16 (x.size : Int), .int .u8 (x.ext : Int), .int .u8 (x.ver : Int), .int .u16 (x.flags : Int), .slice ad k c] 55)
      have ry4 := alloc_blk ry3 (.cells #[.int .u16 (x.size : Int), .int .u8 (x.ext : Int), .int .u8 (x.ver : Int), .int .u16 (x.flags : Int), .slice ad k c] 55)
      have hD4 := hD3.alloc (.cells #[.int .u16 (x.size : Int), .int .u8 (x.ext : Int), .int .u8 (x.ver : Int), .int .u16 (x.flags : Int), .slice ad k c] 55)
      have hlx := lt_of_block rx3
      have hly := lt_of_block ry3
      obtain ⟨mb, hmb⟩ : ∃ m, m = w3.heap.size := ⟨_, rfl⟩
      rw [← hmb] at rb hlx hly ⊢
      have hmbw : w.heap.size ≤ mb := by rw [hmb]; exact hD3.size
      generalize World.alloc w3 _ = W4 at *
      have hB := lt_of_block rb
      clear hmb rx3 ry3 cx3 cy3 hD3
      have HOX := Lib.hid (HV.out.nob hD4)
      have HOY := Lib.hid (HU.out.nob hD4)
      have nx : mx ≠ mb := by omega
      have ny : mx + 1 ≠ mb := by omega
      refine Reg.region_closedL (T := BehT W4.heap.size mx (mx + 1) mb (.slice ad k c) (.slice ad' k' c') x.opts y.opts #[.int .u16 (x.size : Int), .int .u8 (x.ext : Int), .int .u8 (x.ver : Int), .int .u16 (x.flags : Int), .slice ad k c]) (I := fun listed w' => Chg (Only mb) W4 w' ∧ (listed.getD 8 false = false → w'.heap[mb]? = W4.heap[mb]?)) (by kernel_rfl) (by kernel_rfl) ⟨(Chg.refl (Only mb) W4).drew, fun _ => rfl⟩ ?_ ?_
      · intro i o' ho listed av w' hi hcl hafter hI hK hl K hKK
        have hi2 : i < 9 := (Array.getElem?_eq_some_iff.1 ho).1
        have hcase : i = 0 ∨ i = 1 ∨ i = 2 ∨ i = 3 ∨ i = 4 ∨ i = 5 ∨ i = 6 ∨ i = 7 ∨ i = 8 := by omega
        clear hi2
        obtain ⟨hC, hI8⟩ := hI
        have hxc := fun i => cell_blk (hC.heap rx4 (fun e => nx e)) i
        have hyc := fun i => cell_blk (hC.heap ry4 (fun e => ny e)) i
        have hstay : ∀ j v, j ≠ i → listed.getD j false = true → i ≠ 8 → BehT W4.heap.size mx (mx + 1) mb (.slice ad k c) (.slice ad' k' c') x.opts y.opts #[.int .u16 (x.size : Int), .int .u8 (x.ext : Int), .int .u8 (x.ver : Int), .int .u16 (x.flags : Int), .slice ad k c] listed j v w' → BehT W4.heap.size mx (mx + 1) mb (.slice ad k c) (.slice ad' k' c') x.opts y.opts #[.int .u16 (x.size : Int), .int .u8 (x.ext : Int), .int .u8 (x.ver : Int), .int .u16 (x.flags : Int), .slice ad k c] (listed.setIfInBounds i true) j v w' := fun j v _ _ hne h => behT_nob hi hne (Chg.refl Nob w') h
        rcases hcase with rfl | rfl | rfl | rfl | rfl | rfl | rfl | rfl | rfl
        · have ho2 := ho
          obtain rfl := (Option.some.inj ho).symm
          rw [if_pos (Reg.wanted_none rfl)]
          have h3 := Reg.not_yet hcl (j := 3) (by kernel_rfl) hl
          have hnew := alloc_new w' (.cells #[] 61)
          refine Reg.wp_val (v := .slice (some ⟨w'.heap.size, 0, none⟩) 0 0) (w' := w'.alloc (.cells #[] 61)) (by simp [go_sem, execOp, Act.eval]) (hKK _ _ (fun _ => ⟨w'.heap.size, hC.size, by simp, own_none hnew⟩) ⟨hC.alloc _, fun h => (Chg.block ((Chg.refl Nob w').alloc _) mb (by have := hC.size; omega) (fun h => h)).trans (hI8 (set_false hi h))⟩ fun j u h1 h2 h => behT_nob hi (by decide) ((Chg.refl Nob w').alloc _) h)
        · have ho2 := ho
          obtain rfl := (Option.some.inj ho).symm
          rw [if_pos (Reg.wanted_none rfl)]
          have e3 : av.tmps.getD 3 undef = .pointer (some ⟨mx, 0, none⟩) := (Reg.base_at hK 3 (by kernel_rfl)).trans rfl
          exact Reg.wp_val (v := .pointer (some ⟨mx, 4, none⟩)) (w' := w') (by simp [go_sem, execOp, Act.eval, e3]) (hKK _ _ rfl ⟨hC, fun h => hI8 (set_false hi h)⟩ fun j u h1 h2 h => hstay j u h1 h2 (by decide) h)
        · have ho2 := ho
          obtain rfl := (Option.some.inj ho).symm
          rw [if_pos (Reg.wanted_none rfl)]
          have e39 : av.tmps.getD 39 undef = .pointer (some ⟨mx, 4, none⟩) := hK.done 1 39 rfl (Reg.listed_of ho2 hafter (by kernel_rfl))
          exact Reg.wp_val (v := .slice ad k c) (w' := w') (by simp [go_sem, execOp, Act.eval, e39, hxc]) (hKK _ _ rfl ⟨hC, fun h => hI8 (set_false hi h)⟩ fun j u h1 h2 h => hstay j u h1 h2 (by decide) h)
        · have ho2 := ho
          obtain rfl := (Option.some.inj ho).symm
          rw [if_pos (Reg.wanted_none rfl)]
          obtain ⟨base, hb1, hb2, hown⟩ : ∃ base, W4.heap.size ≤ base ∧ base ≤ w'.heap.size ∧ w'.ownsRow base 61 2 (av.tmps.getD 38 undef) ([] : List Opt).length (optsV []) := hK.done 0 38 rfl (Reg.listed_of ho2 hafter (by kernel_rfl)) hl
          have e40 : av.tmps.getD 40 undef = (.slice ad k c) := hK.done 2 40 rfl (Reg.listed_of ho2 hafter (by kernel_rfl))
          obtain ⟨v', w2, hr, hown2, hO2, hC2⟩ := run_app_opts w' 53 base (av.tmps.getD 38 undef) [] hown (by intro o ho; cases ho) (.slice ad k c) x.opts (OptsAt.old HV.out hD4 hC hmbw) (by rw [List.length_nil, ← HK.out]; omega) hb2
          have h8 : listed.getD 8 false = false := Reg.not_yet hcl (j := 8) (by kernel_rfl) (Reg.not_yet hcl (j := 6) (by kernel_rfl) hl)
          have hkp := hC2.block mb (by have := hC.size; omega) (fun e => by have e2 : base ≤ mb := e; omega)
          refine Reg.wp_val (v := v') (w' := w2) ?_ (hKK _ _ (fun _ => ⟨base, hb1, Nat.le_trans hb2 hC2.size, by rwa [List.nil_append] at hown2⟩) ⟨hC.trans' hC2 (fun j hj => .inr (by have e2 : base ≤ j := hj; omega)), fun h => hkp.trans (hI8 (set_false hi h))⟩ ?_)
          · simp only [List.getElem_toArray, List.getElem_cons_succ, List.getElem_cons_zero, execOp, resolve, invoke, builtin, Sem.run_bind, Sem.run_pure, Result.andThen_ok, List.map_toArray, List.map_cons, List.map_nil, Act.eval, e40, hr]
          · intro j u hj hlj h
            unfold BehT at *
            split at h
            · intro hl0
              have h3' := set_false hi hl0
              rw [set_self hi] at hl0; cases hl0
            · exact absurd rfl hj
            · have h6 := Reg.not_yet hcl (j := 6) (by kernel_rfl) hl; rw [h6] at hlj; cases hlj
            · refine ⟨h.1, fun hl0 => ?_⟩
              have := set_ne hi (by decide) hl0
              rw [h8] at this
              cases this
            · exact h
        · have ho2 := ho
          obtain rfl := (Option.some.inj ho).symm
          rw [if_pos (Reg.wanted_none rfl)]
          have e4 : av.tmps.getD 4 undef = .pointer (some ⟨mx + 1, 0, none⟩) := (Reg.base_at hK 4 (by kernel_rfl)).trans rfl
          exact Reg.wp_val (v := .pointer (some ⟨mx + 1, 4, none⟩)) (w' := w') (by simp [go_sem, execOp, Act.eval, e4]) (hKK _ _ rfl ⟨hC, fun h => hI8 (set_false hi h)⟩ fun j u h1 h2 h => hstay j u h1 h2 (by decide) h)
        · have ho2 := ho
          obtain rfl := (Option.some.inj ho).symm
          rw [if_pos (Reg.wanted_none rfl)]
          have e42 : av.tmps.getD 42 undef = .pointer (some ⟨mx + 1, 4, none⟩) := hK.done 4 42 rfl (Reg.listed_of ho2 hafter (by kernel_rfl))
          exact Reg.wp_val (v := (.slice ad' k' c')) (w' := w') (by simp [go_sem, execOp, Act.eval, e42, hyc]) (hKK _ _ rfl ⟨hC, fun h => hI8 (set_false hi h)⟩ fun j u h1 h2 h => hstay j u h1 h2 (by decide) h)
        · have ho2 := ho
          obtain rfl := (Option.some.inj ho).symm
          rw [if_pos (Reg.wanted_none rfl)]
          obtain ⟨base, hb1, hb2, hown⟩ : ∃ base, W4.heap.size ≤ base ∧ base ≤ w'.heap.size ∧ w'.ownsRow base 61 2 (av.tmps.getD 41 undef) (x.opts : List Opt).length (optsV x.opts) := hK.done 3 41 rfl (Reg.listed_of ho2 hafter (by kernel_rfl)) hl
          have e43 : av.tmps.getD 43 undef = (.slice ad' k' c') := hK.done 5 43 rfl (Reg.listed_of ho2 hafter (by kernel_rfl))
          obtain ⟨v', w2, hr, hown2, hO2, hC2⟩ := run_app_opts w' 53 base (av.tmps.getD 41 undef) x.opts hown HXO.out (.slice ad' k' c') y.opts (OptsAt.old HU.out hD4 hC hmbw) (by rw [← HK.out, ← HK'.out]; omega) hb2
          have h8 : listed.getD 8 false = false := Reg.not_yet hcl (j := 8) (by kernel_rfl) hl
          have hkp := hC2.block mb (by have := hC.size; omega) (fun e => by have e2 : base ≤ mb := e; omega)
          refine Reg.wp_val (v := v') (w' := w2) ?_ (hKK _ _ (fun _ => (by obtain ⟨a3, c3, e3, _⟩ := own_form hown2; subst e3; exact ⟨a3, c3, rfl, hO2, fun z hz => by have := own_geO hown2 (k := z.block) (by rw [hz]; rfl) hb1; exact this⟩)) ⟨hC.trans' hC2 (fun j hj => .inr (by have e2 : base ≤ j := hj; omega)), fun h => hkp.trans (hI8 (set_false hi h))⟩ ?_)
          · simp only [List.getElem_toArray, List.getElem_cons_succ, List.getElem_cons_zero, execOp, resolve, invoke, builtin, Sem.run_bind, Sem.run_pure, Result.andThen_ok, List.map_toArray, List.map_cons, List.map_nil, Act.eval, e43, hr]
          · intro j u hj hlj h
            unfold BehT at *
            split at h
            · intro hl0
              have h3' := set_false hi hl0
              have h3'' := Reg.listed_of (i := 6) (j := 3) ho2 hafter (by kernel_rfl); rw [h3''] at h3'; cases h3'
            · intro hl0; rw [set_self hi] at hl0; cases hl0
            · exact absurd rfl hj
            · refine ⟨h.1, fun hl0 => ?_⟩
              have := set_ne hi (by decide) hl0
              rw [h8] at this
              cases this
            · exact h
        · have ho2 := ho
          obtain rfl := (Option.some.inj ho).symm
          rw [if_pos (Reg.wanted_none rfl)]
          have h8 := Reg.not_yet hcl (j := 8) (by kernel_rfl) hl
          have e7 : av.tmps.getD 7 undef = .pointer (some ⟨mb, 0, none⟩) := (Reg.base_at hK 7 (by kernel_rfl)).trans rfl
          exact Reg.wp_val (v := .pointer (some ⟨mb, 4, none⟩)) (w' := w') (by simp [go_sem, execOp, Act.eval, e7]) (hKK _ _ ⟨rfl, fun h => (by have := set_ne hi (by decide) h; rw [h8] at this; cases this)⟩ ⟨hC, fun h => hI8 (set_false hi h)⟩ fun j u h1 h2 h => hstay j u h1 h2 (by decide) h)
        · have ho2 := ho
          obtain rfl := (Option.some.inj ho).symm
          rw [if_pos (Reg.wanted_none rfl)]
          obtain ⟨a3, c3, e44, hO2, hB2⟩ : ∃ a c, av.tmps.getD 44 undef = .slice a (x.opts ++ y.opts).length c ∧ OptsAt w' (.slice a (x.opts ++ y.opts).length c) (x.opts ++ y.opts) ∧ ∀ z, a = some z → W4.heap.size ≤ z.block := hK.done 6 44 rfl (Reg.listed_of ho2 hafter (by kernel_rfl)) hl
          have e45 : av.tmps.getD 45 undef = .pointer (some ⟨mb, 4, none⟩) := (hK.done 7 45 rfl (Reg.listed_of ho2 hafter (by kernel_rfl))).1
          have hb := (hI8 hl).trans rb
          have hc4 : w'.cell? ⟨mb, 4, none⟩ = some (.slice ad k c) := cell_blk hb 4
          have hf4 := frozen_blk hb 4
          have hS : Chg (Only mb) w' (w'.setCell ⟨mb, 4, none⟩ (.slice a3 (x.opts ++ y.opts).length c3)) := (Chg.refl (Only mb) w').setCell (p := ⟨mb, 4, none⟩) (.inl rfl) _
          refine Reg.wp_unit (w' := w'.setCell ⟨mb, 4, none⟩ (.slice a3 (x.opts ++ y.opts).length c3)) (by simp [go_sem, execOp, Act.eval, e45, e44, hc4, hf4]) (hKK _ _ rfl ⟨hC.trans hS, fun h => (by rw [set_self hi] at h; cases h)⟩ ?_)
          intro j u hj hlj h
          have l3 : listed.getD 3 false = true := Reg.listed_of ho2 hafter (by kernel_rfl)
          have l6 : listed.getD 6 false = true := Reg.listed_of ho2 hafter (by kernel_rfl)
          unfold BehT at *
          split at h
          · intro hl0
            have := set_false hi hl0
            rw [l3] at this
            cases this
          · intro hl0
            have := set_false hi hl0
            rw [l6] at this
            cases this
          · intro hl0
            rw [set_self hi] at hl0
            cases hl0
          · exact ⟨h.1, fun _ => ⟨a3, c3, set_blk hb 4 _, OptsAt.only hO2 (fun z hz e => by have := hB2 z hz; omega) hS⟩⟩
          · exact h
      · intro vals listed w' hT hall hI
        generalize hAA : Reg.fill _ _ vals = AA
        obtain ⟨y5, y8, y9, y10, y11, y12, y13, y14, y15, y16, y17, y18, y19, y20, y21, y22, y23, y24, y25, y26, y27, y28, y29, y30, y31, y32, y33, y34, y35, y36, y37, rfl⟩ : ∃ y5 y8 y9 y10 y11 y12 y13 y14 y15 y16 y17 y18 y19 y20 y21 y22 y23 y24 y25 y26 y27 y28 y29 y30 y31 y32 y33 y34 y35 y36 y37, AA = ⟨#[.agg #[.int .u16 (x.size : Int), .int .u8 (x.ext : Int), .int .u8 (x.ver : Int), .int .u16 (x.flags : Int), .slice ad k c], .agg #[.int .u16 (y.size : Int), .int .u8 (y.ext : Int), .int .u8 (y.ver : Int), .int .u16 (y.flags : Int), .slice ad' k' c'], .int .i64 n, .pointer (some ⟨mx, 0, none⟩), .pointer (some ⟨mx + 1, 0, none⟩), y5, .bool false, .pointer (some ⟨mb, 0, none⟩), y8, y9, y10, y11, y12, y13, y14, y15, y16, y17, y18, y19, y20, y21, y22, y23, y24, y25, y26, y27, y28, y29, y30, y31, y32, y33, y34, y35, y36, y37, vals 0, vals 1, vals 2, vals 3, vals 4, vals 5, vals 6, vals 7, undef, undef, undef, undef, undef, undef, undef, undef, undef, undef, undef, undef, undef, undef, undef, undef, undef, undef, undef, undef, undef, undef, undef, undef, undef, undef, undef, undef, undef, undef, undef, undef, undef, undef, undef, undef, undef, undef, undef, undef, undef, undef, undef, undef, undef, undef, undef, undef, undef, undef, undef, undef, undef, undef, undef, undef, undef, undef, undef, undef, undef, undef, undef, undef, undef, undef, undef, undef, undef, undef, undef, undef, undef, undef, undef, undef, undef, undef, undef, undef, undef, undef, undef, undef, undef, undef, undef, undef, undef, undef, undef, undef, undef, undef, undef, undef, undef, undef, undef, undef, undef, undef, undef, undef, undef, undef, undef], []⟩ := ⟨_, _, _, _, _, _, _, _, _, _, _, _, _, _, _, _, _, _, _, _, _, _, _, _, _, _, _, _, _, _, _, hAA.symm.trans rfl⟩
        clear hAA
        obtain ⟨hC, _⟩ := hI
        obtain ⟨a5, c5, rb5, hO5⟩ := (show BehT _ _ _ _ _ _ _ _ _ _ 7 (vals 7) w' from hT 7 45 rfl).2 (hall 8 (by decide))
        have hD5 : Chg Nob w w' := hD4.trans' hC (fun j hj => .inr (by have e : j = mb := hj; omega))
        have rx5 := hC.heap rx4 (fun e => nx e)
        have ry5 := hC.heap ry4 (fun e => ny e)
        have HOX := Lib.hid (OptsAt.old HV.out hD4 hC hmbw)
        have HOY := Lib.hid (OptsAt.old HU.out hD4 hC hmbw)
        have hRI : ∀ q : Nat, (#[.int .u16 (x.size : Int), .int .u8 (x.ext : Int), .int .u8 (x.ver : Int), .int .u16 (x.flags : Int), .slice ad k c] : Array Value).setIfInBounds 4 (.slice a5 q c5) = #[.int .u16 (x.size : Int), .int .u8 (x.ext : Int), .int .u8 (x.ver : Int), .int .u16 (x.flags : Int), .slice a5 q c5] := fun _ => rfl
        rw [hRI] at rb5
        obtain ⟨z, hz⟩ : ∃ z : E, z = ⟨x.size, x.ext, x.ver, x.flags, x.opts ++ y.opts⟩ := ⟨_, rfl⟩
        have HZ := Lib.hid hz
        have hzk : z.Ok := by rw [hz]; exact HXK.out
        obtain ⟨q, hq⟩ : ∃ q, q = (x.opts ++ y.opts).length := ⟨_, rfl⟩
        rw [← hq] at rb5 hO5
        have HOZ := Lib.hid hO5
        have HQ := Lib.hid hq
        obtain ⟨A1, B1, S1, f1, hW1, hR1⟩ := write_gen x HXK.out
        obtain ⟨A2, B2, S2, f2, hW2, hR2⟩ := write_gen y HYK.out
        obtain ⟨A3, B3, S3, f3, hW3, hR3⟩ := write_gen z hzk
        rw [hz] at hW3 hR3
        have HW1 := Lib.hid hW1
        have HW2 := Lib.hid hW2
        have HW3 := Lib.hid hW3
        have HR1 := Lib.hid hR1
        have HR2 := Lib.hid hR2
        have HR3 := Lib.hid hR3
        have cx5 := fun i => cell_blk rx5 i
        have q0 : (0 : Int) ≤ (q : Int) := by omega
        clear hW1 hW2 hW3 hR1 hR2 hR3 hO5 hq hz hzk hRI hT hall hC rb rx4 ry4 hD4 hB hlx hly
        go_wp2_with fail
        refine (HW1.out w' _ HOX.out).mono ?_
        rintro r w6 ⟨rfl, hC6⟩
        have hD6 := hD5.trans hC6
        have cy6 := fun i => cell_blk (hC6.heap ry5 (fun h => h)) i
        clear cx5
        go_wp2_with fail
        refine (HW2.out w6 _ (HOY.out.nob hC6)).mono ?_
        rintro r w7 ⟨rfl, hC7⟩
        have hD7 := hD6.trans hC7
        have hE7 := hC6.trans hC7
        have cb7 := fun i => cell_blk (hE7.heap rb5 (fun h => h)) i
        clear cy6 hC6 hC7 hD6
        go_wp2_with fail
        refine (HW3.out w7 _ (HOZ.out.nob hE7)).mono ?_
        rintro r w8 ⟨rfl, hC8⟩
        have hD8 := hD7.trans hC8
        have hE8 := hE7.trans hC8
        have rb8 := hE8.heap rb5 (fun h => h)
        have rx8 := hE8.heap rx5 (fun h => h)
        have HO8 := Lib.hid (HOZ.out.nob hE8)
        clear cb7 hC8 hD7 hE7 hE8 rb5 rx5 ry5 hD5 HOZ HOX HOY HW1 HW2 HW3
        have hcases : (f1 = 5 ∧ f3 = 5) ∨ (f1 = 0 ∧ f2 = 5 ∧ f3 = 5) ∨ (f1 = 0 ∧ f2 = 0 ∧ f3 = 5 ∧ 65535 < S1.size + S2.size ∧ S1.size ≤ 65535 ∧ S2.size ≤ 65535) ∨ (f1 = 0 ∧ f2 = 0 ∧ f3 = 0 ∧ S1.size + S2.size ≤ 65535 ∧ S1 = ⟨(total x.opts).toArray⟩ ∧ S2 = ⟨(total y.opts).toArray⟩ ∧ S3 = ⟨(total (x.opts ++ y.opts)).toArray⟩) := by
          have hlen : (total (x.opts ++ y.opts)).length = (total x.opts).length + (total y.opts).length := by rw [total_append, List.length_append]
          have hR3 := HR3.out
          rw [hlen] at hR3
          rcases HR1.out with ⟨a1, b1, d1⟩ | ⟨a1, d1⟩
          · rcases HR2.out with ⟨a2, b2, d2⟩ | ⟨a2, d2⟩
            · have e1 : S1.size = (total x.opts).length := by rw [b1, ba_size]
              have e2 : S2.size = (total y.opts).length := by rw [b2, ba_size]
              rcases hR3 with ⟨a3, b3, d3⟩ | ⟨a3, d3⟩
              · exact .inr (.inr (.inr ⟨d1, d2, d3, by omega, b1, b2, b3⟩))
              · exact .inr (.inr (.inl ⟨d1, d2, d3, by omega, by omega, by omega⟩))
            · rcases hR3 with ⟨a3, b3, d3⟩ | ⟨a3, d3⟩
              · omega
              · exact .inr (.inl ⟨d1, d2, d3⟩)
          · rcases hR3 with ⟨a3, b3, d3⟩ | ⟨a3, d3⟩
            · omega
            · exact .inl ⟨d1, d3⟩
        clear HR1 HR2 HR3
        rcases hcases with ⟨rfl, rfl⟩ | ⟨rfl, rfl, rfl⟩ | ⟨rfl, rfl, rfl, hlong, hs1, hs2⟩ | ⟨rfl, rfl, rfl, hfit, hS1, hS2, hS3⟩
        · go_wp2_with fail
          (try simp only [Exit.inBlock, Exit.then])
          exact bodyPost_ret (v := .bool true) (by simp [results, Tryd.results11, go_sem]) rfl ⟨rfl, hD8⟩
        · go_wp2_with fail
          (try simp only [Exit.inBlock, Exit.then])
          exact bodyPost_ret (v := .bool true) (by simp [results, Tryd.results11, go_sem]) rfl ⟨rfl, hD8⟩
        · have hb : (65535 : Int) < (S1.size : Int) + (S2.size : Int) := by omega
          have g1 : (0 : Int) ≤ (S1.size : Int) := by omega
          have g2 : (0 : Int) ≤ (S2.size : Int) := by omega
          have g3 : (S1.size : Int) + (S2.size : Int) ≤ 1000000000 := by omega
          go_wp2_with fail
          (try simp only [Exit.inBlock, Exit.then])
          exact bodyPost_ret (v := .bool true) (by simp [results, Tryd.results11, go_sem]) rfl ⟨rfl, hD8⟩
        · have hb : (S1.size : Int) + (S2.size : Int) ≤ 65535 := by omega
          have g1 : (0 : Int) ≤ (S1.size : Int) := by omega
          have g2 : (0 : Int) ≤ (S2.size : Int) := by omega
          have hcat : S1 ++ S2 = S3 := by rw [hS1, hS2, hS3, ba_append, total_append]
          have hno : ¬ 9223372036854775807 < S1.size + S2.size := by omega
          have hs3 : S3.size ≤ 65535 := by rw [← hcat, ByteArray.size_append]; exact hfit
          have HS1 := Lib.hid hS1
          have HS2 := Lib.hid hS2
          have HS3 := Lib.hid hS3
          have g4 : (0 : Int) ≤ (S3.size : Int) := by omega
          have g5 : (S3.size : Int) ≤ 65535 := by omega
          clear hS1 hS2 hS3
          have hxy : ∀ o ∈ x.opts ++ y.opts, o.Ok := fun o ho => by
            rcases List.mem_append.1 ho with ho | ho
            · exact HXO.out o ho
            · exact HYO.out o ho
          obtain ⟨L, hL⟩ : ∃ L, L = x.opts ++ y.opts := ⟨_, rfl⟩
          rw [← hL] at HS3 HO8 HQ hxy
          have hsz := HS3.out
          have hfit2 : ∀ o ∈ L, Fit o := fit_of L hxy (by have := hs3; rw [hsz, ba_size] at this; exact this)
          obtain ⟨K, hK, hKs⟩ := rem_len n S3.size (by omega)
          obtain ⟨sz, ee, mm, hRD, hcase⟩ := read_cut x.size L K S3 HXK.out.1 hsz hfit2 hKs hs3
          have HRD := Lib.hid hRD
          have HCS := Lib.hid hcase
          have HFT := Lib.hid hfit2
          obtain ⟨_, _, HOC⟩ : ∃ a c, Hid (Value.slice a5 q c5 = .slice a L.length c ∧ L.length ≤ 9223372036854775807 ∧ (∀ o ∈ L, o.Ok) ∧ (L = [] ∨ ∃ b off, a = some ⟨b, off, none⟩ ∧ b < w8.heap.size ∧ ∀ (i : Nat) (o : Opt), L[i]? = some o → w8.cell? ⟨b, off + i * 2, none⟩ = some (.int .u16 (o.code : Int)) ∧ w8.cell? ⟨b, off + i * 2 + 1, none⟩ = some (.string o.data))) := by
            obtain ⟨a, c, h⟩ := HO8.out
            exact ⟨a, c, Lib.hid h⟩
          have cb8 := fun i => cell_blk rb8 i
          have hqm : q ≤ 9223372036854775807 := by
            have h := HOC.out
            rw [HQ.out]
            exact h.2.1
          have k0 : (0 : Int) ≤ (K : Int) := by omega
          have k1 : (K : Int) ≤ (S3.size : Int) := by omega
          clear hRD hcase hfit2 hxy hsz hL HO8 hfit
          go_wp2_with fail
          rw [hK]
          clear hb hno hK hcat
          go_loop [21, 22, 23] (fun va ve vi => ∃ (i a m : Nat), i ≤ q ∧ a ≤ 200000 ∧ m ≤ i ∧ va = .int .i64 (a : Int) ∧ ve = .int .i64 (m : Int) ∧ vi = .int .i64 (i : Int) ∧ endsAt L K = ((endsAt (L.drop i) (K - a)).1 + m, (endsAt (L.drop i) (K - a)).2 + a)) (fun _ _ vi => q - (intOf vi).toNat)
          case atStart => exact ⟨0, 0, 0, by omega, by omega, by omega, rfl, rfl, rfl, by simp⟩
          case round =>
            obtain ⟨i, a, m, hi, ha, hmi, rfl, rfl, rfl, hE⟩ := hrel
            have i0 : (0 : Int) ≤ (i : Int) := by omega
            have a0 : (0 : Int) ≤ (a : Int) := by omega
            have a1 : (a : Int) ≤ 200000 := by omega
            have m0 : (0 : Int) ≤ (m : Int) := by omega
            have HE := Lib.hid hE
            clear hE
            by_cases hgo : i < q ∧ a < K
            · obtain ⟨hiq, haK⟩ := hgo
              have hi1 : (i : Int) < (q : Int) := by omega
              have ha1 : (a : Int) < (K : Int) := by omega
              have hlt : i < L.length := by have := HQ.out; omega
              have hget := List.getElem?_eq_getElem hlt
              obtain ⟨hs, _, _, hcl1⟩ := HOC.out
              obtain ⟨b1, o1, e1, _, hcl⟩ := hcl1.resolve_left (by intro e; rw [e] at hlt; simp at hlt)
              subst e1
              injection hs with hs1 hs2 hs3'
              have ec := (hcl i _ hget).2
              have hst := endsAt_step hget K a haK
              have hft := (HFT.out _ (List.getElem_mem hlt)).2
              have hbl := Opt.bytes_len L[i]
              generalize L[i] = o at *
              have HST := Lib.hid hst
              have d0 : (0 : Int) ≤ (o.data.size : Int) := by omega
              have d1 : (o.data.size : Int) ≤ 65535 := by omega
              rw [hs1] at cb8
              clear hst hcl hcl1 hget hs1 hs2 hs3'
              go_wp2_with fail
              go_round
              case rel => exact ⟨i + 1, a + o.bytes.length, m + 1, by omega, by omega, by omega, by rw [hbl]; simp; omega, by simp, by simp, by rw [HE.out, HST.out]; simp only [Prod.mk.injEq]; omega⟩
              case measure => simp [intOf]; omega
            · have hend : endsAt L K = (m, a) := by
                rw [HE.out]
                by_cases h1 : i < q
                · rw [show K - a = 0 by omega, endsAt_zero]
                  simp
                · rw [List.drop_of_length_le (by have := HQ.out; omega)]
                  simp [endsAt]
              have HEND := Lib.hid hend
              clear hend
              by_cases hiq : i < q
              · have hi1 : (i : Int) < (q : Int) := by omega
                have ha1 : ¬ (a : Int) < (K : Int) := by omega
                go_wp2_with fail
                have hCR := fun i => cell_blk rx8 i
                refine Reg.region_closedV (T := CutT w8.heap.size mx K mm (S3.extract 0 K) S3 x.size sz ee) (I := fun _ w' => Chg Nob w8 w') (by kernel_rfl) (by kernel_rfl) (Chg.refl Nob w8).drew ?_ ?_
                · intro i o' ho listed av w' hi hcl hafter hI hKn hl K2 hKK
                  have hi2 : i < 12 := (Array.getElem?_eq_some_iff.1 ho).1
                  have hcase : i = 0 ∨ i = 1 ∨ i = 2 ∨ i = 3 ∨ i = 4 ∨ i = 5 ∨ i = 6 ∨ i = 7 ∨ i = 8 ∨ i = 9 ∨ i = 10 ∨ i = 11 := by omega
                  clear hi2
                  have hxc := fun i => cell_blk (hI.heap rx8 (fun h => h)) i
                  rcases hcase with rfl | rfl | rfl | rfl | rfl | rfl | rfl | rfl | rfl | rfl | rfl | rfl
                  · have ho2 := ho
                    obtain rfl := (Option.some.inj ho).symm
                    rw [if_pos (Reg.wanted_none rfl)]
                    have e3 : av.tmps.getD 3 undef = .pointer (some ⟨mx, 0, none⟩) := (Reg.base_at hKn 3 (by kernel_rfl)).trans rfl
                    exact Reg.wp_val (v := .pointer (some ⟨mx, 0, none⟩)) (w' := w') (by simp [go_sem, execOp, Act.eval, e3]) (hKK _ _ (rfl) hI fun j d _ _ _ h => cutT_nob hi (by decide) (Chg.refl Nob w') h)
                  · have ho2 := ho
                    obtain rfl := (Option.some.inj ho).symm
                    rw [if_pos (Reg.wanted_none rfl)]
                    have e125 : av.tmps.getD 125 undef = .pointer (some ⟨mx, 0, none⟩) := hKn.done 0 125 rfl (Reg.listed_of ho2 hafter (by kernel_rfl))
                    exact Reg.wp_val (v := .int .u16 (x.size : Int)) (w' := w') (by simp [go_sem, execOp, Act.eval, e125, hxc]) (hKK _ _ (rfl) hI fun j d _ _ _ h => cutT_nob hi (by decide) (Chg.refl Nob w') h)
                  · have ho2 := ho
                    obtain rfl := (Option.some.inj ho).symm
                    rw [if_pos (Reg.wanted_none rfl)]
                    have e18 : av.tmps.getD 18 undef = .string S3 := (Reg.base_at hKn 18 (by kernel_rfl)).trans rfl
                    exact Reg.wp_val (v := .string S3) (w' := w') (by simp [go_sem, execOp, Act.eval, e18]) (hKK _ _ (rfl) hI fun j d _ _ _ h => cutT_nob hi (by decide) (Chg.refl Nob w') h)
                  · have ho2 := ho
                    obtain rfl := (Option.some.inj ho).symm
                    rw [if_pos (Reg.wanted_none rfl)]
                    have e20 : av.tmps.getD 20 undef = .int .i64 (K : Int) := (Reg.base_at hKn 20 (by kernel_rfl)).trans rfl
                    exact Reg.wp_val (v := .int .i64 (K : Int)) (w' := w') (by simp [go_sem, execOp, Act.eval, e20]) (hKK _ _ (rfl) hI fun j d _ _ _ h => cutT_nob hi (by decide) (Chg.refl Nob w') h)
                  · have ho2 := ho
                    obtain rfl := (Option.some.inj ho).symm
                    rw [if_pos (Reg.wanted_none rfl)]
                    have e127 : av.tmps.getD 127 undef = .string S3 := hKn.done 2 127 rfl (Reg.listed_of ho2 hafter (by kernel_rfl))
                    have e128 : av.tmps.getD 128 undef = .int .i64 (K : Int) := hKn.done 3 128 rfl (Reg.listed_of ho2 hafter (by kernel_rfl))
                    exact Reg.wp_val (v := .string (S3.extract 0 K)) (w' := w') (by simp [go_sem, execOp, Act.eval, e127, e128, k0, k1]) (hKK _ _ (rfl) hI fun j d _ _ _ h => cutT_nob hi (by decide) (Chg.refl Nob w') h)
                  · have ho2 := ho
                    obtain rfl := (Option.some.inj ho).symm
                    rw [if_pos (Reg.wanted_none rfl)]
                    have e126 : av.tmps.getD 126 undef = .int .u16 (x.size : Int) := hKn.done 1 126 rfl (Reg.listed_of ho2 hafter (by kernel_rfl))
                    have e129 : av.tmps.getD 129 undef = .string (S3.extract 0 K) := hKn.done 4 129 rfl (Reg.listed_of ho2 hafter (by kernel_rfl))
                    rw [Array.getD_eq_getD_getElem?] at e126 e129
                    refine Reg.wp_call (R := fun v w2 => (∃ a6 c6, v = .tuple #[.agg #[.int .u16 sz, .int .u8 0, .int .u8 0, .int .u16 0, .slice a6 mm c6], .int .i64 ee]) ∧ Chg Nob w' w2) (w' := w') (by simp [go_sem, execOp, Act.eval, e126, e129]) ((HRD.out w' (HG.out.nob (hD8.trans hI))).mono ?_) ?_
                    · rintro e w2 ⟨v, a6, c6, hv, rfl, hC⟩
                      exact ⟨v, rfl, ⟨a6, c6, hv⟩, hC⟩
                    rintro v w2 ⟨hv, hC⟩
                    exact hKK _ _ hv (hI.trans hC) fun j d _ _ _ h => cutT_nob hi (by decide) hC h
                  · have ho2 := ho
                    obtain rfl := (Option.some.inj ho).symm
                    rw [if_pos (Reg.wanted_none rfl)]
                    obtain ⟨a6, c6, e130⟩ : ∃ a6 c6, av.tmps.getD 130 undef = .tuple #[.agg #[.int .u16 sz, .int .u8 0, .int .u8 0, .int .u16 0, .slice a6 mm c6], .int .i64 ee] := hKn.done 5 130 rfl (Reg.listed_of ho2 hafter (by kernel_rfl))
                    exact Reg.wp_val (v := .tuple #[.agg #[.int .u16 sz, .int .u8 0, .int .u8 0, .int .u16 0, .slice a6 mm c6], .int .i64 ee]) (w' := w') (by simp [go_sem, execOp, Act.eval, e130]) (hKK _ _ ⟨a6, c6, rfl⟩ hI fun j d _ _ _ h => cutT_nob hi (by decide) (Chg.refl Nob w') h)
                  · have ho2 := ho
                    obtain rfl := (Option.some.inj ho).symm
                    rw [if_pos (Reg.wanted_none rfl)]
                    obtain ⟨a6, c6, e124⟩ : ∃ a6 c6, av.tmps.getD 124 undef = .tuple #[.agg #[.int .u16 sz, .int .u8 0, .int .u8 0, .int .u16 0, .slice a6 mm c6], .int .i64 ee] := hKn.done 6 124 rfl (Reg.listed_of ho2 hafter (by kernel_rfl))
                    exact Reg.wp_val (v := .agg #[.int .u16 sz, .int .u8 0, .int .u8 0, .int .u16 0, .slice a6 mm c6]) (w' := w') (by simp [go_sem, execOp, Act.eval, e124]) (hKK _ _ ⟨a6, c6, rfl⟩ hI fun j d _ _ _ h => cutT_nob hi (by decide) (Chg.refl Nob w') h)
                  · have ho2 := ho
                    obtain rfl := (Option.some.inj ho).symm
                    rw [if_pos (Reg.wanted_none rfl)]
                    obtain ⟨a6, c6, e124⟩ : ∃ a6 c6, av.tmps.getD 124 undef = .tuple #[.agg #[.int .u16 sz, .int .u8 0, .int .u8 0, .int .u16 0, .slice a6 mm c6], .int .i64 ee] := hKn.done 6 124 rfl (Reg.listed_of ho2 hafter (by kernel_rfl))
                    exact Reg.wp_val (v := .int .i64 ee) (w' := w') (by simp [go_sem, execOp, Act.eval, e124]) (hKK _ _ rfl hI fun j d _ _ _ h => cutT_nob hi (by decide) (Chg.refl Nob w') h)
                  · have ho2 := ho
                    obtain rfl := (Option.some.inj ho).symm
                    rw [if_pos (Reg.wanted_none rfl)]
                    have h10 := Reg.not_yet hcl (j := 10) (by kernel_rfl) hl
                    have hnew := alloc_new w' (.cells #[.int .u16 0, .int .u8 0, .int .u8 0, .int .u16 0, .slice none 0 0] 55)
                    exact Reg.wp_val (v := .pointer (some ⟨w'.heap.size, 0, none⟩)) (w' := w'.alloc (.cells #[.int .u16 0, .int .u8 0, .int .u8 0, .int .u16 0, .slice none 0 0] 55)) (by simp [go_sem, execOp]) (hKK _ _ ⟨_, rfl, hI.size, fun _ => hnew, fun h => (by have := set_ne hi (by decide) h; rw [h10] at this; cases this)⟩ (hI.alloc _) fun j d _ _ _ h => cutT_nob hi (by decide) ((Chg.refl Nob w').alloc _) h)
                  · have ho2 := ho
                    obtain rfl := (Option.some.inj ho).symm
                    rw [if_pos (Reg.wanted_none rfl)]
                    obtain ⟨g, e24, hg, hz, _⟩ : ∃ g, av.tmps.getD 24 undef = .pointer (some ⟨g, 0, none⟩) ∧ w8.heap.size ≤ g ∧ (listed.getD 10 false = false → w'.heap[g]? = some (.cells #[.int .u16 0, .int .u8 0, .int .u8 0, .int .u16 0, .slice none 0 0] 55 (0, 0))) ∧ (listed.getD 10 false = true → ∃ a c, w'.heap[g]? = some (.cells #[.int .u16 sz, .int .u8 0, .int .u8 0, .int .u16 0, .slice a mm c] 55 (0, 0))) := hKn.done 9 24 rfl (Reg.listed_of ho2 hafter (by kernel_rfl))
                    obtain ⟨a6, c6, e131⟩ : ∃ a6 c6, av.tmps.getD 131 undef = .agg #[.int .u16 sz, .int .u8 0, .int .u8 0, .int .u16 0, .slice a6 mm c6] := hKn.done 7 131 rfl (Reg.listed_of ho2 hafter (by kernel_rfl))
                    have hb := hz hl
                    have hc := fun i => cell_blk hb i
                    have hf := fun i => frozen_blk hb i
                    refine Reg.wp_unit (w' := ((((w'.setCell ⟨g, 0, none⟩ (.int .u16 sz)).setCell ⟨g, 1, none⟩ (.int .u8 0)).setCell ⟨g, 2, none⟩ (.int .u8 0)).setCell ⟨g, 3, none⟩ (.int .u16 0)).setCell ⟨g, 4, none⟩ (.slice a6 mm c6)) (by simp [go_sem, execOp, Act.eval, e24, e131, hc, hf]) (hKK _ _ trivial ?_ ?_)
                    · exact Chg.set5 hI (.inr hg) _ _ _ _ _
                    · intro j d hj hd hlj h
                      unfold CutT at *
                      split at h
                      · exact h
                      · exact h
                      · exact h
                      · obtain ⟨g', h1, h2, h3, h4⟩ := h
                        obtain rfl : 24 = d := Option.some.inj ((show _ = some 24 from rfl).symm.trans hd)
                        rw [e24] at h1
                        injection h1 with h1
                        injection h1 with h1
                        injection h1 with h1
                        subst h1
                        exact ⟨g, e24, h2, fun h => (by rw [set_self hi] at h; cases h), fun _ => ⟨a6, c6, set_blk (set_blk (set_blk (set_blk (set_blk hb 0 _) 1 _) 2 _) 3 _) 4 _⟩⟩
                      · trivial
                      · exact h
                  · have ho2 := ho
                    obtain rfl := (Option.some.inj ho).symm
                    rw [if_pos (Reg.wanted_none rfl)]
                    have e132 : av.tmps.getD 132 undef = .int .i64 ee := hKn.done 8 132 rfl (Reg.listed_of ho2 hafter (by kernel_rfl))
                    exact Reg.wp_val (v := .int .i64 ee) (w' := w') (by simp [go_sem, execOp, Act.eval, e132]) (hKK _ _ rfl hI fun j d _ _ _ h => cutT_nob hi (by decide) (Chg.refl Nob w') h)
                · intro vals listed w9 hT hall hI
                  generalize hAA : Reg.fill _ _ vals = AA
                  obtain ⟨z, hzz⟩ : ∃ z : Nat → Value, AA = ⟨#[z 0, z 1, z 2, z 3, z 4, z 5, z 6, z 7, z 8, z 9, z 10, z 11, z 12, z 13, z 14, z 15, z 16, z 17, z 18, z 19, .int .i64 (K : Int), .int .i64 (a : Int), .int .i64 (m : Int), z 23, vals 9, vals 11, z 26, z 27, z 28, z 29, z 30, z 31, z 32, z 33, z 34, z 35, z 36, z 37, z 38, z 39, z 40, z 41, z 42, z 43, z 44, z 45, z 46, z 47, z 48, z 49, z 50, z 51, z 52, z 53, z 54, z 55, z 56, z 57, z 58, z 59, z 60, z 61, z 62, z 63, z 64, z 65, z 66, z 67, z 68, z 69, z 70, z 71, z 72, z 73, z 74, z 75, z 76, z 77, z 78, z 79, z 80, z 81, z 82, z 83, z 84, z 85, z 86, z 87, z 88, z 89, z 90, z 91, z 92, z 93, z 94, z 95, z 96, z 97, z 98, z 99, z 100, z 101, z 102, z 103, z 104, z 105, z 106, z 107, z 108, z 109, z 110, z 111, z 112, z 113, z 114, z 115, z 116, z 117, z 118, z 119, z 120, z 121, z 122, z 123, vals 6, vals 0, vals 1, vals 2, vals 3, vals 4, vals 5, vals 7, vals 8, z 133, z 134, z 135, z 136, z 137, z 138, z 139, z 140, z 141, z 142, z 143, z 144, z 145, z 146, z 147, z 148, z 149, z 150, z 151, z 152], []⟩ := ⟨fun i => AA.tmps.getD i undef, by rw [← hAA]; kernel_rfl⟩
                  subst hzz
                  clear hAA
                  obtain ⟨g, e9, _, _, hg⟩ := (show CutT _ _ _ _ _ _ _ _ _ _ 9 (vals 9) w9 from hT 9 24 rfl)
                  obtain ⟨a6, c6, hb9⟩ := hg (hall 10 (by decide))
                  have e11 : vals 11 = .int .i64 ee := hT 11 25 rfl
                  rw [e9, e11]
                  have hc9 := fun i => cell_blk hb9 i
                  have hend := HEND.out
                  have hcs := HCS.out
                  rw [hend] at hcs
                  have hD9 := hD8.trans hI
                  simp only at hcs
                  clear hT hall hi1 k0 k1 g1 g2 g4 g5 cb8 hend
                  rcases hcs with ⟨rfl, rfl, rfl⟩ | ⟨hne, rfl, rfl⟩
                  · go_wp2_with fail
                    (try simp only [Exit.inBlock, Exit.then])
                    exact bodyPost_ret (v := .bool true) (by simp [results, Tryd.results11, go_sem]) rfl ⟨rfl, hD9⟩
                  · have hne2 : ((a : Int) == (K : Int)) = false := by simp; omega
                    have hne3 : ¬ ((a : Int) = (K : Int)) := by omega
                    clear hne
                    go_wp2_with fail
                    (try simp only [Exit.inBlock, Exit.then])
                    exact bodyPost_ret (v := .bool true) (by simp [results, Tryd.results11, go_sem]) rfl ⟨rfl, hD9⟩
              · have hi1 : ¬ (i : Int) < (q : Int) := by omega
                go_wp2_with fail
                have hCR := fun i => cell_blk rx8 i
                refine Reg.region_closedV (T := CutT w8.heap.size mx K mm (S3.extract 0 K) S3 x.size sz ee) (I := fun _ w' => Chg Nob w8 w') (by kernel_rfl) (by kernel_rfl) (Chg.refl Nob w8).drew ?_ ?_
                · intro i o' ho listed av w' hi hcl hafter hI hKn hl K2 hKK
                  have hi2 : i < 12 := (Array.getElem?_eq_some_iff.1 ho).1
                  have hcase : i = 0 ∨ i = 1 ∨ i = 2 ∨ i = 3 ∨ i = 4 ∨ i = 5 ∨ i = 6 ∨ i = 7 ∨ i = 8 ∨ i = 9 ∨ i = 10 ∨ i = 11 := by omega
                  clear hi2
                  have hxc := fun i => cell_blk (hI.heap rx8 (fun h => h)) i
                  rcases hcase with rfl | rfl | rfl | rfl | rfl | rfl | rfl | rfl | rfl | rfl | rfl | rfl
                  · have ho2 := ho
                    obtain rfl := (Option.some.inj ho).symm
                    rw [if_pos (Reg.wanted_none rfl)]
                    have e3 : av.tmps.getD 3 undef = .pointer (some ⟨mx, 0, none⟩) := (Reg.base_at hKn 3 (by kernel_rfl)).trans rfl
                    exact Reg.wp_val (v := .pointer (some ⟨mx, 0, none⟩)) (w' := w') (by simp [go_sem, execOp, Act.eval, e3]) (hKK _ _ (rfl) hI fun j d _ _ _ h => cutT_nob hi (by decide) (Chg.refl Nob w') h)
                  · have ho2 := ho
                    obtain rfl := (Option.some.inj ho).symm
                    rw [if_pos (Reg.wanted_none rfl)]
                    have e125 : av.tmps.getD 125 undef = .pointer (some ⟨mx, 0, none⟩) := hKn.done 0 125 rfl (Reg.listed_of ho2 hafter (by kernel_rfl))
                    exact Reg.wp_val (v := .int .u16 (x.size : Int)) (w' := w') (by simp [go_sem, execOp, Act.eval, e125, hxc]) (hKK _ _ (rfl) hI fun j d _ _ _ h => cutT_nob hi (by decide) (Chg.refl Nob w') h)
                  · have ho2 := ho
                    obtain rfl := (Option.some.inj ho).symm
                    rw [if_pos (Reg.wanted_none rfl)]
                    have e18 : av.tmps.getD 18 undef = .string S3 := (Reg.base_at hKn 18 (by kernel_rfl)).trans rfl
                    exact Reg.wp_val (v := .string S3) (w' := w') (by simp [go_sem, execOp, Act.eval, e18]) (hKK _ _ (rfl) hI fun j d _ _ _ h => cutT_nob hi (by decide) (Chg.refl Nob w') h)
                  · have ho2 := ho
                    obtain rfl := (Option.some.inj ho).symm
                    rw [if_pos (Reg.wanted_none rfl)]
                    have e20 : av.tmps.getD 20 undef = .int .i64 (K : Int) := (Reg.base_at hKn 20 (by kernel_rfl)).trans rfl
                    exact Reg.wp_val (v := .int .i64 (K : Int)) (w' := w') (by simp [go_sem, execOp, Act.eval, e20]) (hKK _ _ (rfl) hI fun j d _ _ _ h => cutT_nob hi (by decide) (Chg.refl Nob w') h)
                  · have ho2 := ho
                    obtain rfl := (Option.some.inj ho).symm
                    rw [if_pos (Reg.wanted_none rfl)]
                    have e127 : av.tmps.getD 127 undef = .string S3 := hKn.done 2 127 rfl (Reg.listed_of ho2 hafter (by kernel_rfl))
                    have e128 : av.tmps.getD 128 undef = .int .i64 (K : Int) := hKn.done 3 128 rfl (Reg.listed_of ho2 hafter (by kernel_rfl))
                    exact Reg.wp_val (v := .string (S3.extract 0 K)) (w' := w') (by simp [go_sem, execOp, Act.eval, e127, e128, k0, k1]) (hKK _ _ (rfl) hI fun j d _ _ _ h => cutT_nob hi (by decide) (Chg.refl Nob w') h)
                  · have ho2 := ho
                    obtain rfl := (Option.some.inj ho).symm
                    rw [if_pos (Reg.wanted_none rfl)]
                    have e126 : av.tmps.getD 126 undef = .int .u16 (x.size : Int) := hKn.done 1 126 rfl (Reg.listed_of ho2 hafter (by kernel_rfl))
                    have e129 : av.tmps.getD 129 undef = .string (S3.extract 0 K) := hKn.done 4 129 rfl (Reg.listed_of ho2 hafter (by kernel_rfl))
                    rw [Array.getD_eq_getD_getElem?] at e126 e129
                    refine Reg.wp_call (R := fun v w2 => (∃ a6 c6, v = .tuple #[.agg #[.int .u16 sz, .int .u8 0, .int .u8 0, .int .u16 0, .slice a6 mm c6], .int .i64 ee]) ∧ Chg Nob w' w2) (w' := w') (by simp [go_sem, execOp, Act.eval, e126, e129]) ((HRD.out w' (HG.out.nob (hD8.trans hI))).mono ?_) ?_
                    · rintro e w2 ⟨v, a6, c6, hv, rfl, hC⟩
                      exact ⟨v, rfl, ⟨a6, c6, hv⟩, hC⟩
                    rintro v w2 ⟨hv, hC⟩
                    exact hKK _ _ hv (hI.trans hC) fun j d _ _ _ h => cutT_nob hi (by decide) hC h
                  · have ho2 := ho
                    obtain rfl := (Option.some.inj ho).symm
                    rw [if_pos (Reg.wanted_none rfl)]
                    obtain ⟨a6, c6, e130⟩ : ∃ a6 c6, av.tmps.getD 130 undef = .tuple #[.agg #[.int .u16 sz, .int .u8 0, .int .u8 0, .int .u16 0, .slice a6 mm c6], .int .i64 ee] := hKn.done 5 130 rfl (Reg.listed_of ho2 hafter (by kernel_rfl))
                    exact Reg.wp_val (v := .tuple #[.agg #[.int .u16 sz, .int .u8 0, .int .u8 0, .int .u16 0, .slice a6 mm c6], .int .i64 ee]) (w' := w') (by simp [go_sem, execOp, Act.eval, e130]) (hKK _ _ ⟨a6, c6, rfl⟩ hI fun j d _ _ _ h => cutT_nob hi (by decide) (Chg.refl Nob w') h)
                  · have ho2 := ho
                    obtain rfl := (Option.some.inj ho).symm
                    rw [if_pos (Reg.wanted_none rfl)]
                    obtain ⟨a6, c6, e124⟩ : ∃ a6 c6, av.tmps.getD 124 undef = .tuple #[.agg #[.int .u16 sz, .int .u8 0, .int .u8 0, .int .u16 0, .slice a6 mm c6], .int .i64 ee] := hKn.done 6 124 rfl (Reg.listed_of ho2 hafter (by kernel_rfl))
                    exact Reg.wp_val (v := .agg #[.int .u16 sz, .int .u8 0, .int .u8 0, .int .u16 0, .slice a6 mm c6]) (w' := w') (by simp [go_sem, execOp, Act.eval, e124]) (hKK _ _ ⟨a6, c6, rfl⟩ hI fun j d _ _ _ h => cutT_nob hi (by decide) (Chg.refl Nob w') h)
                  · have ho2 := ho
                    obtain rfl := (Option.some.inj ho).symm
                    rw [if_pos (Reg.wanted_none rfl)]
                    obtain ⟨a6, c6, e124⟩ : ∃ a6 c6, av.tmps.getD 124 undef = .tuple #[.agg #[.int .u16 sz, .int .u8 0, .int .u8 0, .int .u16 0, .slice a6 mm c6], .int .i64 ee] := hKn.done 6 124 rfl (Reg.listed_of ho2 hafter (by kernel_rfl))
                    exact Reg.wp_val (v := .int .i64 ee) (w' := w') (by simp [go_sem, execOp, Act.eval, e124]) (hKK _ _ rfl hI fun j d _ _ _ h => cutT_nob hi (by decide) (Chg.refl Nob w') h)
                  · have ho2 := ho
                    obtain rfl := (Option.some.inj ho).symm
                    rw [if_pos (Reg.wanted_none rfl)]
                    have h10 := Reg.not_yet hcl (j := 10) (by kernel_rfl) hl
                    have hnew := alloc_new w' (.cells #[.int .u16 0, .int .u8 0, .int .u8 0, .int .u16 0, .slice none 0 0] 55)
                    exact Reg.wp_val (v := .pointer (some ⟨w'.heap.size, 0, none⟩)) (w' := w'.alloc (.cells #[.int .u16 0, .int .u8 0, .int .u8 0, .int .u16 0, .slice none 0 0] 55)) (by simp [go_sem, execOp]) (hKK _ _ ⟨_, rfl, hI.size, fun _ => hnew, fun h => (by have := set_ne hi (by decide) h; rw [h10] at this; cases this)⟩ (hI.alloc _) fun j d _ _ _ h => cutT_nob hi (by decide) ((Chg.refl Nob w').alloc _) h)
                  · have ho2 := ho
                    obtain rfl := (Option.some.inj ho).symm
                    rw [if_pos (Reg.wanted_none rfl)]
                    obtain ⟨g, e24, hg, hz, _⟩ : ∃ g, av.tmps.getD 24 undef = .pointer (some ⟨g, 0, none⟩) ∧ w8.heap.size ≤ g ∧ (listed.getD 10 false = false → w'.heap[g]? = some (.cells #[.int .u16 0, .int .u8 0, .int .u8 0, .int .u16 0, .slice none 0 0] 55 (0, 0))) ∧ (listed.getD 10 false = true → ∃ a c, w'.heap[g]? = some (.cells #[.int .u16 sz, .int .u8 0, .int .u8 0, .int .u16 0, .slice a mm c] 55 (0, 0))) := hKn.done 9 24 rfl (Reg.listed_of ho2 hafter (by kernel_rfl))
                    obtain ⟨a6, c6, e131⟩ : ∃ a6 c6, av.tmps.getD 131 undef = .agg #[.int .u16 sz, .int .u8 0, .int .u8 0, .int .u16 0, .slice a6 mm c6] := hKn.done 7 131 rfl (Reg.listed_of ho2 hafter (by kernel_rfl))
                    have hb := hz hl
                    have hc := fun i => cell_blk hb i
                    have hf := fun i => frozen_blk hb i
                    refine Reg.wp_unit (w' := ((((w'.setCell ⟨g, 0, none⟩ (.int .u16 sz)).setCell ⟨g, 1, none⟩ (.int .u8 0)).setCell ⟨g, 2, none⟩ (.int .u8 0)).setCell ⟨g, 3, none⟩ (.int .u16 0)).setCell ⟨g, 4, none⟩ (.slice a6 mm c6)) (by simp [go_sem, execOp, Act.eval, e24, e131, hc, hf]) (hKK _ _ trivial ?_ ?_)
                    · exact Chg.set5 hI (.inr hg) _ _ _ _ _
                    · intro j d hj hd hlj h
                      unfold CutT at *
                      split at h
                      · exact h
                      · exact h
                      · exact h
                      · obtain ⟨g', h1, h2, h3, h4⟩ := h
                        obtain rfl : 24 = d := Option.some.inj ((show _ = some 24 from rfl).symm.trans hd)
                        rw [e24] at h1
                        injection h1 with h1
                        injection h1 with h1
                        injection h1 with h1
                        subst h1
                        exact ⟨g, e24, h2, fun h => (by rw [set_self hi] at h; cases h), fun _ => ⟨a6, c6, set_blk (set_blk (set_blk (set_blk (set_blk hb 0 _) 1 _) 2 _) 3 _) 4 _⟩⟩
                      · trivial
                      · exact h
                  · have ho2 := ho
                    obtain rfl := (Option.some.inj ho).symm
                    rw [if_pos (Reg.wanted_none rfl)]
                    have e132 : av.tmps.getD 132 undef = .int .i64 ee := hKn.done 8 132 rfl (Reg.listed_of ho2 hafter (by kernel_rfl))
                    exact Reg.wp_val (v := .int .i64 ee) (w' := w') (by simp [go_sem, execOp, Act.eval, e132]) (hKK _ _ rfl hI fun j d _ _ _ h => cutT_nob hi (by decide) (Chg.refl Nob w') h)
                · intro vals listed w9 hT hall hI
                  generalize hAA : Reg.fill _ _ vals = AA
                  obtain ⟨z, hzz⟩ : ∃ z : Nat → Value, AA = ⟨#[z 0, z 1, z 2, z 3, z 4, z 5, z 6, z 7, z 8, z 9, z 10, z 11, z 12, z 13, z 14, z 15, z 16, z 17, z 18, z 19, .int .i64 (K : Int), .int .i64 (a : Int), .int .i64 (m : Int), z 23, vals 9, vals 11, z 26, z 27, z 28, z 29, z 30, z 31, z 32, z 33, z 34, z 35, z 36, z 37, z 38, z 39, z 40, z 41, z 42, z 43, z 44, z 45, z 46, z 47, z 48, z 49, z 50, z 51, z 52, z 53, z 54, z 55, z 56, z 57, z 58, z 59, z 60, z 61, z 62, z 63, z 64, z 65, z 66, z 67, z 68, z 69, z 70, z 71, z 72, z 73, z 74, z 75, z 76, z 77, z 78, z 79, z 80, z 81, z 82, z 83, z 84, z 85, z 86, z 87, z 88, z 89, z 90, z 91, z 92, z 93, z 94, z 95, z 96, z 97, z 98, z 99, z 100, z 101, z 102, z 103, z 104, z 105, z 106, z 107, z 108, z 109, z 110, z 111, z 112, z 113, z 114, z 115, z 116, z 117, z 118, z 119, z 120, z 121, z 122, z 123, vals 6, vals 0, vals 1, vals 2, vals 3, vals 4, vals 5, vals 7, vals 8, z 133, z 134, z 135, z 136, z 137, z 138, z 139, z 140, z 141, z 142, z 143, z 144, z 145, z 146, z 147, z 148, z 149, z 150, z 151, z 152], []⟩ := ⟨fun i => AA.tmps.getD i undef, by rw [← hAA]; kernel_rfl⟩
                  subst hzz
                  clear hAA
                  obtain ⟨g, e9, _, _, hg⟩ := (show CutT _ _ _ _ _ _ _ _ _ _ 9 (vals 9) w9 from hT 9 24 rfl)
                  obtain ⟨a6, c6, hb9⟩ := hg (hall 10 (by decide))
                  have e11 : vals 11 = .int .i64 ee := hT 11 25 rfl
                  rw [e9, e11]
                  have hc9 := fun i => cell_blk hb9 i
                  have hend := HEND.out
                  have hcs := HCS.out
                  rw [hend] at hcs
                  have hD9 := hD8.trans hI
                  simp only at hcs
                  clear hT hall hi1 k0 k1 g1 g2 g4 g5 cb8 hend
                  rcases hcs with ⟨rfl, rfl, rfl⟩ | ⟨hne, rfl, rfl⟩
                  · go_wp2_with fail
                    (try simp only [Exit.inBlock, Exit.then])
                    exact bodyPost_ret (v := .bool true) (by simp [results, Tryd.results11, go_sem]) rfl ⟨rfl, hD9⟩
                  · have hne2 : ((a : Int) == (K : Int)) = false := by simp; omega
                    have hne3 : ¬ ((a : Int) = (K : Int)) := by omega
                    clear hne
                    go_wp2_with fail
                    (try simp only [Exit.inBlock, Exit.then])
                    exact bodyPost_ret (v := .bool true) (by simp [results, Tryd.results11, go_sem]) rfl ⟨rfl, hD9⟩
end Go.Proofs.YtgfgmaiddmohaaaDoor.Ed
