/- edns.Write, walked. -/
import Derived.Test.YtgfgmaiddmohaaaDoorEdParts
import Derived.Test.YtgfgmaiddmohaaaDoorEdW
import Derived.Lib.AppendStr
import Derived.Test.YtgfgmaiddmohaaaDoorRegL
namespace Go.Proofs.YtgfgmaiddmohaaaDoor.Ed
open Go.RowKit Go.Proofs.YtgfgmaiddmohaaaDoor.Cur Go.Proofs.YtgfgmaiddmohaaaDoor.Put Go.Proofs.YtgfgmaiddmohaaaDoor.Hd

/-- What is told of the slots of Write's region. -/
def WrT (B m8 : Nat) (o : Opt) (s : Value) (l1 l2 l3 : List UInt8) (listed : Array Bool) (j : Nat) (v : Value) (w : World) : Prop :=
  match j with
  | 3 => listed.getD 8 false = false → BytesAt w v l1
  | 8 => listed.getD 11 false = false → ∃ base, B ≤ base ∧ base ≤ w.heap.size ∧ w.ownsRow base 5 1 v l2.length (bytesV l2)
  | 11 => BytesAt w v l3
  | 12 => BytesAt w v l3
  | j => v = [s, .pointer (some ⟨m8, 0, none⟩), .int .u16 (o.code : Int), undef, .pointer (some ⟨m8, 1, none⟩), .string o.data, .int .i64 (o.data.size : Int), .int .u16 (o.data.size : Int), undef, .pointer (some ⟨m8, 1, none⟩), .string o.data, undef, undef].getD j undef
theorem own_nob {w w' : World} {base : Nat} {v : Value} {l : List UInt8} (h : w.ownsRow base 5 1 v l.length (bytesV l)) (hc : Chg Nob w w') : w'.ownsRow base 5 1 v l.length (bytesV l) := hc.own h (fun _ _ h => h)
theorem wrT_mono {B m8 : Nat} {o : Opt} {s : Value} {l1 l2 l3 : List UInt8} {listed listed' : Array Bool} {j : Nat} {v : Value} {w w' : World} (hC : Chg Nob w w') (hl : listed'.getD 11 false = false → listed.getD 11 false = false) (hl8 : listed'.getD 8 false = false → listed.getD 8 false = false) (h : WrT B m8 o s l1 l2 l3 listed j v w) : WrT B m8 o s l1 l2 l3 listed' j v w' := by
  unfold WrT at *
  split at h
  · exact fun h8 => BytesAt.nob (h (hl8 h8)) hC
  · intro h11
    obtain ⟨base, h1, h2, h3⟩ := h (hl h11)
    exact ⟨base, h1, Nat.le_trans h2 hC.size, own_nob h3 hC⟩
  · exact BytesAt.nob h hC
  · exact BytesAt.nob h hC
  · exact h

theorem own_ge {w : World} {base : Nat} {v : Value} {n k B : Nat} {xs : List Value} (h : w.ownsRow base 5 1 v n xs) (hk : v.ownBlock = some k) (hb : B ≤ base) : B ≤ k := by
  rcases h.2 with ⟨rfl, _⟩ | ⟨g, cap, cur, rfl, hbg, _⟩
  · cases hk
  · have : g = k := by simpa [Value.ownBlock] using hk
    omega
theorem strCells_eq (s : ByteArray) : Lib.strCells s = bytesV s.data.toList := rfl
theorem own_str {w : World} {base : Nat} {v : Value} {l m : List UInt8} {s : ByteArray} (h : w.ownsRow base 5 1 v (l.length + s.size) (bytesV l ++ Lib.strCells s)) (hm : l ++ s.data.toList = m) : w.ownsRow base 5 1 v m.length (bytesV m) := by
  subst hm
  rw [bytesV_append, List.length_append]
  exact h

set_option maxRecDepth 100000 in
set_option maxHeartbeats 4000000 in
theorem write_any (w : World) (x : E) (v : Value) (hx : x.Ok) (hv : OptsAt w v x.opts) :
    Calls Tryd.prog 30 #[.agg #[.int .u16 (x.size : Int), .int .u8 (x.ext : Int), .int .u8 (x.ver : Int), .int .u16 (x.flags : Int), v]] w fun r w' =>
      ((∃ b, wro x.opts [] = some b ∧ r = .returned (.tuple #[.int .u16 (x.size : Int), .int .u32 (x.ttl : Int), .string ⟨b.toArray⟩, .int .i64 0])) ∨ (wro x.opts [] = none ∧ r = .returned (.tuple #[.int .u16 0, .int .u32 0, .string ⟨#[]⟩, .int .i64 5]))) ∧ Chg Nob w w' := by
  obtain ⟨a, c, rfl, hl, hok, hcl⟩ := hv
  have r1 := alloc_new w (.cells #[.int .u16 (x.size : Int), .int .u8 (x.ext : Int), .int .u8 (x.ver : Int), .int .u16 (x.flags : Int), .slice a x.opts.length c] 55)
  have hC0 := (Chg.refl Nob w).alloc (.cells #[.int .u16 (x.size : Int), .int .u8 (x.ext : Int), .int .u8 (x.ver : Int), .int .u16 (x.flags : Int), .slice a x.opts.length c] 55)
  obtain ⟨n, hn⟩ : ∃ n, n = x.opts.length := ⟨_, rfl⟩
  rw [← hn] at r1 hC0 hl ⊢
  have HL := Lib.hid hcl
  have HN := Lib.hid hn
  have HO := Lib.hid hok
  have HX := Lib.hid hx
  have n0 : (0 : Int) ≤ (n : Int) := by omega
  clear hcl hn hok hx
  go_enter Tryd.func30, Tryd.ntmps30
  go_wp2_with fail
  generalize World.alloc w _ = W1 at *
  go_loopw [6, 12] (fun s v wx => ∃ (i : Nat) (acc : List UInt8) (a0 : Option Addr) (c0 : Nat), i ≤ n ∧ v = .int .i64 (i : Int) ∧ s = .slice a0 acc.length c0 ∧ BytesAt wx (.slice a0 acc.length c0) acc ∧ acc.length ≤ 65535 ∧ wro x.opts [] = wro (x.opts.drop i) acc ∧ Chg Nob W1 wx) (fun _ v _ => n - (intOf v).toNat)
  case atStart => exact ⟨0, [], none, 0, by omega, rfl, rfl, BytesAt.nil _, by simp, rfl, Chg.refl _ _⟩
  case round =>
    obtain ⟨i, acc, a0, c0, hi, rfl, rfl, hB, hal, hw, hC⟩ := hrel
    have i0 : (0 : Int) ≤ (i : Int) := by omega
    have hb1 := hC.heap r1 (fun h => h)
    have c1 := fun i => cell_blk hb1 i
    by_cases hin : i < n
    · have hin1 : (i : Int) < (n : Int) := by omega
      have hlt : i < x.opts.length := by have := HN.out; omega
      obtain ⟨b1, o1, rfl, hb1', hcl⟩ := HL.out.resolve_left (by intro e; rw [e] at hlt; simp at hlt)
      have hget := List.getElem?_eq_getElem hlt
      obtain ⟨e1, e2⟩ := hcl i _ hget
      have hst := wro_step (b := acc) hget
      have hoo := HO.out _ (List.getElem_mem hlt)
      generalize x.opts[i] = o at *
      have hD := hC0.trans hC
      have e1 := hD.cell e1 (fun h => h)
      have e2 := hD.cell e2 (fun h => h)
      rw [hst] at hw
      have HW := Lib.hid hw
      have HOO := Lib.hid hoo
      have HB := Lib.hid hB
      clear hst hcl hget hw hoo hB
      by_cases hbig : 65535 < o.data.size
      · have hb2 : (65535 : Int) < (o.data.size : Int) := by omega
        have hz := HW.out
        rw [if_pos hbig] at hz
        have HZ := Lib.hid hz
        clear hz
        go_wp2_with fail
        (try simp only [Exit.inBlock, Exit.then])
        exact bodyPost_ret (v := .tuple #[.int .u16 0, .int .u32 0, .string ⟨#[]⟩, .int .i64 5]) (by simp [results, Tryd.results30, go_sem]) rfl ⟨.inr ⟨HZ.out, rfl⟩, hD.alloc _⟩
      · have hb2 : ¬ (65535 : Int) < (o.data.size : Int) := by omega
        obtain ⟨hco, _⟩ := HOO.out
        have k2 : (0 : Int) ≤ (o.data.size : Int) := by omega
        have HZ := Lib.hid (show (acc ++ two o.code ++ two o.data.size).length + o.data.size ≤ 1000000 by simp only [List.length_append, two, List.length_cons, List.length_nil]; omega)
        have hz3 : (acc ++ two o.code ++ two o.data.size) ++ o.data.data.toList = acc ++ o.bytes := by simp only [Opt.bytes, List.append_assoc]
        have HP1 := Lib.hid (fun W h => put2_any (.slice a0 acc.length c0) acc o.code W hco h (by omega))
        have HP2 := Lib.hid (fun W v h => put2_any v (acc ++ two o.code) o.data.size W (by omega) h (by simp only [List.length_append, two, List.length_cons, List.length_nil]; omega))
        have wq2 : IntKind.u16.wrap (o.data.size : Int) = (o.data.size : Int) := by rw [IntKind.wrap_u16]; omega
        have r8 := alloc_new wr (.cells #[.int .u16 (o.code : Int), .string o.data] 61)
        have hC8 := hC.alloc (.cells #[.int .u16 (o.code : Int), .string o.data] 61)
        have hB8 : BytesAt _ (.slice a0 acc.length c0) acc := HB.out.nob ((Chg.refl Nob wr).alloc (.cells #[.int .u16 (o.code : Int), .string o.data] 61))
        have HB := Lib.hid hB8
        clear hB8 hco hal
        go_upto_region 7 with fail
        generalize World.alloc wr _ = W8 at *
        generalize wr.heap.size = m8 at *
        refine Reg.region_closedL (T := WrT W8.heap.size m8 o (.slice a0 acc.length c0) (acc ++ two o.code) (acc ++ two o.code ++ two o.data.size) (acc ++ o.bytes)) (I := fun _ w' => Chg Nob W8 w') (by kernel_rfl) (by kernel_rfl) (Chg.refl Nob W8).drew ?_ ?_
        · intro i o' ho listed av w' hi hcl hafter hI hK hl K hKK
          have hi2 : i < 13 := (Array.getElem?_eq_some_iff.1 ho).1
          have hcase : i = 0 ∨ i = 1 ∨ i = 2 ∨ i = 3 ∨ i = 4 ∨ i = 5 ∨ i = 6 ∨ i = 7 ∨ i = 8 ∨ i = 9 ∨ i = 10 ∨ i = 11 ∨ i = 12 := by omega
          clear hi2
          rcases hcase with rfl | rfl | rfl | rfl | rfl | rfl | rfl | rfl | rfl | rfl | rfl | rfl | rfl
          · have ho2 := ho
            obtain rfl := (Option.some.inj ho).symm
            rw [if_pos (Reg.wanted_none rfl)]
            have h11 : (listed.setIfInBounds 0 true).getD 11 false = false → listed.getD 11 false = false := by rw [Reg.set_at hi, if_neg (by decide)]; exact id
            have h8 : (listed.setIfInBounds 0 true).getD 8 false = false → listed.getD 8 false = false := by rw [Reg.set_at hi, if_neg (by decide)]; exact id
            have e6 : av.tmps.getD 6 undef = .slice a0 acc.length c0 := (Reg.base_early hK 6 12 (by kernel_rfl) (Reg.not_yet hcl (j := 12) (by kernel_rfl) hl)).trans rfl
            exact Reg.wp_val (v := .slice a0 acc.length c0) (w' := w') (by simp [go_sem, execOp, Act.eval, e6]) (hKK _ _ rfl hI fun j u _ _ h => wrT_mono (Chg.refl Nob w') h11 h8 h)
          · have ho2 := ho
            obtain rfl := (Option.some.inj ho).symm
            rw [if_pos (Reg.wanted_none rfl)]
            have h11 : (listed.setIfInBounds 1 true).getD 11 false = false → listed.getD 11 false = false := by rw [Reg.set_at hi, if_neg (by decide)]; exact id
            have h8 : (listed.setIfInBounds 1 true).getD 8 false = false → listed.getD 8 false = false := by rw [Reg.set_at hi, if_neg (by decide)]; exact id
            have e8 : av.tmps.getD 8 undef = .pointer (some ⟨m8, 0, none⟩) := (Reg.base_at hK 8 (by kernel_rfl)).trans rfl
            exact Reg.wp_val (v := .pointer (some ⟨m8, 0, none⟩)) (w' := w') (by simp [go_sem, execOp, Act.eval, e8]) (hKK _ _ rfl hI fun j u _ _ h => wrT_mono (Chg.refl Nob w') h11 h8 h)
          · have ho2 := ho
            obtain rfl := (Option.some.inj ho).symm
            rw [if_pos (Reg.wanted_none rfl)]
            have h11 : (listed.setIfInBounds 2 true).getD 11 false = false → listed.getD 11 false = false := by rw [Reg.set_at hi, if_neg (by decide)]; exact id
            have h8 : (listed.setIfInBounds 2 true).getD 8 false = false → listed.getD 8 false = false := by rw [Reg.set_at hi, if_neg (by decide)]; exact id
            have e21 : av.tmps.getD 21 undef = .pointer (some ⟨m8, 0, none⟩) := hK.done 1 21 rfl (Reg.listed_of ho2 hafter (by kernel_rfl))
            have hc : w'.cell? ⟨m8, 0, none⟩ = some (.int .u16 (o.code : Int)) := cell_blk (hI.heap r8 (fun h => h)) 0
            exact Reg.wp_val (v := .int .u16 (o.code : Int)) (w' := w') (by simp [go_sem, execOp, Act.eval, e21, hc]) (hKK _ _ rfl hI fun j u _ _ h => wrT_mono (Chg.refl Nob w') h11 h8 h)
          · have ho2 := ho
            obtain rfl := (Option.some.inj ho).symm
            rw [if_pos (Reg.wanted_none rfl)]
            have h11 : (listed.setIfInBounds 3 true).getD 11 false = false → listed.getD 11 false = false := by rw [Reg.set_at hi, if_neg (by decide)]; exact id
            have h8 : (listed.setIfInBounds 3 true).getD 8 false = false → listed.getD 8 false = false := by rw [Reg.set_at hi, if_neg (by decide)]; exact id
            have e20 : av.tmps.getD 20 undef = .slice a0 acc.length c0 := hK.done 0 20 rfl (Reg.listed_of ho2 hafter (by kernel_rfl))
            have e22 : av.tmps.getD 22 undef = .int .u16 (o.code : Int) := hK.done 2 22 rfl (Reg.listed_of ho2 hafter (by kernel_rfl))
            rw [Array.getD_eq_getD_getElem?] at e20 e22
            refine Reg.wp_call (R := fun v w2 => BytesAt w2 v (acc ++ two o.code) ∧ Chg Nob w' w2) (w' := w') (by simp [go_sem, execOp, Act.eval, e20, e22]) ((HP1.out w' (HB.out.nob hI)).mono ?_) ?_
            · rintro e w2 ⟨v, rfl, hown, hC⟩
              exact ⟨v, rfl, BytesAt.of_own hown, hC⟩
            rintro v w2 ⟨hv, hC⟩
            exact hKK _ _ (fun _ => hv) (hI.trans hC) fun j u _ _ h => wrT_mono hC h11 h8 h
          · have ho2 := ho
            obtain rfl := (Option.some.inj ho).symm
            rw [if_pos (Reg.wanted_none rfl)]
            have h11 : (listed.setIfInBounds 4 true).getD 11 false = false → listed.getD 11 false = false := by rw [Reg.set_at hi, if_neg (by decide)]; exact id
            have h8 : (listed.setIfInBounds 4 true).getD 8 false = false → listed.getD 8 false = false := by rw [Reg.set_at hi, if_neg (by decide)]; exact id
            have e8 : av.tmps.getD 8 undef = .pointer (some ⟨m8, 0, none⟩) := (Reg.base_at hK 8 (by kernel_rfl)).trans rfl
            exact Reg.wp_val (v := .pointer (some ⟨m8, 1, none⟩)) (w' := w') (by simp [go_sem, execOp, Act.eval, e8]) (hKK _ _ rfl hI fun j u _ _ h => wrT_mono (Chg.refl Nob w') h11 h8 h)
          · have ho2 := ho
            obtain rfl := (Option.some.inj ho).symm
            rw [if_pos (Reg.wanted_none rfl)]
            have h11 : (listed.setIfInBounds 5 true).getD 11 false = false → listed.getD 11 false = false := by rw [Reg.set_at hi, if_neg (by decide)]; exact id
            have h8 : (listed.setIfInBounds 5 true).getD 8 false = false → listed.getD 8 false = false := by rw [Reg.set_at hi, if_neg (by decide)]; exact id
            have e24 : av.tmps.getD 24 undef = .pointer (some ⟨m8, 1, none⟩) := hK.done 4 24 rfl (Reg.listed_of ho2 hafter (by kernel_rfl))
            have hc : w'.cell? ⟨m8, 1, none⟩ = some (.string o.data) := cell_blk (hI.heap r8 (fun h => h)) 1
            exact Reg.wp_val (v := .string o.data) (w' := w') (by simp [go_sem, execOp, Act.eval, e24, hc]) (hKK _ _ rfl hI fun j u _ _ h => wrT_mono (Chg.refl Nob w') h11 h8 h)
          · have ho2 := ho
            obtain rfl := (Option.some.inj ho).symm
            rw [if_pos (Reg.wanted_none rfl)]
            have h11 : (listed.setIfInBounds 6 true).getD 11 false = false → listed.getD 11 false = false := by rw [Reg.set_at hi, if_neg (by decide)]; exact id
            have h8 : (listed.setIfInBounds 6 true).getD 8 false = false → listed.getD 8 false = false := by rw [Reg.set_at hi, if_neg (by decide)]; exact id
            have e25 : av.tmps.getD 25 undef = .string o.data := hK.done 5 25 rfl (Reg.listed_of ho2 hafter (by kernel_rfl))
            exact Reg.wp_val (v := .int .i64 (o.data.size : Int)) (w' := w') (by simp [go_sem, execOp, Act.eval, e25]) (hKK _ _ rfl hI fun j u _ _ h => wrT_mono (Chg.refl Nob w') h11 h8 h)
          · have ho2 := ho
            obtain rfl := (Option.some.inj ho).symm
            rw [if_pos (Reg.wanted_none rfl)]
            have h11 : (listed.setIfInBounds 7 true).getD 11 false = false → listed.getD 11 false = false := by rw [Reg.set_at hi, if_neg (by decide)]; exact id
            have h8 : (listed.setIfInBounds 7 true).getD 8 false = false → listed.getD 8 false = false := by rw [Reg.set_at hi, if_neg (by decide)]; exact id
            have e26 : av.tmps.getD 26 undef = .int .i64 (o.data.size : Int) := hK.done 6 26 rfl (Reg.listed_of ho2 hafter (by kernel_rfl))
            exact Reg.wp_val (v := .int .u16 (o.data.size : Int)) (w' := w') (by simp [go_sem, execOp, Act.eval, e26, wq2]) (hKK _ _ rfl hI fun j u _ _ h => wrT_mono (Chg.refl Nob w') h11 h8 h)
          · have ho2 := ho
            obtain rfl := (Option.some.inj ho).symm
            rw [if_pos (Reg.wanted_none rfl)]
            have h11 : (listed.setIfInBounds 8 true).getD 11 false = false → listed.getD 11 false = false := by rw [Reg.set_at hi, if_neg (by decide)]; exact id
            have h8 : (listed.setIfInBounds 8 true).getD 8 false = false → listed.getD 8 false = false := fun _ => hl
            have e23 : BytesAt w' (av.tmps.getD 23 undef) (acc ++ two o.code) := hK.done 3 23 rfl (Reg.listed_of ho2 hafter (by kernel_rfl)) hl
            have e27 : av.tmps.getD 27 undef = .int .u16 (o.data.size : Int) := hK.done 7 27 rfl (Reg.listed_of ho2 hafter (by kernel_rfl))
            rw [Array.getD_eq_getD_getElem?] at e23 e27
            refine Reg.wp_call (R := fun v w2 => (∃ base, W8.heap.size ≤ base ∧ base ≤ w2.heap.size ∧ w2.ownsRow base 5 1 v (acc ++ two o.code ++ two o.data.size).length (bytesV (acc ++ two o.code ++ two o.data.size))) ∧ Chg Nob w' w2) (w' := w') (by simp [go_sem, execOp, Act.eval, e27]) ((HP2.out w' _ e23).mono ?_) ?_
            · rintro e w2 ⟨v, rfl, hown, hC⟩
              exact ⟨v, rfl, ⟨_, hI.size, hC.size, hown⟩, hC⟩
            rintro v w2 ⟨hv, hC⟩
            exact hKK _ _ (fun _ => hv) (hI.trans hC) fun j u _ _ h => wrT_mono hC h11 h8 h
          · have ho2 := ho
            obtain rfl := (Option.some.inj ho).symm
            rw [if_pos (Reg.wanted_none rfl)]
            have h11 : (listed.setIfInBounds 9 true).getD 11 false = false → listed.getD 11 false = false := by rw [Reg.set_at hi, if_neg (by decide)]; exact id
            have h8 : (listed.setIfInBounds 9 true).getD 8 false = false → listed.getD 8 false = false := by rw [Reg.set_at hi, if_neg (by decide)]; exact id
            have e8 : av.tmps.getD 8 undef = .pointer (some ⟨m8, 0, none⟩) := (Reg.base_at hK 8 (by kernel_rfl)).trans rfl
            exact Reg.wp_val (v := .pointer (some ⟨m8, 1, none⟩)) (w' := w') (by simp [go_sem, execOp, Act.eval, e8]) (hKK _ _ rfl hI fun j u _ _ h => wrT_mono (Chg.refl Nob w') h11 h8 h)
          · have ho2 := ho
            obtain rfl := (Option.some.inj ho).symm
            rw [if_pos (Reg.wanted_none rfl)]
            have h11 : (listed.setIfInBounds 10 true).getD 11 false = false → listed.getD 11 false = false := by rw [Reg.set_at hi, if_neg (by decide)]; exact id
            have h8 : (listed.setIfInBounds 10 true).getD 8 false = false → listed.getD 8 false = false := by rw [Reg.set_at hi, if_neg (by decide)]; exact id
            have e29 : av.tmps.getD 29 undef = .pointer (some ⟨m8, 1, none⟩) := hK.done 9 29 rfl (Reg.listed_of ho2 hafter (by kernel_rfl))
            have hc : w'.cell? ⟨m8, 1, none⟩ = some (.string o.data) := cell_blk (hI.heap r8 (fun h => h)) 1
            exact Reg.wp_val (v := .string o.data) (w' := w') (by simp [go_sem, execOp, Act.eval, e29, hc]) (hKK _ _ rfl hI fun j u _ _ h => wrT_mono (Chg.refl Nob w') h11 h8 h)
          · have ho2 := ho
            obtain rfl := (Option.some.inj ho).symm
            rw [if_pos (Reg.wanted_none rfl)]
            obtain ⟨base, hb1, hb2, hown⟩ : ∃ base, W8.heap.size ≤ base ∧ base ≤ w'.heap.size ∧ w'.ownsRow base 5 1 (av.tmps.getD 28 undef) (acc ++ two o.code ++ two o.data.size).length (bytesV (acc ++ two o.code ++ two o.data.size)) := hK.done 8 28 rfl (Reg.listed_of ho2 hafter (by kernel_rfl)) hl
            have e30 : av.tmps.getD 30 undef = .string o.data := hK.done 10 30 rfl (Reg.listed_of ho2 hafter (by kernel_rfl))
            obtain ⟨i0, hinf, hz0, hz1, hz2⟩ := info_parts infoU8
            obtain ⟨v', w2, hr, hown2, hgr, _⟩ := Lib.run_append_own_string (P := Tryd.prog) w' base 49 9 49 5 i0 Tryd.underlying49 Tryd.underlying9 hinf hz0 hz1 hz2 _ _ _ hown o.data (by have := HZ.out; unfold maxLen; omega) (by have := HZ.out; omega) hb2
            have hown3 := own_str hown2 hz3
            have hC2 : Chg Nob W8 w2 := hI.grown hgr (fun k hk => .inr (own_ge hown hk hb1))
            refine Reg.wp_val (v := v') (w' := w2) ?_ (hKK _ _ (BytesAt.of_own hown3) hC2 ?_)
            · simp only [List.getElem_toArray, List.getElem_cons_succ, List.getElem_cons_zero, execOp, resolve, invoke, builtin, Sem.run_bind, Sem.run_pure, Result.andThen_ok, List.map_toArray, List.map_cons, List.map_nil, Act.eval, e30, hr]
            · intro j u hj hlj h
              have h8 := Reg.listed_of (j := 8) ho2 hafter (by kernel_rfl)
              have h12 := Reg.not_yet hcl (j := 12) (by kernel_rfl) hl
              unfold WrT at *
              split at h
              · intro h8'
                rw [Reg.set_at hi, if_neg (by decide), h8] at h8'
                cases h8'
              · intro h11'
                rw [Reg.set_at hi, if_pos rfl] at h11'
                cases h11'
              · exact absurd rfl hj
              · rw [h12] at hlj; cases hlj
              · exact h
          · have ho2 := ho
            obtain rfl := (Option.some.inj ho).symm
            rw [if_pos (Reg.wanted_none rfl)]
            have h11 : (listed.setIfInBounds 12 true).getD 11 false = false → listed.getD 11 false = false := by rw [Reg.set_at hi, if_neg (by decide)]; exact id
            have h8 : (listed.setIfInBounds 12 true).getD 8 false = false → listed.getD 8 false = false := by rw [Reg.set_at hi, if_neg (by decide)]; exact id
            have e31 : BytesAt w' (av.tmps.getD 31 undef) (acc ++ o.bytes) := hK.done 11 31 rfl (Reg.listed_of ho2 hafter (by kernel_rfl))
            exact Reg.wp_val (v := av.tmps.getD 31 undef) (w' := w') (by simp [go_sem, execOp, Act.eval]) (hKK _ _ e31 hI fun j u _ _ h => wrT_mono (Chg.refl Nob w') h11 h8 h)
        · intro vals listed w' hT hall hI
          generalize hAA : Reg.fill _ _ vals = AA
          obtain ⟨y0, y1, y2, y3, y4, y5, y6, y7, y8, y9, y10, y11, y12, y13, y14, y15, rfl⟩ : ∃ y0 y1 y2 y3 y4 y5 y6 y7 y8 y9 y10 y11 y12 y13 y14 y15, AA = ⟨#[.agg #[.int .u16 (x.size : Int), .int .u8 (x.ext : Int), .int .u8 (x.ver : Int), .int .u16 (x.flags : Int), .slice (some ⟨b1, o1, none⟩) n c], .pointer (some ⟨w.heap.size, 0, none⟩), y0, y1, y2, y3, vals 12, undef, y4, .pointer (some ⟨w.heap.size, 4, none⟩), .slice (some ⟨b1, o1, none⟩) n c, .int .i64 (n : Int), .int .i64 (i : Int), y5, y6, y7, y8, y9, y10, y11, vals 0, vals 1, vals 2, vals 3, vals 4, vals 5, vals 6, vals 7, vals 8, vals 9, vals 10, vals 11, y12, y13, y14, y15, undef, undef, undef, undef, undef, undef, undef, undef, undef, undef, undef, undef, undef, undef, undef, undef, undef], []⟩ := ⟨_, _, _, _, _, _, _, _, _, _, _, _, _, _, _, _, hAA.symm.trans rfl⟩
          clear hAA
          have hv12 : BytesAt w' (vals 12) (acc ++ o.bytes) := hT 12 6 rfl
          obtain ⟨a3, c3, e12, hc3, hu3⟩ := hv12
          have hv12 : BytesAt w' (.slice a3 (acc ++ o.bytes).length c3) (acc ++ o.bytes) := ⟨a3, c3, rfl, hc3, hu3⟩
          rw [e12]
          have HV := Lib.hid hv12
          have hC9 := hC8.trans hI
          clear hu3 hv12 hT hall hz3 r8 hC8
          obtain ⟨n3, hn3⟩ : ∃ n3, n3 = (acc ++ o.bytes).length := ⟨_, rfl⟩
          have HN3 := Lib.hid hn3
          rw [← hn3] at hc3 ⊢
          clear hn3
          by_cases hlong : 65535 < n3
          · have hb3 : (65535 : Int) < (n3 : Int) := by omega
            have hz := HW.out
            rw [if_neg hbig, if_pos (by rw [← HN3.out]; exact hlong)] at hz
            have HZ2 := Lib.hid hz
            clear hz
            go_wp2_with fail
            (try simp only [Exit.inBlock, Exit.then])
            exact bodyPost_ret (v := .tuple #[.int .u16 0, .int .u32 0, .string ⟨#[]⟩, .int .i64 5]) (by simp [results, Tryd.results30, go_sem]) rfl ⟨.inr ⟨HZ2.out, rfl⟩, hC0.trans hC9⟩
          · have hb3 : ¬ (65535 : Int) < (n3 : Int) := by omega
            have hz := HW.out
            rw [if_neg hbig, if_neg (by rw [← HN3.out]; exact hlong)] at hz
            have HZ2 := Lib.hid hz
            clear hz
            go_wp2_with fail
            exact ⟨⟨i + 1, acc ++ o.bytes, a3, c3, by omega, rfl, by rw [HN3.out], HV.out, by rw [← HN3.out]; omega, HZ2.out, hC9⟩, by simp [intOf]; omega⟩
    · obtain rfl : i = n := by omega
      have hdone : wro x.opts [] = some acc := by
        rw [hw, List.drop_of_length_le (by have := HN.out; omega)]
        rfl
      have HDN := Lib.hid hdone
      have HX2 := HX.out
      obtain ⟨x1, x2, x3, x4⟩ := HX.out
      have hor := ttl_or x.ext x.ver x.flags x2 x3 x4
      rw [show ttlOf x.ext x.ver x.flags = x.ttl from rfl] at hor
      have y0 : (0 : Int) ≤ (x.size : Int) := by omega
      have y1 : (0 : Int) ≤ (x.ext : Int) := by omega
      have y2 : (x.ext : Int) ≤ 255 := by omega
      have y3 : (0 : Int) ≤ (x.ver : Int) := by omega
      have y4 : (x.ver : Int) ≤ 255 := by omega
      have y5 : (0 : Int) ≤ (x.flags : Int) := by omega
      have y6 : (x.flags : Int) ≤ 65535 := by omega
      have hcv := fun n => conv_bytes (hB.nob ((Chg.refl Nob wr).drewN n))
      have hcv2 := conv_bytes hB
      obtain ⟨t, ht⟩ : ∃ t, t = x.ttl := ⟨_, rfl⟩
      rw [← ht] at hor
      have HTT := Lib.hid ht
      clear hw hdone x1 x2 x3 x4 hB hal HX2 ht
      go_wp2_with fail
      go_quiet (fail)
      go_wp2_with fail
      (try simp only [Exit.inBlock, Exit.then])
      exact bodyPost_ret (v := .tuple #[.int .u16 (x.size : Int), .int .u32 (t : Int), .string ⟨acc.toArray⟩, .int .i64 0]) (by simp [results, Tryd.results30, go_sem]) rfl ⟨.inl ⟨acc, HDN.out, by rw [HTT.out]⟩, (hC0.trans hC).drewN nq⟩
end Go.Proofs.YtgfgmaiddmohaaaDoor.Ed
