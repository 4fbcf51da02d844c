/- hustingsref06.Write, walked. -/
import Derived.Test.YtgfgmaiddmohaaaDoorEdS
import Derived.Test.YtgfgmaiddmohaaaDoorEdPut
import Derived.Deep.RegionHeld3
namespace Go.Proofs.YtgfgmaiddmohaaaDoor.Ed
open Go.RowKit Go.Proofs.YtgfgmaiddmohaaaDoor.Cur Go.Proofs.YtgfgmaiddmohaaaDoor.Put

/-- An option's bytes. -/
def Opt.bytes (o : Opt) : List UInt8 := two o.code ++ two o.data.size ++ o.data.data.toList
/-- What options are written as, behind bytes; none: too long. -/
def wro : List Opt → List UInt8 → Option (List UInt8)
  | [], b => some b
  | o :: l, b => if 65535 < o.data.size then none else if 65535 < (b ++ o.bytes).length then none else wro l (b ++ o.bytes)
theorem Opt.bytes_len (o : Opt) : o.bytes.length = 4 + o.data.size := by
  unfold Opt.bytes
  simp [two]
  omega
theorem wro_step {l : List Opt} {i : Nat} {b : List UInt8} {o : Opt} (h : l[i]? = some o) : wro (l.drop i) b = if 65535 < o.data.size then none else if 65535 < (b ++ o.bytes).length then none else wro (l.drop (i + 1)) (b ++ o.bytes) := by
  have hlt := (List.getElem?_eq_some_iff.1 h).1
  have e : l[i] = o := (List.getElem?_eq_some_iff.1 h).2
  rw [List.drop_eq_getElem_cons hlt, e, wro]

def E.ttl (x : E) : Nat := 16777216 * x.ext + 65536 * x.ver + x.flags
def E.Ok (x : E) : Prop := x.size < 65536 ∧ x.ext < 256 ∧ x.ver < 256 ∧ x.flags < 65536

set_option maxRecDepth 100000 in
set_option maxHeartbeats 4000000 in
theorem rwrite_any (w : World) (x : E) (v : Value) (hx : x.Ok) (hv : OptsAt w v x.opts) :
    Calls Tryd.prog 32 #[.agg #[.int .u16 (x.size : Int), .int .u8 (x.ext : Int), .int .u8 (x.ver : Int), .int .u16 (x.flags : Int), v]] w fun r w' =>
      ((∃ b, wro x.opts [] = some b ∧ r = .returned (.tuple #[.int .u16 (x.size : Int), .int .u32 (x.ttl : Int), .string ⟨b.toArray⟩, .int .i64 0])) ∨ (wro x.opts [] = none ∧ r = .returned (.tuple #[.int .u16 0, .int .u32 0, .string ⟨#[]⟩, .int .i64 5]))) ∧ Chg Nob w w' := by
  obtain ⟨a, c, rfl, hl, hok, hcl⟩ := hv
  have r1 := alloc_new w (.cells #[.int .u16 (x.size : Int), .int .u8 (x.ext : Int), .int .u8 (x.ver : Int), .int .u16 (x.flags : Int), .slice a x.opts.length c] 55)
  have hC0 := (Chg.refl Nob w).alloc (.cells #[.int .u16 (x.size : Int), .int .u8 (x.ext : Int), .int .u8 (x.ver : Int), .int .u16 (x.flags : Int), .slice a x.opts.length c] 55)
  obtain ⟨n, hn⟩ : ∃ n, n = x.opts.length := ⟨_, rfl⟩
  rw [← hn] at r1 hC0 hl ⊢
  have HL := Lib.hid hcl
  have HN := Lib.hid hn
  have HO := Lib.hid hok
  have HX := Lib.hid hx
  have n0 : (0 : Int) ≤ (n : Int) := by omega
  clear hcl hn hok hx
  go_enter Tryd.func32, Tryd.ntmps32
  go_wp2_with fail
  generalize World.alloc w _ = W1 at *
  go_loopw [6, 7] (fun s v wx => ∃ (i : Nat) (acc : List UInt8), i ≤ n ∧ v = .int .i64 (i : Int) ∧ s = .string ⟨acc.toArray⟩ ∧ acc.length ≤ 65535 ∧ wro x.opts [] = wro (x.opts.drop i) acc ∧ Chg Nob W1 wx) (fun _ v _ => n - (intOf v).toNat)
  case atStart => exact ⟨0, [], by omega, rfl, rfl, by simp, rfl, Chg.refl _ _⟩
  case round =>
    obtain ⟨i, acc, hi, rfl, rfl, hal, hw, hC⟩ := hrel
    have i0 : (0 : Int) ≤ (i : Int) := by omega
    have hb1 := hC.heap r1 (fun h => h)
    have c1 := fun i => cell_blk hb1 i
    by_cases hin : i < n
    · have hin1 : (i : Int) < (n : Int) := by omega
      have hlt : i < x.opts.length := by have := HN.out; omega
      obtain ⟨b1, o1, rfl, hb1', hcl⟩ := HL.out.resolve_left (by intro e; rw [e] at hlt; simp at hlt)
      have hget := List.getElem?_eq_getElem hlt
      obtain ⟨e1, e2⟩ := hcl i _ hget
      have hst := wro_step (b := acc) hget
      have hoo := HO.out _ (List.getElem_mem hlt)
      generalize x.opts[i] = o at *
      have hD := hC0.trans hC
      have e1 := hD.cell e1 (fun h => h)
      have e2 := hD.cell e2 (fun h => h)
      rw [hst] at hw
      have HW := Lib.hid hw
      have HOO := Lib.hid hoo
      clear hst hcl hget hw hoo
      by_cases hbig : 65535 < o.data.size
      · have hb2 : (65535 : Int) < (o.data.size : Int) := by omega
        have hz := HW.out
        rw [if_pos hbig] at hz
        have HZ := Lib.hid hz
        clear hz
        go_wp2_with fail
        (try simp only [Exit.inBlock, Exit.then])
        exact bodyPost_ret (v := .tuple #[.int .u16 0, .int .u32 0, .string ⟨#[]⟩, .int .i64 5]) (by simp [results, Tryd.results32, go_sem]) rfl ⟨.inr ⟨HZ.out, rfl⟩, hD.alloc _⟩
      · have hb2 : ¬ (65535 : Int) < (o.data.size : Int) := by omega
        obtain ⟨hco, _⟩ := HOO.out
        have k0 : (0 : Int) ≤ (o.code : Int) := by omega
        have k1 : (o.code : Int) ≤ 65535 := by omega
        have k2 : (0 : Int) ≤ (o.data.size : Int) := by omega
        have HP1 := Lib.hid (fun W => rput_any W o.code 2 (by omega) (by omega))
        have HP2 := Lib.hid (fun W => rput_any W o.data.size 2 (by omega) (by omega))
        rw [low_two, show ((2 : Nat) : Int) = 2 from rfl] at HP1 HP2
        have wq1 : IntKind.u64.wrap (o.code : Int) = (o.code : Int) := by simp only [IntKind.wrap_u64]; omega
        have wq2 : IntKind.u64.wrap (o.data.size : Int) = (o.data.size : Int) := by simp only [IntKind.wrap_u64]; omega
        have hmk : ∀ m : List UInt8, ∃ s : ByteArray, s = ⟨m.toArray⟩ := fun m => ⟨_, rfl⟩
        obtain ⟨s0, hs0⟩ := hmk acc
        obtain ⟨sa, hsa⟩ := hmk (two o.code)
        obtain ⟨sb, hsb⟩ := hmk (two o.data.size)
        obtain ⟨s1, hs1⟩ := hmk (acc ++ two o.code)
        obtain ⟨s2, hs2⟩ := hmk (acc ++ two o.code ++ two o.data.size)
        obtain ⟨s3, hs3⟩ := hmk (acc ++ o.bytes)
        have q1 : s0 ++ sa = s1 := by rw [hs0, hsa, hs1]; exact rstr_app _ _
        have q2 : s1 ++ sb = s2 := by rw [hs1, hsb, hs2]; exact rstr_app _ _
        have q3 : s2 ++ o.data = s3 := by
          rw [hs2, hs3, show o.data = ⟨o.data.data.toList.toArray⟩ by simp, rstr_app]
          unfold Opt.bytes
          simp
        have z0 : s0.size = acc.length := by rw [hs0]; rfl
        have za : sa.size = 2 := by rw [hsa]; rfl
        have zb : sb.size = 2 := by rw [hsb]; rfl
        have z1 : s1.size = acc.length + 2 := by rw [hs1]; show (acc ++ two o.code).toArray.size = _; simp [two]
        have z2 : s2.size = acc.length + 4 := by rw [hs2]; show (acc ++ two o.code ++ two o.data.size).toArray.size = _; simp [two]
        have z3 : s3.size = (acc ++ o.bytes).length := by rw [hs3]; rfl
        have l1 : ¬ 9223372036854775807 < s0.size + sa.size := by omega
        have l2 : ¬ 9223372036854775807 < s1.size + sb.size := by omega
        have l3 : ¬ 9223372036854775807 < s2.size + o.data.size := by omega
        rw [← hs0]
        rw [← hsa] at HP1
        rw [← hsb] at HP2
        have HS3 := Lib.hid hs3
        have HZ3 := Lib.hid z3
        clear hmk hs0 hsa hsb hs1 hs2 hs3 z0 za zb z1 z2 z3 hco
        have r8 := alloc_new wr (.cells #[.int .u16 (o.code : Int), .string o.data] 61)
        have hC8 := hC.alloc (.cells #[.int .u16 (o.code : Int), .string o.data] 61)
        go_upto_region 8 with fail
        generalize World.alloc wr _ = W8 at *
        generalize wr.heap.size = m8 at *
        have c8 := fun j => cell_blk r8 j
        go_region_held3 (fun w' => Chg Nob W8 w' ∧ (∀ j, w'.cell? ⟨m8, j, none⟩ = (#[.int .u16 (o.code : Int), .string o.data] : Array Value)[j]?))
          (first | exact ⟨(Chg.refl Nob W8).drew, c8⟩ | (have hE := (‹Chg Nob W8 _ ∧ _›).1.trans hCC; exact ⟨hE, fun j => cell_blk (hE.heap r8 (fun h => h)) j⟩) | go_keep)
          (first
            | (go_at_call_of 45 (Value.int IntKind.u64 (o.code : Int)); refine (HP1.out _).mono ?_; rintro r w' ⟨rfl, hCC⟩)
            | (go_at_call_of 45 (Value.int IntKind.u64 (o.data.size : Int)); refine (HP2.out _).mono ?_; rintro r w' ⟨rfl, hCC⟩))
        all_goals
          have hE := (‹Chg Nob W8 _ ∧ _›).1
          have hC9 := hC8.trans hE
          clear hE c8 r8
        all_goals
          by_cases hlong : 65535 < (acc ++ o.bytes).length
          · have hb3 : (65535 : Int) < (s3.size : Int) := by have := HZ3.out; omega
            have hz := HW.out
            rw [if_neg hbig, if_pos hlong] at hz
            have HZ := Lib.hid hz
            clear hz
            go_wp2_with fail
            (try simp only [Exit.inBlock, Exit.then])
            exact bodyPost_ret (v := .tuple #[.int .u16 0, .int .u32 0, .string ⟨#[]⟩, .int .i64 5]) (by simp [results, Tryd.results32, go_sem]) rfl ⟨.inr ⟨HZ.out, rfl⟩, hC0.trans hC9⟩
          · have hb3 : ¬ (65535 : Int) < (s3.size : Int) := by have := HZ3.out; omega
            have hz := HW.out
            rw [if_neg hbig, if_neg hlong] at hz
            have HZ := Lib.hid hz
            clear hz
            go_wp2_with fail
            exact ⟨⟨i + 1, acc ++ o.bytes, by omega, rfl, by rw [HS3.out], by omega, HZ.out, hC9⟩, by simp [intOf]; omega⟩
    · obtain rfl : i = n := by omega
      have hdone : wro x.opts [] = some acc := by
        rw [hw, List.drop_of_length_le (by have := HN.out; omega)]
        rfl
      have HDN := Lib.hid hdone
      obtain ⟨x1, x2, x3, x4⟩ := HX.out
      have y0 : (0 : Int) ≤ (x.size : Int) := by omega
      have y1 : (0 : Int) ≤ (x.ext : Int) := by omega
      have y2 : (x.ext : Int) ≤ 255 := by omega
      have y3 : (0 : Int) ≤ (x.ver : Int) := by omega
      have y4 : (x.ver : Int) ≤ 255 := by omega
      have y5 : (0 : Int) ≤ (x.flags : Int) := by omega
      have y6 : (x.flags : Int) ≤ 65535 := by omega
      have HT := Lib.hid (show (x.ext : Int) * 16777216 + (x.ver : Int) * 65536 + (x.flags : Int) = (x.ttl : Int) by unfold E.ttl; omega)
      clear hw hdone x1 x2 x3 x4
      go_wp2_with fail
      go_quiet (fail)
      go_wp2_with fail
      (try simp only [Exit.inBlock, Exit.then])
      exact bodyPost_ret (v := .tuple #[.int .u16 (x.size : Int), .int .u32 ((x.ext : Int) * 16777216 + (x.ver : Int) * 65536 + (x.flags : Int)), .string ⟨acc.toArray⟩, .int .i64 0]) (by simp [results, Tryd.results32, go_sem]) rfl ⟨.inl ⟨acc, HDN.out, by rw [HT.out]⟩, (hC0.trans hC).drewN nq⟩
end Go.Proofs.YtgfgmaiddmohaaaDoor.Ed
