/- hustingslaw06.Long, walked; append([]api.Option{}, ..), walked. -/
import Derived.Test.YtgfgmaiddmohaaaDoorEdL
import Derived.Test.YtgfgmaiddmohaaaDoorEdWr
import Derived.Test.YtgfgmaiddmohaaaDoorEdApp
namespace Go.Proofs.YtgfgmaiddmohaaaDoor.Ed
open Go.RowKit Go.Proofs.YtgfgmaiddmohaaaDoor.Cur Go.Proofs.YtgfgmaiddmohaaaDoor.Put

set_option maxRecDepth 100000 in
set_option maxHeartbeats 4000000 in
theorem long_any (w : World) (x : E) (v : Value) (hv : OptsAt w v x.opts) :
    Calls Tryd.prog 31 #[.agg #[.int .u16 (x.size : Int), .int .u8 (x.ext : Int), .int .u8 (x.ver : Int), .int .u16 (x.flags : Int), v]] w fun r w' => ∃ b : Bool, r = .returned (.bool b) ∧ (b = false → x.opts.length ≤ 300) ∧ Chg Nob w w' := by
  obtain ⟨a, c, rfl, hl, hok, hcl⟩ := hv
  have r1 := alloc_new w (.cells #[.int .u16 (x.size : Int), .int .u8 (x.ext : Int), .int .u8 (x.ver : Int), .int .u16 (x.flags : Int), .slice a x.opts.length c] 55)
  have hC0 := (Chg.refl Nob w).alloc (.cells #[.int .u16 (x.size : Int), .int .u8 (x.ext : Int), .int .u8 (x.ver : Int), .int .u16 (x.flags : Int), .slice a x.opts.length c] 55)
  obtain ⟨n, hn⟩ : ∃ n, n = x.opts.length := ⟨_, rfl⟩
  rw [← hn] at r1 hC0 hl ⊢
  have HL := Lib.hid hcl
  have HN := Lib.hid hn
  have HO := Lib.hid hok
  have n0 : (0 : Int) ≤ (n : Int) := by omega
  clear hcl hn hok
  go_enter Tryd.func31, Tryd.ntmps31
  go_wp2_with fail
  generalize World.alloc w _ = W1 at *
  go_loopw [3, 4] (fun s v wx => ∃ (m : Nat) (i : Nat), i ≤ n ∧ s = .int .i64 (m : Int) ∧ v = .int .i64 (i : Int) ∧ m ≤ 500000 ∧ Chg Nob W1 wx) (fun _ v _ => n - (intOf v).toNat)
  case atStart => exact ⟨0, 0, by omega, rfl, rfl, by omega, Chg.refl _ _⟩
  case round =>
    obtain ⟨m, i, hi, rfl, rfl, hm, hC⟩ := hrel
    have i0 : (0 : Int) ≤ (i : Int) := by omega
    have m0 : (0 : Int) ≤ (m : Int) := by omega
    have hm1 : (m : Int) ≤ 500000 := by omega
    have hb1 := hC.heap r1 (fun h => h)
    have c1 := fun i => cell_blk hb1 i
    by_cases hin : i < n
    · have hin1 : (i : Int) < (n : Int) := by omega
      by_cases hms : m < 200000
      · have hms1 : (m : Int) < 200000 := by omega
        have hlt : i < x.opts.length := by have := HN.out; omega
        obtain ⟨b1, o1, rfl, hb1', hcl⟩ := HL.out.resolve_left (by intro e; rw [e] at hlt; simp at hlt)
        have hget := List.getElem?_eq_getElem hlt
        obtain ⟨e1, e2⟩ := hcl i _ hget
        have hoo := HO.out _ (List.getElem_mem hlt)
        generalize x.opts[i] = o at *
        have hD := hC0.trans hC
        have e1 := hD.cell e1 (fun h => h)
        have e2 := hD.cell e2 (fun h => h)
        have k2 : (0 : Int) ≤ (o.data.size : Int) := by omega
        have k3 := hoo.2
        clear hcl hget hoo
        by_cases hbig : 200000 < o.data.size
        · have hb2 : (200000 : Int) < (o.data.size : Int) := by omega
          go_wp2_with fail
          exact ⟨⟨m + 10 + 200000, i + 1, by omega, by simp; omega, rfl, by omega, hC⟩, by simp [intOf]; omega⟩
        · have hb2 : (o.data.size : Int) ≤ 200000 := by omega
          go_wp2_with fail
          exact ⟨⟨m + 10 + o.data.size, i + 1, by omega, by simp; omega, rfl, by omega, hC⟩, by simp [intOf]; omega⟩
      · have hms1 : (200000 : Int) ≤ (m : Int) := by omega
        have hms2 : ¬ ((m : Int) < 200000) := by omega
        clear hms hm
        go_wp2_with fail
        (try simp only [Exit.inBlock, Exit.then])
        exact bodyPost_ret (v := .bool true) (by simp [results, Tryd.results31, go_sem]) rfl (.inr ⟨rfl, hC0.trans hC⟩)
    · have hin1 : (n : Int) ≤ (i : Int) := by omega
      by_cases hms : m < 200000
      · have hms1 : (m : Int) < 200000 := by omega
        clear hms hm
        by_cases hbig : 300 < n
        · have hb2 : (300 : Int) < (n : Int) := by omega
          go_wp2_with fail
          (try simp only [Exit.inBlock, Exit.then])
          exact bodyPost_ret (v := .bool true) (by simp [results, Tryd.results31, go_sem]) rfl ⟨true, rfl, (fun h => by cases h), hC0.trans hC⟩
        · have hb2 : (n : Int) ≤ 300 := by omega
          go_wp2_with fail
          (try simp only [Exit.inBlock, Exit.then])
          exact bodyPost_ret (v := .bool false) (by simp [results, Tryd.results31, go_sem]; omega) rfl ⟨false, rfl, (fun _ => by have := HN.out; omega), hC0.trans hC⟩
      · have hms1 : (200000 : Int) ≤ (m : Int) := by omega
        have hms2 : ¬ ((m : Int) < 200000) := by omega
        clear hms hm
        go_wp2_with fail
        (try simp only [Exit.inBlock, Exit.then])
        exact bodyPost_ret (v := .bool true) (by simp [results, Tryd.results31, go_sem]) rfl (.inr ⟨rfl, hC0.trans hC⟩)
end Go.Proofs.YtgfgmaiddmohaaaDoor.Ed
