/- Same of two EDNS: slices.Equal, edns.Same, hustingsref06.Same, walked. -/
import Derived.Test.YtgfgmaiddmohaaaDoorEdApp
import Derived.Laws.StructEq
import Derived.Lib.Strings
namespace Go.Proofs.YtgfgmaiddmohaaaDoor.Ed
open Go.RowKit Go.Proofs.YtgfgmaiddmohaaaDoor.Cur Go.Proofs.YtgfgmaiddmohaaaDoor.Put

theorem opt_ext {o p : Opt} (h1 : (o.code : Int) = (p.code : Int)) (h2 : o.data.toList = p.data.toList) : o = p := by
  obtain ⟨a, b⟩ := o
  obtain ⟨c, d⟩ := p
  have e1 : a = c := by
    have : (a : Int) = (c : Int) := h1
    omega
  have e2 : b = d := by
    dsimp only at h2
    rw [Go.ByteArray.toList_eq, Go.ByteArray.toList_eq] at h2
    exact ByteArray.ext (Array.toList_inj.1 h2)
  rw [e1, e2]

theorem neOpt_same (o : Opt) (w : World) : (binOp .neq 61 (.agg #[.int .u16 (o.code : Int), .string o.data]) (.agg #[.int .u16 (o.code : Int), .string o.data])).run Tryd.prog w = .ok (.bool false) w := by
  have ht : Tryd.prog.underlying 61 = some (.struct (Tryd.prog.fieldsOf 61)) := by kernel_rfl
  have hp : Tryd.prog.stoodInHeld 61 = false := by kernel_rfl
  rw [run_neq_struct, run_equalIn_agg _ _ _ _ _ ht hp]
  simp [go_sem, Tryd.underlying61]
theorem neOpt_other (o p : Opt) (w : World) (h : o ≠ p) : (binOp .neq 61 (.agg #[.int .u16 (o.code : Int), .string o.data]) (.agg #[.int .u16 (p.code : Int), .string p.data])).run Tryd.prog w = .ok (.bool true) w := by
  have ht : Tryd.prog.underlying 61 = some (.struct (Tryd.prog.fieldsOf 61)) := by kernel_rfl
  have hp : Tryd.prog.stoodInHeld 61 = false := by kernel_rfl
  rw [run_neq_struct, run_equalIn_agg _ _ _ _ _ ht hp]
  simp [go_sem, Tryd.underlying61]
  intro h1 h2
  exact h (opt_ext (by simpa using h1) h2)

set_option maxRecDepth 100000 in
set_option maxHeartbeats 4000000 in
theorem equal_any (w : World) (v u : Value) (l m : List Opt) (hv : OptsAt w v l) (hu : OptsAt w u m) :
    Calls Tryd.prog 46 #[v, u] w fun e w' => ∃ b : Bool, e = .returned (.bool b) ∧ (b = true ↔ l = m) ∧ ∃ n, w' = w.drewN n := by
  obtain ⟨a, c, rfl, hl, _, hcl⟩ := hv
  obtain ⟨b, d, rfl, hm, _, hcm⟩ := hu
  have HL := Lib.hid hcl
  have HM := Lib.hid hcm
  obtain ⟨n, hn⟩ : ∃ n, n = l.length := ⟨_, rfl⟩
  obtain ⟨k, hk⟩ : ∃ k, k = m.length := ⟨_, rfl⟩
  rw [← hn] at hl ⊢
  rw [← hk] at hm ⊢
  have HN := Lib.hid hn
  have HK := Lib.hid hk
  clear hcl hcm hn hk
  by_cases hnk : n = k
  · subst hnk
    have n0 : (0 : Int) ≤ (n : Int) := by omega
    go_enter Tryd.func46, Tryd.ntmps46
    go_wp2_with fail
    go_loopw [13] (fun v wx => ∃ i : Nat, i ≤ n ∧ v = .int .i64 (i : Int) ∧ l.take i = m.take i ∧ ∃ q, wx = w.drewN q) (fun v _ => n - (intOf v).toNat)
    case atStart => exact ⟨0, by omega, rfl, rfl, 0, rfl⟩
    case round =>
      obtain ⟨i, hi, rfl, htk, q, rfl⟩ := hrel
      have i0 : (0 : Int) ≤ (i : Int) := by omega
      by_cases hin : i < n
      · have hin1 : (i : Int) < (n : Int) := by omega
        have hlt : i < l.length := by have := HN.out; omega
        have hlt2 : i < m.length := by have := HK.out; omega
        obtain ⟨b1, o1, rfl, hb1, hc1⟩ := HL.out.resolve_left (by intro e; rw [e] at hlt; simp at hlt)
        obtain ⟨b2, o2, rfl, hb2, hc2⟩ := HM.out.resolve_left (by intro e; rw [e] at hlt2; simp at hlt2)
        obtain ⟨e1, e2⟩ := hc1 i _ (List.getElem?_eq_getElem hlt)
        obtain ⟨e3, e4⟩ := hc2 i _ (List.getElem?_eq_getElem hlt2)
        have ht1 : l.take (i + 1) = l.take i ++ [l[i]] := (List.take_append_getElem hlt).symm
        have ht2 : m.take (i + 1) = m.take i ++ [m[i]] := (List.take_append_getElem hlt2).symm
        have hdiff : l[i] ≠ m[i] → l ≠ m := fun h e => h (by subst e; rfl)
        generalize l[i] = x at *
        generalize m[i] = y at *
        have HT := Lib.hid (And.intro htk (And.intro ht1 ht2))
        have HD := Lib.hid hdiff
        clear hc1 hc2 htk ht1 ht2 hdiff
        by_cases hxy : x = y
        · subst hxy
          have hne := neOpt_same x
          go_wp2_with fail
          go_quiet (fail)
          go_wp2_with fail
          exact ⟨⟨i + 1, by omega, rfl, by rw [HT.out.2.1, HT.out.2.2, HT.out.1], _, rfl⟩, by simp [intOf]; omega⟩
        · have hne := fun W => neOpt_other x y W hxy
          go_wp2_with fail
          go_quiet (fail)
          go_wp2_with fail
          go_ret
          exact ⟨false, rfl, ⟨(fun h => by cases h), fun e => absurd e (HD.out hxy)⟩, q + nq, by rw [World.drewN_drewN]⟩
      · obtain rfl : i = n := by omega
        have hlm : l = m := by
          have e1 := List.take_of_length_le (show l.length ≤ i by have := HN.out; omega)
          have e2 := List.take_of_length_le (show m.length ≤ i by have := HK.out; omega)
          rw [← e1, ← e2, htk]
        have HLM := Lib.hid hlm
        clear htk hlm
        go_wp2_with fail
        go_ret
        exact ⟨true, rfl, ⟨fun _ => HLM.out, fun _ => rfl⟩, _, rfl⟩
  · have hne : ((n : Int) != (k : Int)) = true := by
      rw [bne_iff_ne]
      omega
    go_enter Tryd.func46, Tryd.ntmps46
    go_wp2_with fail
    go_ret
    exact ⟨false, rfl, ⟨(fun h => by cases h), fun e => absurd (HN.out.trans ((congrArg List.length e).trans HK.out.symm)) hnk⟩, 0, rfl⟩

/-- What an OPT record says. -/
structure E where
  size : Nat
  ext : Nat
  ver : Nat
  flags : Nat
  opts : List Opt
theorem E.ext_of {x y : E} (h0 : x.size = y.size) (h1 : x.ext = y.ext) (h2 : x.ver = y.ver) (h3 : x.flags = y.flags) (h4 : x.opts = y.opts) : x = y := by
  cases x
  cases y
  simp_all

set_option maxRecDepth 100000 in
set_option maxHeartbeats 4000000 in
theorem same_any (w : World) (x y : E) (v u : Value) (hv : OptsAt w v x.opts) (hu : OptsAt w u y.opts) :
    Calls Tryd.prog 34 #[.agg #[.int .u16 (x.size : Int), .int .u8 (x.ext : Int), .int .u8 (x.ver : Int), .int .u16 (x.flags : Int), v], .agg #[.int .u16 (y.size : Int), .int .u8 (y.ext : Int), .int .u8 (y.ver : Int), .int .u16 (y.flags : Int), u]] w fun e w' => ∃ b : Bool, e = .returned (.bool b) ∧ (b = true ↔ x = y) ∧ Chg Nob w w' := by
  have HV := Lib.hid (hv.nob (((Chg.refl Nob w).alloc (.cells #[.int .u16 (x.size : Int), .int .u8 (x.ext : Int), .int .u8 (x.ver : Int), .int .u16 (x.flags : Int), v] 55)).alloc (.cells #[.int .u16 (y.size : Int), .int .u8 (y.ext : Int), .int .u8 (y.ver : Int), .int .u16 (y.flags : Int), u] 55)))
  have HU := Lib.hid (hu.nob (((Chg.refl Nob w).alloc (.cells #[.int .u16 (x.size : Int), .int .u8 (x.ext : Int), .int .u8 (x.ver : Int), .int .u16 (x.flags : Int), v] 55)).alloc (.cells #[.int .u16 (y.size : Int), .int .u8 (y.ext : Int), .int .u8 (y.ver : Int), .int .u16 (y.flags : Int), u] 55)))
  have hC := ((Chg.refl Nob w).alloc (.cells #[.int .u16 (x.size : Int), .int .u8 (x.ext : Int), .int .u8 (x.ver : Int), .int .u16 (x.flags : Int), v] 55)).alloc (.cells #[.int .u16 (y.size : Int), .int .u8 (y.ext : Int), .int .u8 (y.ver : Int), .int .u16 (y.flags : Int), u] 55)
  obtain ⟨a, c, rfl, hl, _, _⟩ := hv
  obtain ⟨b, d, rfl, hm, _, _⟩ := hu
  by_cases h0 : x.size = y.size
  case neg =>
    have q0 : ((x.size : Int) == (y.size : Int)) = false := by
      rw [beq_eq_false_iff_ne]
      omega
    have hne : x ≠ y := fun e => h0 (congrArg E.size e)
    have HN := Lib.hid hne
    clear hne h0 HV HU
    go_enter Tryd.func34, Tryd.ntmps34
    go_wp2_with fail
    go_ret
    exact ⟨false, rfl, ⟨(fun h => by cases h), fun e => absurd e HN.out⟩, hC⟩
  have q0 : ((x.size : Int) == (y.size : Int)) = true := by
    rw [beq_iff_eq]
    omega
  have H0 := Lib.hid h0
  clear h0
  by_cases h1 : x.ext = y.ext
  case neg =>
    have q1 : ((x.ext : Int) == (y.ext : Int)) = false := by
      rw [beq_eq_false_iff_ne]
      omega
    have hne : x ≠ y := fun e => h1 (congrArg E.ext e)
    have HN := Lib.hid hne
    clear hne h1 HV HU
    go_enter Tryd.func34, Tryd.ntmps34
    go_wp2_with fail
    go_ret
    exact ⟨false, rfl, ⟨(fun h => by cases h), fun e => absurd e HN.out⟩, hC⟩
  have q1 : ((x.ext : Int) == (y.ext : Int)) = true := by
    rw [beq_iff_eq]
    omega
  have H1 := Lib.hid h1
  clear h1
  by_cases h2 : x.ver = y.ver
  case neg =>
    have q2 : ((x.ver : Int) == (y.ver : Int)) = false := by
      rw [beq_eq_false_iff_ne]
      omega
    have hne : x ≠ y := fun e => h2 (congrArg E.ver e)
    have HN := Lib.hid hne
    clear hne h2 HV HU
    go_enter Tryd.func34, Tryd.ntmps34
    go_wp2_with fail
    go_ret
    exact ⟨false, rfl, ⟨(fun h => by cases h), fun e => absurd e HN.out⟩, hC⟩
  have q2 : ((x.ver : Int) == (y.ver : Int)) = true := by
    rw [beq_iff_eq]
    omega
  have H2 := Lib.hid h2
  clear h2
  by_cases h3 : x.flags = y.flags
  case neg =>
    have q3 : ((x.flags : Int) == (y.flags : Int)) = false := by
      rw [beq_eq_false_iff_ne]
      omega
    have hne : x ≠ y := fun e => h3 (congrArg E.flags e)
    have HN := Lib.hid hne
    clear hne h3 HV HU
    go_enter Tryd.func34, Tryd.ntmps34
    go_wp2_with fail
    go_ret
    exact ⟨false, rfl, ⟨(fun h => by cases h), fun e => absurd e HN.out⟩, hC⟩
  have q3 : ((x.flags : Int) == (y.flags : Int)) = true := by
    rw [beq_iff_eq]
    omega
  have H3 := Lib.hid h3
  clear h3
  have hxy : x = y ↔ x.opts = y.opts := ⟨fun e => congrArg E.opts e, fun e => E.ext_of H0.out H1.out H2.out H3.out e⟩
  have HXY := Lib.hid hxy
  clear hxy
  have HEQ := Lib.hid (fun W hV hU => equal_any W (.slice a x.opts.length c) (.slice b y.opts.length d) x.opts y.opts hV hU)
  go_enter Tryd.func34, Tryd.ntmps34
  go_wp2_with fail
  refine (HEQ.out _ HV.out HU.out).mono ?_
  rintro e w2 ⟨r, rfl, hr, q, rfl⟩
  have HR := Lib.hid hr
  clear hr
  go_wp2_with fail
  go_ret
  exact ⟨r, rfl, HR.out.trans HXY.out.symm, hC.drewN q⟩

set_option maxRecDepth 100000 in
set_option maxHeartbeats 4000000 in
theorem rsame_any (w : World) (x y : E) (v u : Value) (hv : OptsAt w v x.opts) (hu : OptsAt w u y.opts) :
    Calls Tryd.prog 29 #[.agg #[.int .u16 (x.size : Int), .int .u8 (x.ext : Int), .int .u8 (x.ver : Int), .int .u16 (x.flags : Int), v], .agg #[.int .u16 (y.size : Int), .int .u8 (y.ext : Int), .int .u8 (y.ver : Int), .int .u16 (y.flags : Int), u]] w fun e w' => ∃ b : Bool, e = .returned (.bool b) ∧ (b = true ↔ x = y) ∧ Chg Nob w w' := by
  have HV := Lib.hid (hv.nob (((Chg.refl Nob w).alloc (.cells #[.int .u16 (x.size : Int), .int .u8 (x.ext : Int), .int .u8 (x.ver : Int), .int .u16 (x.flags : Int), v] 55)).alloc (.cells #[.int .u16 (y.size : Int), .int .u8 (y.ext : Int), .int .u8 (y.ver : Int), .int .u16 (y.flags : Int), u] 55)))
  have HU := Lib.hid (hu.nob (((Chg.refl Nob w).alloc (.cells #[.int .u16 (x.size : Int), .int .u8 (x.ext : Int), .int .u8 (x.ver : Int), .int .u16 (x.flags : Int), v] 55)).alloc (.cells #[.int .u16 (y.size : Int), .int .u8 (y.ext : Int), .int .u8 (y.ver : Int), .int .u16 (y.flags : Int), u] 55)))
  have hC := ((Chg.refl Nob w).alloc (.cells #[.int .u16 (x.size : Int), .int .u8 (x.ext : Int), .int .u8 (x.ver : Int), .int .u16 (x.flags : Int), v] 55)).alloc (.cells #[.int .u16 (y.size : Int), .int .u8 (y.ext : Int), .int .u8 (y.ver : Int), .int .u16 (y.flags : Int), u] 55)
  obtain ⟨a, c, rfl, hl, _, _⟩ := hv
  obtain ⟨b, d, rfl, hm, _, _⟩ := hu
  by_cases h0 : x.size = y.size
  case neg =>
    have q0 : ((x.size : Int) != (y.size : Int)) = true := by
      rw [bne_iff_ne]
      omega
    have hne : x ≠ y := fun e => h0 (congrArg E.size e)
    have HN := Lib.hid hne
    clear hne h0 HV HU
    go_enter Tryd.func29, Tryd.ntmps29
    go_wp2_with fail
    go_ret
    exact ⟨false, rfl, ⟨(fun h => by cases h), fun e => absurd e HN.out⟩, hC⟩
  have q0 : ((x.size : Int) != (y.size : Int)) = false := by
    rw [bne_eq_false_iff_eq]
    omega
  have H0 := Lib.hid h0
  clear h0
  by_cases h1 : x.ext = y.ext
  case neg =>
    have q1 : ((x.ext : Int) != (y.ext : Int)) = true := by
      rw [bne_iff_ne]
      omega
    have hne : x ≠ y := fun e => h1 (congrArg E.ext e)
    have HN := Lib.hid hne
    clear hne h1 HV HU
    go_enter Tryd.func29, Tryd.ntmps29
    go_wp2_with fail
    go_ret
    exact ⟨false, rfl, ⟨(fun h => by cases h), fun e => absurd e HN.out⟩, hC⟩
  have q1 : ((x.ext : Int) != (y.ext : Int)) = false := by
    rw [bne_eq_false_iff_eq]
    omega
  have H1 := Lib.hid h1
  clear h1
  by_cases h2 : x.ver = y.ver
  case neg =>
    have q2 : ((x.ver : Int) != (y.ver : Int)) = true := by
      rw [bne_iff_ne]
      omega
    have hne : x ≠ y := fun e => h2 (congrArg E.ver e)
    have HN := Lib.hid hne
    clear hne h2 HV HU
    go_enter Tryd.func29, Tryd.ntmps29
    go_wp2_with fail
    go_ret
    exact ⟨false, rfl, ⟨(fun h => by cases h), fun e => absurd e HN.out⟩, hC⟩
  have q2 : ((x.ver : Int) != (y.ver : Int)) = false := by
    rw [bne_eq_false_iff_eq]
    omega
  have H2 := Lib.hid h2
  clear h2
  by_cases h3 : x.flags = y.flags
  case neg =>
    have q3 : ((x.flags : Int) != (y.flags : Int)) = true := by
      rw [bne_iff_ne]
      omega
    have hne : x ≠ y := fun e => h3 (congrArg E.flags e)
    have HN := Lib.hid hne
    clear hne h3 HV HU
    go_enter Tryd.func29, Tryd.ntmps29
    go_wp2_with fail
    go_ret
    exact ⟨false, rfl, ⟨(fun h => by cases h), fun e => absurd e HN.out⟩, hC⟩
  have q3 : ((x.flags : Int) != (y.flags : Int)) = false := by
    rw [bne_eq_false_iff_eq]
    omega
  have H3 := Lib.hid h3
  clear h3
  have hxy : x = y ↔ x.opts = y.opts := ⟨fun e => congrArg E.opts e, fun e => E.ext_of H0.out H1.out H2.out H3.out e⟩
  have HXY := Lib.hid hxy
  clear hxy
  by_cases hnk : x.opts.length = y.opts.length
  case neg =>
    have hne : ((x.opts.length : Int) != (y.opts.length : Int)) = true := by
      rw [bne_iff_ne]
      omega
    have HN := Lib.hid (show ¬ x.opts = y.opts from fun e => hnk (congrArg List.length e))
    clear hnk HV HU
    go_enter Tryd.func29, Tryd.ntmps29
    go_wp2_with fail
    go_ret
    exact ⟨false, rfl, ⟨(fun h => by cases h), fun e => absurd (HXY.out.1 e) HN.out⟩, hC⟩
  obtain ⟨n, hn⟩ : ∃ n, n = x.opts.length := ⟨_, rfl⟩
  have hk : y.opts.length = n := by omega
  rw [hk] at HV HU hm hC ⊢
  rw [← hn] at HV HU hl hC ⊢
  have r2 := alloc_blk (alloc_new w (.cells #[.int .u16 (x.size : Int), .int .u8 (x.ext : Int), .int .u8 (x.ver : Int), .int .u16 (x.flags : Int), .slice a n c] 55)) (.cells #[.int .u16 (y.size : Int), .int .u8 (y.ext : Int), .int .u8 (y.ver : Int), .int .u16 (y.flags : Int), .slice b n d] 55)
  have r3 := Hd.alloc_new1 w (.cells #[.int .u16 (x.size : Int), .int .u8 (x.ext : Int), .int .u8 (x.ver : Int), .int .u16 (x.flags : Int), .slice a n c] 55) (.cells #[.int .u16 (y.size : Int), .int .u8 (y.ext : Int), .int .u8 (y.ver : Int), .int .u16 (y.flags : Int), .slice b n d] 55)
  have HN := Lib.hid hn
  have HK := Lib.hid hk
  have n0 : (0 : Int) ≤ (n : Int) := by omega
  have HR2 := Lib.hid r2
  have HR3 := Lib.hid r3
  clear hn hk hnk r2 r3
  go_enter Tryd.func29, Tryd.ntmps29
  go_wp2_with fail
  generalize World.alloc (World.alloc w _) _ = W2 at *
  have r2 := HR2.out
  have r3 := HR3.out
  have c4 : W2.cell? ⟨w.heap.size, 4, none⟩ = some (.slice a n c) := cell_blk r2 4
  have c9 : W2.cell? ⟨w.heap.size + 1, 4, none⟩ = some (.slice b n d) := cell_blk r3 4
  obtain ⟨_, _, e1, _, _, hcl⟩ := HV.out
  obtain ⟨_, _, e2, _, _, hcm⟩ := HU.out
  injection e1 with e1 _ _
  injection e2 with e2 _ _
  rw [← e1] at hcl
  rw [← e2] at hcm
  have HL := Lib.hid hcl
  have HM := Lib.hid hcm
  clear hcl hcm e1 e2 r2 r3 HV HU
  go_loopw [5] (fun v wx => ∃ i : Nat, i ≤ n ∧ v = .int .i64 (i : Int) ∧ x.opts.take i = y.opts.take i ∧ ∃ q, wx = W2.drewN q) (fun v _ => n - (intOf v).toNat)
  case atStart => exact ⟨0, by omega, rfl, rfl, 0, rfl⟩
  case round =>
    obtain ⟨i, hi, rfl, htk, q, rfl⟩ := hrel
    have i0 : (0 : Int) ≤ (i : Int) := by omega
    by_cases hin : i < n
    · have hin1 : (i : Int) < (n : Int) := by omega
      have hlt : i < x.opts.length := by have := HN.out; omega
      have hlt2 : i < y.opts.length := by have := HK.out; omega
      obtain ⟨b1, o1, rfl, hb1, hc1⟩ := HL.out.resolve_left (by intro e; rw [e] at hlt; simp at hlt)
      obtain ⟨b2, o2, rfl, hb2, hc2⟩ := HM.out.resolve_left (by intro e; rw [e] at hlt2; simp at hlt2)
      obtain ⟨e1, e2⟩ := hc1 i _ (List.getElem?_eq_getElem hlt)
      obtain ⟨e3, e4⟩ := hc2 i _ (List.getElem?_eq_getElem hlt2)
      have ht1 : x.opts.take (i + 1) = x.opts.take i ++ [x.opts[i]] := (List.take_append_getElem hlt).symm
      have ht2 : y.opts.take (i + 1) = y.opts.take i ++ [y.opts[i]] := (List.take_append_getElem hlt2).symm
      have hdiff : x.opts[i] ≠ y.opts[i] → x.opts ≠ y.opts := fun h e => h (by simp [e])
      generalize x.opts[i] = s at *
      generalize y.opts[i] = t at *
      have HT := Lib.hid (And.intro htk (And.intro ht1 ht2))
      have HD := Lib.hid hdiff
      clear hc1 hc2 htk ht1 ht2 hdiff
      by_cases hxy : s = t
      · subst hxy
        have hne := neOpt_same s
        go_wp2_with fail
        go_quiet (fail)
        go_wp2_with fail
        exact ⟨⟨i + 1, by omega, rfl, by rw [HT.out.2.1, HT.out.2.2, HT.out.1], q + nq, rfl⟩, by simp [intOf]; omega⟩
      · have hne := fun W => neOpt_other s t W hxy
        go_wp2_with fail
        go_quiet (fail)
        go_wp2_with fail
        go_ret
        exact ⟨false, rfl, ⟨(fun h => by cases h), fun e => absurd (HXY.out.1 e) (HD.out hxy)⟩, (hC.drewN _).drewN _⟩
    · obtain rfl : i = n := by omega
      have hlm : x.opts = y.opts := by
        have e1 := List.take_of_length_le (show x.opts.length ≤ i by have := HN.out; omega)
        have e2 := List.take_of_length_le (show y.opts.length ≤ i by have := HK.out; omega)
        rw [← e1, ← e2, htk]
      have HLM := Lib.hid hlm
      clear htk hlm
      go_wp2_with fail
      go_ret
      exact ⟨true, rfl, ⟨fun _ => HXY.out.2 HLM.out, fun _ => rfl⟩, hC.drewN _⟩
end Go.Proofs.YtgfgmaiddmohaaaDoor.Ed
