/- CursorBack, walked. -/
import Derived.Test.YtnbehagdionhmaaDoorCurAny
import Derived.Test.YtnbehagdionhmaaDoorCurBackP
namespace Go.Proofs.YtnbehagdionhmaaDoor.Cur
open Go.RowKit Go.Proofs.YtnbehagdionhmaaDoor.Put

set_option maxRecDepth 100000 in
set_option maxHeartbeats 8000000 in
theorem back_any (v : Value) (l : List Nat) (w : World) (hl : NumsAt w v l) (hg : As.Laid w) :
    Calls Tryd.prog 9 #[v] w fun e w' => e = .returned (.bool true) ∧ Chg Nob w w' := by
  obtain ⟨a, c, rfl, hmax, h32, hcell⟩ := hl
  have HG := Lib.hid hg
  have HM := Lib.hid h32
  have HL := Lib.hid hcell
  obtain ⟨n, hn⟩ : ∃ n, n = l.length := ⟨_, rfl⟩
  have HN := Lib.hid hn
  rw [← hn] at hmax ⊢
  clear hg h32 hcell hn
  have d0 : (0 : Int) ≤ (n : Int) := by omega
  by_cases hbig : n ≤ 2000
  · have d1 : ¬ (2000 : Int) < (n : Int) := by omega
    go_enter Tryd.func9, Tryd.ntmps9
    go_wp2_with fail
    refine (awake_any w HG.out).mono ?_
    rintro e w0 ⟨rfl, hC0⟩
    go_wp2_with fail
    go_loopw [3, 4] (fun v i wx => ∃ j : Nat, j ≤ n ∧ i = .int .i64 (j : Int) ∧ BytesAt wx v (encUpto l j) ∧ Chg Nob w wx) (fun _ i _ => n - (intOf i).toNat)
    case atStart => exact ⟨0, by omega, rfl, BytesAt.nil _, hC0⟩
    case round =>
      obtain ⟨j, hj, rfl, hB, hC⟩ := hrel
      have j0 : (0 : Int) ≤ (j : Int) := by omega
      by_cases hjn : j < n
      · have hjn1 : (j : Int) < (n : Int) := by omega
        have hlt : j < l.length := by have := HN.out; omega
        obtain ⟨b, off, rfl, hb, hcell⟩ := HL.out.resolve_left (by intro e; rw [e] at hlt; simp at hlt)
        have hget : l.getD j 0 = l[j] := by rw [List.getD, List.getElem?_eq_getElem hlt]; rfl
        have hx32 := HM.out _ (List.getElem_mem hlt)
        have hcj := hC.cell (hcell j _ (List.getElem?_eq_getElem hlt)) (fun h => h)
        have henc : encUpto l (j + 1) = encUpto l j ++ piece j l[j] := by rw [encUpto, hget]
        have hle := enc_le l j
        generalize l[j] = x at *
        have HE := Lib.hid henc
        have HB := Lib.hid hB
        have x0 : (0 : Int) ≤ (x : Int) := by omega
        have x1 : (x : Int) < 4294967296 := by omega
        have hl5 : (encUpto l j).length + 4 ≤ 140737488355328 := by omega
        have HL5 := Lib.hid hl5
        clear hcell henc hget hB hle hl5
        have h3 : (j : Int) % 3 = 0 ∨ (j : Int) % 3 = 1 ∨ (j : Int) % 3 = 2 := by omega
        rcases h3 with h3 | h3 | h3
        · have hpc : piece j x = one (x % 256) := by unfold piece; rw [if_pos (by omega)]
          rw [hpc] at HE
          clear hpc
          go_wp2_with fail
          rw [show ((x : Int) % 256) = ((x % 256 : Nat) : Int) by omega]
          refine (put1_any _ (encUpto l j) (x % 256) wr (by omega) HB.out (by have := HL5.out; omega)).mono ?_
          rintro e w1 ⟨v, rfl, hown, hC1⟩
          have hB1 := BytesAt.of_own hown
          have hD := hC.trans hC1
          rw [← HE.out] at hB1
          clear hown hC1
          go_wp2_with fail
          exact ⟨⟨j + 1, by omega, rfl, hB1, hD⟩, by simp [intOf]; omega⟩
        · have hpc : piece j x = two (x % 65536) := by unfold piece; rw [if_neg (by omega), if_pos (by omega)]
          rw [hpc] at HE
          clear hpc
          go_wp2_with fail
          rw [show IntKind.u16.wrap (x : Int) = ((x % 65536 : Nat) : Int) by rw [IntKind.wrap_u16]; omega]
          refine (put2_any _ (encUpto l j) (x % 65536) wr (by omega) HB.out (by have := HL5.out; omega)).mono ?_
          rintro e w1 ⟨v, rfl, hown, hC1⟩
          have hB1 := BytesAt.of_own hown
          have hD := hC.trans hC1
          rw [← HE.out] at hB1
          clear hown hC1
          go_wp2_with fail
          exact ⟨⟨j + 1, by omega, rfl, hB1, hD⟩, by simp [intOf]; omega⟩
        · have hpc : piece j x = four x := by unfold piece; rw [if_neg (by omega), if_neg (by omega)]
          rw [hpc] at HE
          clear hpc
          go_wp2_with fail
          refine (put4_any _ (encUpto l j) x wr (by omega) HB.out (by have := HL5.out; omega)).mono ?_
          rintro e w1 ⟨v, rfl, hown, hC1⟩
          have hB1 := BytesAt.of_own hown
          have hD := hC.trans hC1
          rw [← HE.out] at hB1
          clear hown hC1
          go_wp2_with fail
          exact ⟨⟨j + 1, by omega, rfl, hB1, hD⟩, by simp [intOf]; omega⟩
      · obtain rfl : j = n := by omega
        have hcv := conv_bytes hB
        have hle := enc_le l j
        have hsz : (⟨(encUpto l j).toArray⟩ : ByteArray).size = (encUpto l j).length := rfl
        have hmore := enc_more l
        obtain ⟨a3, c3, rfl, _, _⟩ := hB
        obtain ⟨s, hs⟩ : ∃ s : ByteArray, s = ⟨(encUpto l j).toArray⟩ := ⟨_, rfl⟩
        rw [← hs] at hcv hsz
        have HS := Lib.hid hs
        have HSZ := Lib.hid hsz
        have hsm : s.size ≤ 8000 := by omega
        have hsm2 : (s.size : Int) ≤ 8000 := by omega
        have hsm3 : ((encUpto l j).length : Int) = (s.size : Int) := by omega
        have HMO := Lib.hid hmore
        rw [← hsz] at hcv ⊢
        clear hs hsz hle hsm3 hmore
        go_wp2_with fail
        refine (new_any s wr (by omega)).mono ?_
        rintro e w1 ⟨g, rfl, hg, hA1, hC1⟩
        have hgw : w.heap.size ≤ g := by have := hC.size; omega
        have hD1 := hC.trans hC1
        clear hC1 hcv hg
        go_wp2_with fail
        go_loopw [6] (fun v wx => ∃ i : Nat, i ≤ j ∧ v = .int .i64 (i : Int) ∧ At wx g s (encUpto l i).length ∧ Chg Nob w wx) (fun v _ => j - (intOf v).toNat)
        case atStart => exact ⟨0, by omega, rfl, hA1, hD1⟩
        case round =>
          obtain ⟨i, hi, rfl, hA, hC⟩ := hrel
          have i0 : (0 : Int) ≤ (i : Int) := by omega
          by_cases hij : i < j
          · have hij1 : (i : Int) < (j : Int) := by omega
            have hlt : i < l.length := by have := HN.out; omega
            obtain ⟨b, off, rfl, hb, hcell⟩ := HL.out.resolve_left (by intro e; rw [e] at hlt; simp at hlt)
            have hget : l.getD i 0 = l[i] := by rw [List.getD, List.getElem?_eq_getElem hlt]; rfl
            have hx32 := HM.out _ (List.getElem_mem hlt)
            have hcj := hC.cell (hcell i _ (List.getElem?_eq_getElem hlt)) (fun h => h)
            have hcw := Lib.hid (hcell i _ (List.getElem?_eq_getElem hlt))
            have henc : encUpto l (i + 1) = encUpto l i ++ piece i l[i] := by rw [encUpto, hget]
            obtain ⟨r, hr⟩ := HMO.out i j hij
            rw [hget] at hr
            generalize l[i] = x at *
            have hs2 : s = ⟨(encUpto l i ++ (piece i x ++ r)).toArray⟩ := by rw [HS.out, hr]
            have x0 : (0 : Int) ≤ (x : Int) := by omega
            have x1 : (x : Int) < 4294967296 := by omega
            clear hcell hget hr
            have h3 : (i : Int) % 3 = 0 ∨ (i : Int) % 3 = 1 ∨ (i : Int) % 3 = 2 := by omega
            rcases h3 with h3 | h3 | h3
            · have hpc : piece i x = one (x % 256) := by unfold piece; rw [if_pos (by omega)]
              rw [hpc] at henc hs2
              have hbe := mid_one (encUpto l i) r (x % 256) (by omega)
              rw [← hs2] at hbe
              have hk : (encUpto l i).length + 1 ≤ s.size := by
                have e1 : s.size = (encUpto l i ++ (one (x % 256) ++ r)).length := by rw [hs2]; rfl
                have e2 : (one (x % 256)).length = 1 := rfl
                simp only [List.length_append] at e1
                omega
              have hk2 : (encUpto l i).length + 1 = (encUpto l (i + 1)).length := by rw [henc, List.length_append]; rfl
              have hR := byte_ok wr g s _ hA hk
              rw [hbe, hk2] at hR
              rw [show ((x % 256 : Nat) : Int) = (x : Int) % 256 by omega] at hR
              obtain ⟨q1, hq1⟩ : ∃ q, q = (encUpto l (i + 1)).length := ⟨_, rfl⟩
              rw [← hq1] at hR
              have HQ := Lib.hid hq1
              clear hq1
              have HR := Lib.hid hR
              clear hpc henc hs2 hbe hk hk2 hR hA
              go_wp2_with fail
              refine HR.out.mono ?_
              rintro e w2 ⟨rfl, hA2, hC2⟩
              have hD2 := hC.trans' hC2 (fun m hm => .inr (by have e2 : m = g := hm; omega))
              have hcj := hD2.cell hcw.out (fun h => h)
              clear hC2
              go_wp2_with fail
              exact ⟨⟨i + 1, by omega, rfl, HQ.out ▸ hA2, hD2⟩, by simp [intOf]; omega⟩
            · have hpc : piece i x = two (x % 65536) := by unfold piece; rw [if_neg (by omega), if_pos (by omega)]
              rw [hpc] at henc hs2
              have hbe := mid_two (encUpto l i) r (x % 65536) (by omega)
              rw [← hs2] at hbe
              have hk : (encUpto l i).length + 2 ≤ s.size := by
                have e1 : s.size = (encUpto l i ++ (two (x % 65536) ++ r)).length := by rw [hs2]; rfl
                have e2 : (two (x % 65536)).length = 2 := rfl
                simp only [List.length_append] at e1
                omega
              have hk2 : (encUpto l i).length + 2 = (encUpto l (i + 1)).length := by rw [henc, List.length_append]; rfl
              have hR := two_ok wr g s _ hA hk
              rw [hbe, hk2] at hR
              rw [show ((x % 65536 : Nat) : Int) = IntKind.u16.wrap (x : Int) by rw [IntKind.wrap_u16]; omega] at hR
              obtain ⟨q1, hq1⟩ : ∃ q, q = (encUpto l (i + 1)).length := ⟨_, rfl⟩
              rw [← hq1] at hR
              have HQ := Lib.hid hq1
              clear hq1
              have HR := Lib.hid hR
              clear hpc henc hs2 hbe hk hk2 hR hA
              go_wp2_with fail
              refine HR.out.mono ?_
              rintro e w2 ⟨rfl, hA2, hC2⟩
              have hD2 := hC.trans' hC2 (fun m hm => .inr (by have e2 : m = g := hm; omega))
              have hcj := hD2.cell hcw.out (fun h => h)
              clear hC2
              go_wp2_with fail
              exact ⟨⟨i + 1, by omega, rfl, HQ.out ▸ hA2, hD2⟩, by simp [intOf]; omega⟩
            · have hpc : piece i x = four x := by unfold piece; rw [if_neg (by omega), if_neg (by omega)]
              rw [hpc] at henc hs2
              have hbe := mid_four (encUpto l i) r x (by omega)
              rw [← hs2] at hbe
              have hk : (encUpto l i).length + 4 ≤ s.size := by
                have e1 : s.size = (encUpto l i ++ (four x ++ r)).length := by rw [hs2]; rfl
                have e2 : (four x).length = 4 := rfl
                simp only [List.length_append] at e1
                omega
              have hk2 : (encUpto l i).length + 4 = (encUpto l (i + 1)).length := by rw [henc, List.length_append]; rfl
              have hR := four_ok wr g s _ hA hk
              rw [hbe, hk2] at hR
              obtain ⟨q1, hq1⟩ : ∃ q, q = (encUpto l (i + 1)).length := ⟨_, rfl⟩
              rw [← hq1] at hR
              have HQ := Lib.hid hq1
              clear hq1
              have HR := Lib.hid hR
              clear hpc henc hs2 hbe hk hk2 hR hA
              go_wp2_with fail
              refine HR.out.mono ?_
              rintro e w2 ⟨rfl, hA2, hC2⟩
              have hD2 := hC.trans' hC2 (fun m hm => .inr (by have e2 : m = g := hm; omega))
              have hcj := hD2.cell hcw.out (fun h => h)
              clear hC2
              go_wp2_with fail
              exact ⟨⟨i + 1, by omega, rfl, HQ.out ▸ hA2, hD2⟩, by simp [intOf]; omega⟩
          · obtain rfl : i = j := by omega
            go_wp2_with fail
            have hEnd : (encUpto l i).length = s.size := HSZ.out.symm
            rw [hEnd] at hA
            have hdiff : (s.size : Int) - (s.size : Int) = 0 := by omega
            have hL := left_any wr g s _ hA
            rw [hdiff] at hL
            refine hL.mono ?_
            rintro e w2 ⟨rfl, n2, rfl⟩
            have hA2 := hA.nob ((Chg.refl Nob wr).drewN n2)
            have hD2 := hC.drewN n2
            go_wp2_with fail
            refine (at_any _ g s _ hA2).mono ?_
            rintro e w3 ⟨rfl, rfl⟩
            go_wp2_with fail
            go_ret
            exact ⟨rfl, hD2⟩
  · have d1 : (2000 : Int) < (n : Int) := by omega
    go_enter Tryd.func9, Tryd.ntmps9
    go_wp2_with fail
    refine (awake_any w HG.out).mono ?_
    rintro e w0 ⟨rfl, hC0⟩
    go_wp2_with fail
    go_ret
    exact ⟨rfl, hC0⟩
end Go.Proofs.YtnbehagdionhmaaDoor.Cur
