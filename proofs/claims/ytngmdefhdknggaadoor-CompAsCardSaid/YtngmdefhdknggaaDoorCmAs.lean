/- CompAs, walked. -/
import Derived.Test.YtngmdefhdknggaaDoorCmBehind
namespace Go.Proofs.YtngmdefhdknggaaDoor.Cm
open Go.RowKit Go.Proofs.YtngmdefhdknggaaDoor.Cur Go.Proofs.YtngmdefhdknggaaDoor.Put Go.Proofs.YtngmdefhdknggaaDoor.Nm

theorem may_yes (w : World) (s : ByteArray) (hs : s.size ≤ 9223372036854775807) (h : mayB s.data.toList = true) :
    Calls Tryd.prog 22 #[.string s] w fun e w' => e = .returned (.bool true) ∧ Chg Nob w w' := by
  have := may_any w s hs
  rwa [h] at this
theorem may_no (w : World) (s : ByteArray) (hs : s.size ≤ 9223372036854775807) (h : mayB s.data.toList = false) :
    Calls Tryd.prog 22 #[.string s] w fun e w' => e = .returned (.bool false) ∧ Chg Nob w w' := by
  have := may_any w s hs
  rwa [h] at this

set_option maxRecDepth 100000 in
set_option maxHeartbeats 4000000 in
theorem as_any (w : World) (a n b : ByteArray) (i : Int) (ha : a.size ≤ 140737488351232) (hn : n.size ≤ 140737488351232) (hb : b.size ≤ 140737488351232) (hg : As.Laid w) :
    Calls Tryd.prog 7 #[.string a, .string n, .string b, .int .i64 i] w fun e w' => e = .returned (.bool true) ∧ Chg Nob w w' := by
  have HG := Lib.hid hg
  clear hg
  have a0 : (0 : Int) ≤ (a.size : Int) := by omega
  have n0 : (0 : Int) ≤ (n.size : Int) := by omega
  have b0 : (0 : Int) ≤ (b.size : Int) := by omega
  by_cases hbig : 2000 < a.size ∨ 2000 < b.size ∨ 2000 < n.size
  · by_cases h1 : 2000 < a.size
    · have g1 : (2000 : Int) < (a.size : Int) := by omega
      go_enter Tryd.func7, Tryd.ntmps7
      go_wp2_with fail
      refine (awake_any w HG.out).mono ?_
      rintro r w1 ⟨rfl, hC1⟩
      go_wp2_with fail
      go_ret
      exact ⟨rfl, hC1⟩
    have g1 : ¬ (2000 : Int) < (a.size : Int) := by omega
    by_cases h2 : 2000 < b.size
    · have g2 : (2000 : Int) < (b.size : Int) := by omega
      go_enter Tryd.func7, Tryd.ntmps7
      go_wp2_with fail
      refine (awake_any w HG.out).mono ?_
      rintro r w1 ⟨rfl, hC1⟩
      go_wp2_with fail
      go_ret
      exact ⟨rfl, hC1⟩
    have g2 : ¬ (2000 : Int) < (b.size : Int) := by omega
    have g3 : (2000 : Int) < (n.size : Int) := by omega
    clear h1 h2 hbig
    go_enter Tryd.func7, Tryd.ntmps7
    go_wp2_with fail
    refine (awake_any w HG.out).mono ?_
    rintro r w1 ⟨rfl, hC1⟩
    go_wp2_with fail
    go_ret
    exact ⟨rfl, hC1⟩
  have g1 : ¬ (2000 : Int) < (a.size : Int) := by omega
  have g2 : ¬ (2000 : Int) < (b.size : Int) := by omega
  have g3 : ¬ (2000 : Int) < (n.size : Int) := by omega
  have e1 : ¬ 9223372036854775807 < a.size + n.size := by omega
  have e2 : ¬ 9223372036854775807 < (a ++ n).size + b.size := by rw [ByteArray.size_append]; omega
  obtain ⟨T, hT⟩ : ∃ T, T = a ++ n ++ b := ⟨_, rfl⟩
  have hTd : T.data.toList = a.data.toList ++ (n.data.toList ++ b.data.toList) := by rw [hT, cat_list, cat_list, List.append_assoc]
  have hTs : T.size = a.size + n.size + b.size := by rw [hT, ByteArray.size_append, ByteArray.size_append]
  have hal : a.data.toList.length = a.size := by rw [Array.length_toList]; rfl
  have hnl : n.data.toList.length = n.size := by rw [Array.length_toList]; rfl
  have hTl : T.data.toList.length = T.size := by rw [Array.length_toList]; rfl
  obtain ⟨r1, x1, f1, hr1⟩ : ∃ r nx e, rdTop T.data.toList (a.size : Int) = (r, nx, e) := ⟨_, _, _, rfl⟩
  obtain ⟨r2, x2, f2, hr2⟩ : ∃ r nx e, rdTop T.data.toList i = (r, nx, e) := ⟨_, _, _, rfl⟩
  obtain ⟨M1, hM1⟩ : ∃ N, N = ba r1 := ⟨_, rfl⟩
  obtain ⟨M2, hM2⟩ : ∃ N, N = ba r2 := ⟨_, rfl⟩
  have HR1 := Lib.hid (fun W hg => read_r W T a.size M1 x1 f1 (by omega) hg (by rw [hr1, hM1, ba_toList]))
  have HR2 := Lib.hid (fun W hg => read_r W T i M2 x2 f2 (by omega) hg (by rw [hr2, hM2, ba_toList]))
  have hmay : mayB n.data.toList = true → M1 = n ∧ x1 = a.size + n.size ∧ f1 = 0 := by
    intro h
    obtain ⟨h1, h2⟩ := (mayB_iff _).1 h
    have h3 := nm_of_nam h1 a.data.toList b.data.toList a.data.toList.length
    rw [← hTd, hal, hnl] at h3
    have h4 := rdTop_nm (l := T.data.toList) (p := a.size) (by omega) h2 h3
    rw [hr1] at h4
    injection h4 with h4 h5
    injection h5 with h5 h6
    exact ⟨by rw [hM1, h4, ba_of], h5, h6⟩
  have hsec : f2 ≠ 0 ∨ (f2 = 0 ∧ mayB M2.data.toList = true ∧ i < x2 ∧ x2 ≤ T.size) := by
    rcases rdTop_ok hr2 with ⟨h1, h2, h3, h4, h5⟩ | ⟨h1, _⟩
    · right
      have h6 := h5.next.2 rfl
      exact ⟨h1, (mayB_iff _).2 ⟨by rw [hM2, ba_toList]; exact h5.nam, by rw [hM2, ba_toList]; exact h4⟩, by omega, by omega⟩
    · left
      omega
  have m2s : M2.size ≤ 255 ∨ f2 ≠ 0 := by
    rcases rdTop_ok hr2 with ⟨h1, h2, h3, h4, h5⟩ | ⟨h1, _⟩
    · left
      rw [hM2, ba_size]
      exact h4
    · right
      omega
  have t0 : (T.size : Int) = (a.size : Int) + (n.size : Int) + (b.size : Int) := by omega
  have HMAY := Lib.hid hmay
  have HSEC := Lib.hid hsec
  have HM2S := Lib.hid m2s
  have HT0 := Lib.hid t0
  have hcat : a ++ n ++ b = T := hT.symm
  clear hr1 hr2 hM1 hM2 hTd hTs hal hnl hTl hT hmay hsec m2s t0 hbig
  by_cases hm : mayB n.data.toList = true
  · obtain ⟨rfl, rfl, rfl⟩ := HMAY.out hm
    have HMY := Lib.hid (fun W => may_yes W M1 (by omega) hm)
    clear hm HMAY
    by_cases hf : f2 = 0
    · subst hf
      obtain ⟨_, q1, q2, q3⟩ := HSEC.out.resolve_left (fun h => h rfl)
      have HMY2 := Lib.hid (fun W => may_yes W M2 (by have := HM2S.out.resolve_right (fun h => h rfl); omega) q1)
      have u1 : i < (x2 : Int) := q2
      have u2 : (x2 : Int) ≤ (a.size : Int) + (M1.size : Int) + (b.size : Int) := by have := HT0.out; omega
      clear q1 q2 q3 HSEC HM2S
      go_enter Tryd.func7, Tryd.ntmps7
      go_wp2_with fail
      refine (awake_any w HG.out).mono ?_
      rintro r1 w1 ⟨rfl, hC1⟩
      go_wp2_with fail
      refine (HR1.out w1 (HG.out.nob hC1)).mono ?_
      rintro r2 w2 ⟨rfl, hC2⟩
      have hD2 := hC1.trans hC2
      go_wp2_with fail
      refine (HMY.out w2).mono ?_
      rintro r3 w3 ⟨rfl, hC3⟩
      have hD3 := hD2.trans hC3
      go_wp2_with fail
      refine (HR2.out w3 (HG.out.nob hD3)).mono ?_
      rintro r4 w4 ⟨rfl, hC4⟩
      have hD4 := hD3.trans hC4
      go_wp2_with fail
      refine (HMY2.out w4).mono ?_
      rintro r5 w5 ⟨rfl, hC5⟩
      have hD5 := hD4.trans hC5
      go_wp2_with fail
      go_ret
      exact ⟨rfl, hD5⟩
    · have he2 : ((f2 : Int) != 0) = true := by simp; omega
      have he3 : ¬ ((f2 : Int) = 0) := by omega
      clear HSEC HM2S hf
      go_enter Tryd.func7, Tryd.ntmps7
      go_wp2_with fail
      refine (awake_any w HG.out).mono ?_
      rintro r1 w1 ⟨rfl, hC1⟩
      go_wp2_with fail
      refine (HR1.out w1 (HG.out.nob hC1)).mono ?_
      rintro r2 w2 ⟨rfl, hC2⟩
      have hD2 := hC1.trans hC2
      go_wp2_with fail
      refine (HMY.out w2).mono ?_
      rintro r3 w3 ⟨rfl, hC3⟩
      have hD3 := hD2.trans hC3
      go_wp2_with fail
      refine (HR2.out w3 (HG.out.nob hD3)).mono ?_
      rintro r4 w4 ⟨rfl, hC4⟩
      have hD4 := hD3.trans hC4
      go_wp2_with fail
      go_ret
      exact ⟨rfl, hD4⟩
  · have hm2 : mayB n.data.toList = false := by simpa using hm
    have HMY := Lib.hid (fun W => may_no W n (by omega) hm2)
    clear hm hm2 HMAY
    by_cases hf : f2 = 0
    · subst hf
      obtain ⟨_, q1, q2, q3⟩ := HSEC.out.resolve_left (fun h => h rfl)
      have HMY2 := Lib.hid (fun W => may_yes W M2 (by have := HM2S.out.resolve_right (fun h => h rfl); omega) q1)
      have u1 : i < (x2 : Int) := q2
      have u2 : (x2 : Int) ≤ (a.size : Int) + (n.size : Int) + (b.size : Int) := by have := HT0.out; omega
      clear q1 q2 q3 HSEC HM2S
      go_enter Tryd.func7, Tryd.ntmps7
      go_wp2_with fail
      refine (awake_any w HG.out).mono ?_
      rintro r1 w1 ⟨rfl, hC1⟩
      go_wp2_with fail
      refine (HR1.out w1 (HG.out.nob hC1)).mono ?_
      rintro r2 w2 ⟨rfl, hC2⟩
      have hD2 := hC1.trans hC2
      go_wp2_with fail
      refine (HMY.out w2).mono ?_
      rintro r3 w3 ⟨rfl, hC3⟩
      have hD3 := hD2.trans hC3
      go_wp2_with fail
      refine (HR2.out w3 (HG.out.nob hD3)).mono ?_
      rintro r4 w4 ⟨rfl, hC4⟩
      have hD4 := hD3.trans hC4
      go_wp2_with fail
      refine (HMY2.out w4).mono ?_
      rintro r5 w5 ⟨rfl, hC5⟩
      have hD5 := hD4.trans hC5
      go_wp2_with fail
      go_ret
      exact ⟨rfl, hD5⟩
    · have he2 : ((f2 : Int) != 0) = true := by simp; omega
      have he3 : ¬ ((f2 : Int) = 0) := by omega
      clear HSEC HM2S hf
      go_enter Tryd.func7, Tryd.ntmps7
      go_wp2_with fail
      refine (awake_any w HG.out).mono ?_
      rintro r1 w1 ⟨rfl, hC1⟩
      go_wp2_with fail
      refine (HR1.out w1 (HG.out.nob hC1)).mono ?_
      rintro r2 w2 ⟨rfl, hC2⟩
      have hD2 := hC1.trans hC2
      go_wp2_with fail
      refine (HMY.out w2).mono ?_
      rintro r3 w3 ⟨rfl, hC3⟩
      have hD3 := hD2.trans hC3
      go_wp2_with fail
      refine (HR2.out w3 (HG.out.nob hD3)).mono ?_
      rintro r4 w4 ⟨rfl, hC4⟩
      have hD4 := hD3.trans hC4
      go_wp2_with fail
      go_ret
      exact ⟨rfl, hD4⟩
end Go.Proofs.YtngmdefhdknggaaDoor.Cm
