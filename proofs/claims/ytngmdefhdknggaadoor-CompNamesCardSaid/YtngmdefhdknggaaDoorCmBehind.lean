/- CompBehind, walked. -/
import Derived.Test.YtngmdefhdknggaaDoorCmAw
namespace Go.Proofs.YtngmdefhdknggaaDoor.Cm
open Go.RowKit Go.Proofs.YtngmdefhdknggaaDoor.Cur Go.Proofs.YtngmdefhdknggaaDoor.Put Go.Proofs.YtngmdefhdknggaaDoor.Nm

theorem ext_take (s : ByteArray) (n : Nat) : (s.extract 0 n).data.toList = s.data.toList.take n := by
  rw [ByteArray.data_extract, Array.toList_extract, List.extract_eq_take_drop]
  simp
theorem cat_list (a b : ByteArray) : (a ++ b).data.toList = a.data.toList ++ b.data.toList := by
  rw [ByteArray.data_append]
  simp
theorem rem_mod (x : Int) (m : Nat) (hm : m ≤ 1000000) (h0 : 0 < m) : ∃ p : Nat, wrap64 ((IntKind.u64.wrap x).tmod (m : Int)) = (p : Int) ∧ p < m := by
  have h1 : 0 ≤ IntKind.u64.wrap x := by simp only [IntKind.wrap_u64]; omega
  have e : (IntKind.u64.wrap x).tmod (m : Int) = (IntKind.u64.wrap x) % (m : Int) := Int.tmod_eq_emod_of_nonneg h1
  have h3 := Int.emod_nonneg (IntKind.u64.wrap x) (show (m : Int) ≠ 0 by omega)
  have h4 := Int.emod_lt_of_pos (IntKind.u64.wrap x) (show (0 : Int) < (m : Int) by omega)
  rw [e]
  generalize (IntKind.u64.wrap x) % (m : Int) = r at *
  refine ⟨r.toNat, ?_, by omega⟩
  rw [show wrap64 r = r by unfold wrap64; omega]
  omega
theorem str_ne {a b : ByteArray} (h : a ≠ b) : a.toList ≠ b.toList := fun e => h (by
  rw [ByteArray.toList_eq, ByteArray.toList_eq] at e
  rw [← ba_of a, ← ba_of b, e])

set_option maxRecDepth 100000 in
set_option maxHeartbeats 4000000 in
theorem behind_any (w : World) (s : ByteArray) (i : Int) (u : ByteArray) (c : Int) (hs : s.size ≤ 140737488351232) (hu : u.size ≤ 140737488351232) (hg : As.Laid w) :
    Calls Tryd.prog 6 #[.string s, .int .i64 i, .string u, .int .i64 c] w fun e w' => e = .returned (.bool true) ∧ Chg Nob w w' := by
  have HG := Lib.hid hg
  clear hg
  have s0 : (0 : Int) ≤ (s.size : Int) := by omega
  have u0 : (0 : Int) ≤ (u.size : Int) := by omega
  by_cases h1 : 3000 < s.size
  · have g1 : (3000 : Int) < (s.size : Int) := by omega
    go_enter Tryd.func6, Tryd.ntmps6
    go_wp2_with fail
    refine (awake_any w HG.out).mono ?_
    rintro r w1 ⟨rfl, hC1⟩
    go_wp2_with fail
    go_ret
    exact ⟨rfl, hC1⟩
  have g1 : ¬ (3000 : Int) < (s.size : Int) := by omega
  by_cases h2 : 3000 < u.size
  · have g2 : (3000 : Int) < (u.size : Int) := by omega
    go_enter Tryd.func6, Tryd.ntmps6
    go_wp2_with fail
    refine (awake_any w HG.out).mono ?_
    rintro r w1 ⟨rfl, hC1⟩
    go_wp2_with fail
    go_ret
    exact ⟨rfl, hC1⟩
  have g2 : ¬ (3000 : Int) < (u.size : Int) := by omega
  obtain ⟨r, nx, e, hr⟩ : ∃ r nx e, rdTop s.data.toList i = (r, nx, e) := ⟨_, _, _, rfl⟩
  have hlen : s.data.toList.length = s.size := by rw [Array.length_toList]; rfl
  obtain ⟨N, hN⟩ : ∃ N, N = ba r := ⟨_, rfl⟩
  have hNd : N.data.toList = r := by rw [hN, ba_toList]
  have HR1 := Lib.hid (fun W hg => read_r W s i N nx e (by omega) hg (by rw [hr, hNd]))
  by_cases he : e = 0
  · subst he
    obtain ⟨_, hi0, hi1, hr255, hnm⟩ := (rdTop_ok hr).resolve_right (by omega)
    have hnx := hnm.next.2 rfl
    obtain ⟨p, rfl⟩ := Int.eq_ofNat_of_zero_le hi0
    rw [hlen] at hnx
    simp only [Int.toNat_natCast] at hnx
    have happ : rdTop (s ++ u).data.toList (p : Int) = (N.data.toList, nx, 0) := by rw [cat_list, hNd]; exact rdTop_app _ hr
    have HR2 := Lib.hid (fun W hg => read_r W (s ++ u) p N nx 0 (by rw [ByteArray.size_append]; omega) hg happ)
    have htk := rdTop_take hr
    rw [← ext_take] at htk
    have hcut := fun (k : Nat) (h1 : p ≤ k) (h2 : k < nx) => rdTop_cut (k := k) hr (by omega) h2
    have hno : ¬ 9223372036854775807 < s.size + u.size := by omega
    have p0 : (0 : Int) ≤ (p : Int) := by omega
    have p1 : (p : Int) < (nx : Int) := by omega
    have p2 : (nx : Int) ≤ (s.size : Int) := by omega
    have p3 : ¬ (nx : Int) ≤ (p : Int) := by omega
    have p4 : ¬ (s.size : Int) < (nx : Int) := by omega
    have p5 : (p : Int) ≤ (nx : Int) := by omega
    have HCUT := Lib.hid hcut
    have hNs : N.size = r.length := by rw [hN, ba_size]
    simp only [Int.toNat_natCast] at htk
    rcases htk with htk | ⟨htk, hne⟩
    · have HR3 := Lib.hid (fun W hg => read_r W (s.extract 0 nx) p N nx 0 (by rw [ByteArray.size_extract]; omega) hg (by rw [hNd]; exact htk))
      obtain ⟨d, hd⟩ : ∃ d, d = nx - p := ⟨_, rfl⟩
      have d1 : (nx : Int) - (p : Int) = (d : Int) := by omega
      obtain ⟨q, hq, hqd⟩ := rem_mod c d (by omega) (by omega)
      have d3 : (p : Int) + (q : Int) = ((p + q : Nat) : Int) := by omega
      have HR4 := Lib.hid (fun W hg => read_r W (s.extract 0 (p + q)) p ⟨#[]⟩ 0 4 (by rw [ByteArray.size_extract]; omega) hg (by rw [ext_take]; exact HCUT.out (p + q) (by omega) (by omega)))
      have d4 : p + q ≤ s.size := by omega
      have d5 : (p : Int) + (q : Int) ≤ (s.size : Int) := by omega
      have d6 : (0 : Int) ≤ (d : Int) := by omega
      have d7 : (d : Int) ≤ 3000 := by omega
      have q0 : (0 : Int) ≤ (q : Int) := by omega
      have q1 : (q : Int) ≤ 3000 := by omega
      by_cases hsame : s.extract p nx = N
      · clear hqd hd d3 htk hnm hr hNd hN hcut happ hNs hnx d4
        go_enter Tryd.func6, Tryd.ntmps6
        go_wp2_with fail
        refine (awake_any w HG.out).mono ?_
        rintro r1 w1 ⟨rfl, hC1⟩
        go_wp2_with fail
        refine (HR1.out w1 (HG.out.nob hC1)).mono ?_
        rintro r1 w2 ⟨rfl, hC2⟩
        have hD2 := hC1.trans hC2
        go_wp2_with fail
        refine (HR2.out w2 (HG.out.nob hD2)).mono ?_
        rintro r1 w3 ⟨rfl, hC3⟩
        have hD3 := hD2.trans hC3
        go_wp2_with fail
        refine (HR3.out w3 (HG.out.nob hD3)).mono ?_
        rintro r1 w4 ⟨rfl, hC4⟩
        have hD4 := hD3.trans hC4
        go_wp2_with fail
        refine (HR4.out w4 (HG.out.nob hD4)).mono ?_
        rintro r1 w5 ⟨rfl, hC5⟩
        have hD5 := hD4.trans hC5
        go_wp2_with fail
        go_ret
        exact ⟨rfl, hD5⟩
      · have hs2 := str_ne hsame
        have hs3 : ((s.extract p nx).toList == N.toList) = false := by simpa using hs2
        clear hq hsame HR4
        clear hqd hd d3 htk hnm hr hNd hN hcut happ hNs hnx d4
        go_enter Tryd.func6, Tryd.ntmps6
        go_wp2_with fail
        refine (awake_any w HG.out).mono ?_
        rintro r1 w1 ⟨rfl, hC1⟩
        go_wp2_with fail
        refine (HR1.out w1 (HG.out.nob hC1)).mono ?_
        rintro r1 w2 ⟨rfl, hC2⟩
        have hD2 := hC1.trans hC2
        go_wp2_with fail
        refine (HR2.out w2 (HG.out.nob hD2)).mono ?_
        rintro r1 w3 ⟨rfl, hC3⟩
        have hD3 := hD2.trans hC3
        go_wp2_with fail
        refine (HR3.out w3 (HG.out.nob hD3)).mono ?_
        rintro r1 w4 ⟨rfl, hC4⟩
        have hD4 := hD3.trans hC4
        go_wp2_with fail
        go_ret
        exact ⟨rfl, hD4⟩
    · have HR3 := Lib.hid (fun W hg => read_r W (s.extract 0 nx) p ⟨#[]⟩ 0 4 (by rw [ByteArray.size_extract]; omega) hg htk)
      have hne2 : ((N.size : Int) != (nx : Int) - (p : Int)) = true := by rw [hNs]; simp; omega
      have hne3 : ¬ ((N.size : Int) = (nx : Int) - (p : Int)) := by rw [hNs]; omega
      clear htk hnm hr hNd hN hcut happ hNs hnx hne
      go_enter Tryd.func6, Tryd.ntmps6
      go_wp2_with fail
      refine (awake_any w HG.out).mono ?_
      rintro r1 w1 ⟨rfl, hC1⟩
      go_wp2_with fail
      refine (HR1.out w1 (HG.out.nob hC1)).mono ?_
      rintro r1 w2 ⟨rfl, hC2⟩
      have hD2 := hC1.trans hC2
      go_wp2_with fail
      refine (HR2.out w2 (HG.out.nob hD2)).mono ?_
      rintro r1 w3 ⟨rfl, hC3⟩
      have hD3 := hD2.trans hC3
      go_wp2_with fail
      refine (HR3.out w3 (HG.out.nob hD3)).mono ?_
      rintro r1 w4 ⟨rfl, hC4⟩
      have hD4 := hD3.trans hC4
      go_wp2_with fail
      go_ret
      exact ⟨rfl, hD4⟩
  · obtain ⟨_, rfl, rfl⟩ := (rdTop_ok hr).resolve_left (fun h => he h.1)
    obtain rfl : N = ⟨#[]⟩ := hN
    have he2 : ((e : Int) == 0) = false := by simp; omega
    have he3 : ¬ ((e : Int) = 0) := by omega
    have he0 : (0 : Int) ≤ (e : Int) := by omega
    clear hr hNd
    go_enter Tryd.func6, Tryd.ntmps6
    go_wp2_with fail
    refine (awake_any w HG.out).mono ?_
    rintro r1 w1 ⟨rfl, hC1⟩
    go_wp2_with fail
    refine (HR1.out w1 (HG.out.nob hC1)).mono ?_
    rintro r1 w2 ⟨rfl, hC2⟩
    have hD2 := hC1.trans hC2
    go_wp2_with fail
    go_ret
    exact ⟨rfl, hD2⟩
end Go.Proofs.YtngmdefhdknggaaDoor.Cm
