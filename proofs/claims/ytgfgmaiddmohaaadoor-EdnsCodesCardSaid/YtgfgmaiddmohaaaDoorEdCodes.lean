/- EdnsCodes, walked. -/
import Derived.Test.YtgfgmaiddmohaaaDoorEdAw
import Derived.Deep.RegionHeld3
namespace Go.Proofs.YtgfgmaiddmohaaaDoor.Ed
open Go.RowKit Go.Proofs.YtgfgmaiddmohaaaDoor.Cur Go.Proofs.YtgfgmaiddmohaaaDoor.Put

theorem rem4096 (x : Int) : ∃ p : Nat, wrap64 ((IntKind.u64.wrap x).tmod 4096) = (p : Int) ∧ p < 4096 := by
  have h0 : 0 ≤ IntKind.u64.wrap x := by simp only [IntKind.wrap_u64]; omega
  have e : (IntKind.u64.wrap x).tmod 4096 = (IntKind.u64.wrap x) % 4096 := Int.tmod_eq_emod_of_nonneg h0
  have h3 := Int.emod_nonneg (IntKind.u64.wrap x) (show (4096 : Int) ≠ 0 by omega)
  have h4 := Int.emod_lt_of_pos (IntKind.u64.wrap x) (show (0 : Int) < 4096 by omega)
  rw [e, IntWalk.wrap64_in _ ⟨by omega, by omega⟩]
  obtain ⟨p, hp⟩ := Int.eq_ofNat_of_zero_le h3
  exact ⟨p, hp, by omega⟩

set_option maxRecDepth 100000 in
set_option maxHeartbeats 4000000 in
theorem codes_any (w : World) (x y : Nat) (n : Int) (hx : x < 256) (hy : y < 256) (hg : As.Laid w) :
    Calls Tryd.prog 6 #[.int .u8 (x : Int), .int .u8 (y : Int), .int .i64 n] w fun e w' => e = .returned (.bool true) ∧ Chg Nob w w' := by
  have HG := Lib.hid hg
  have H1 := Lib.hid (fun W => code_any W x y hx hy)
  have H2 := Lib.hid (fun W => split_ok W (16 * y + x % 16) (by omega))
  rw [show (16 * y + x % 16) % 16 = x % 16 by omega, show (16 * y + x % 16) / 16 = y by omega] at H2
  have H3 := Lib.hid (fun W => code_any W (x % 16) y (by omega) hy)
  rw [show x % 16 % 16 = x % 16 by omega] at H3
  have ha := and15 x hx
  obtain ⟨p, hp, hp2⟩ := rem4096 n
  have H4 := Lib.hid (fun W => split_ok W p hp2)
  have H5 := Lib.hid (fun W => code_any W (p % 16) (p / 16) (by omega) (by omega))
  rw [show 16 * (p / 16) + p % 16 % 16 = p by omega] at H5
  have q16 : ((p % 16 : Nat) : Int) < 16 := by omega
  generalize 16 * y + x % 16 = v at *
  generalize x % 16 = z at *
  generalize p % 16 = p1 at *
  generalize p / 16 = p2 at *
  clear hg hx hy hp2
  go_enter Tryd.func6, Tryd.ntmps6
  go_wp2_with fail
  refine (H1.out w).mono ?_
  rintro r w1 ⟨rfl, rfl⟩
  go_wp2_with fail
  refine (H2.out w).mono ?_
  rintro r w1 ⟨rfl, rfl⟩
  go_wp2_with fail
  refine (awake_any w HG.out).mono ?_
  rintro r w2 ⟨rfl, hC2⟩
  go_wp2_with fail
  refine (H1.out w2).mono ?_
  rintro r w3 ⟨rfl, rfl⟩
  go_wp2_with fail
  refine (H3.out w2).mono ?_
  rintro r w3 ⟨rfl, rfl⟩
  go_wp2_with fail
  refine (H4.out w2).mono ?_
  rintro r w3 ⟨rfl, rfl⟩
  go_wp2_with fail
  refine (H5.out w2).mono ?_
  rintro r w3 ⟨rfl, rfl⟩
  go_wp2_with fail
  go_ret
  exact ⟨rfl, hC2⟩
end Go.Proofs.YtgfgmaiddmohaaaDoor.Ed
