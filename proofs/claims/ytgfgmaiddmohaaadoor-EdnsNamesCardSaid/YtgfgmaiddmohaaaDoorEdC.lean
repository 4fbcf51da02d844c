/- edns.Code, Split; hustingsref06.Code, Split, walked. -/
import Derived.Test.YtgfgmaiddmohaaaDoorEdP
import Derived.Laws.BitsAllLaws
namespace Go.Proofs.YtgfgmaiddmohaaaDoor.Ed
open Go.RowKit

theorem and15 (x : Nat) (hx : x < 256) : bits .and .u8 (x : Int) 15 = ((x % 16 : Nat) : Int) := by
  have h := u8_and_nat x 15 hx (by omega)
  rw [show (((15 : Nat)) : Int) = 15 from rfl] at h
  rw [h]
  congr 1
  exact Nat.and_two_pow_sub_one_eq_mod x 4

theorem i64_and_nat (a b : Nat) (ha : a < 9223372036854775808) (hb : b < 9223372036854775808) : bits .and .i64 (a : Int) (b : Int) = ((a &&& b : Nat) : Int) := by
  have hx : a &&& b < 2 ^ 63 := Nat.and_lt_two_pow _ (by omega)
  show IntKind.i64.wrap ((BitVec.ofInt 64 (a : Int) &&& BitVec.ofInt 64 (b : Int)).toNat : Int) = _
  rw [BitVec.toNat_and, ofInt_u64 a (by omega), ofInt_u64 b (by omega), IntKind.wrap_i64]
  omega
theorem i64_or_nat (a b : Nat) (ha : a < 9223372036854775808) (hb : b < 9223372036854775808) : bits .or .i64 (a : Int) (b : Int) = ((a ||| b : Nat) : Int) := by
  have hx : a ||| b < 2 ^ 63 := Nat.or_lt_two_pow (by omega) (by omega)
  show IntKind.i64.wrap ((BitVec.ofInt 64 (a : Int) ||| BitVec.ofInt 64 (b : Int)).toNat : Int) = _
  rw [BitVec.toNat_or, ofInt_u64 a (by omega), ofInt_u64 b (by omega), IntKind.wrap_i64]
  omega

theorem code_any (w : World) (x y : Nat) (hx : x < 256) (hy : y < 256) :
    Calls Tryd.prog 21 #[.int .u8 (x : Int), .int .u8 (y : Int)] w fun e w' => e = .returned (.int .i64 ((16 * y + x % 16 : Nat) : Int)) ∧ w = w' := by
  have x0 : (0 : Int) ≤ (x : Int) := by omega
  have y0 : (0 : Int) ≤ (y : Int) := by omega
  have y1 : (y : Int) ≤ 255 := by omega
  have ha := and15 x hx
  have ho : bits .or .i64 ((y : Int) * 16) ((x : Int) % 16) = ((16 * y + x % 16 : Nat) : Int) := by
    have h := i64_or_nat (16 * y) (x % 16) (by omega) (by omega)
    rw [nat_join 4 (16 * y) (x % 16) (by omega) (by omega)] at h
    rw [show (y : Int) * 16 = ((16 * y : Nat) : Int) by omega, show (x : Int) % 16 = ((x % 16 : Nat) : Int) by omega]
    exact h
  go_enter Tryd.func21, Tryd.ntmps21
  go_wp2_with fail
  have hz : 16 * (y : Int) + (x : Int) % 16 = ((16 * y + x % 16 : Nat) : Int) := by omega
  go_ret
  exact ⟨by rw [← hz]; rfl, rfl⟩

set_option maxRecDepth 100000 in
theorem split_ok (w : World) (n : Nat) (hn : n < 4096) :
    Calls Tryd.prog 20 #[.int .i64 (n : Int)] w fun e w' => e = .returned (.tuple #[.int .u8 ((n % 16 : Nat) : Int), .int .u8 ((n / 16 : Nat) : Int), .int .i64 0]) ∧ w = w' := by
  have n0 : (0 : Int) ≤ (n : Int) := by omega
  have n1 : (n : Int) ≤ 4095 := by omega
  have ha : bits .and .i64 (n : Int) 15 % 256 = ((n % 16 : Nat) : Int) := by
    have h := i64_and_nat n 15 (by omega) (by omega)
    rw [show (((15 : Nat)) : Int) = 15 from rfl] at h
    rw [h, nat_mask4]
    omega
  have hd : (n : Int) / 16 = ((n / 16 : Nat) : Int) := by omega
  have HA := Lib.hid ha
  have HD := Lib.hid hd
  clear hn ha hd
  go_enter Tryd.func20, Tryd.ntmps20
  go_wp2_with fail
  (try simp only [Exit.inBlock, Exit.then])
  refine bodyPost_ret (v := .tuple #[.int .u8 (bits .and .i64 (n : Int) 15 % 256), .int .u8 ((n : Int) / 16), .int .i64 0]) (by simp [results, Tryd.results20, go_sem]) rfl ⟨by rw [HA.out, HD.out], rfl⟩
set_option maxRecDepth 100000 in
theorem split_no (w : World) (n : Int) (hn : n < 0 ∨ 4095 < n) :
    Calls Tryd.prog 20 #[.int .i64 n] w fun e w' => e = .returned (.tuple #[.int .u8 0, .int .u8 0, .int .i64 1]) ∧ w = w' := by
  by_cases h0 : n < 0
  · go_enter Tryd.func20, Tryd.ntmps20
    go_wp2_with fail
    (try simp only [Exit.inBlock, Exit.then])
    exact bodyPost_ret (v := .tuple #[.int .u8 0, .int .u8 0, .int .i64 1]) (by simp [results, Tryd.results20, go_sem]) rfl ⟨rfl, rfl⟩
  · have h1 : 4095 < n := by omega
    go_enter Tryd.func20, Tryd.ntmps20
    go_wp2_with fail
    (try simp only [Exit.inBlock, Exit.then])
    exact bodyPost_ret (v := .tuple #[.int .u8 0, .int .u8 0, .int .i64 1]) (by simp [results, Tryd.results20, go_sem]) rfl ⟨rfl, rfl⟩

set_option maxRecDepth 100000 in
theorem rcode_any (w : World) (x y : Nat) (hx : x < 256) (hy : y < 256) :
    Calls Tryd.prog 35 #[.int .u8 (x : Int), .int .u8 (y : Int)] w fun e w' => e = .returned (.int .i64 ((16 * y + x % 16 : Nat) : Int)) ∧ w = w' := by
  have x0 : (0 : Int) ≤ (x : Int) := by omega
  have x1 : (x : Int) ≤ 255 := by omega
  have y0 : (0 : Int) ≤ (y : Int) := by omega
  have y1 : (y : Int) ≤ 255 := by omega
  go_enter Tryd.func35, Tryd.ntmps35
  have ho := Lib.hid (show 16 * (y : Int) + (x : Int) % 16 = ((16 * y + x % 16 : Nat) : Int) by omega)
  clear hx hy
  go_wp2_with fail
  go_ret
  exact ⟨by rw [← ho.out]; rfl, rfl⟩
set_option maxRecDepth 100000 in
theorem rsplit_ok (w : World) (n : Nat) (hn : n < 4096) :
    Calls Tryd.prog 33 #[.int .i64 (n : Int)] w fun e w' => e = .returned (.tuple #[.int .u8 ((n % 16 : Nat) : Int), .int .u8 ((n / 16 : Nat) : Int), .int .i64 0]) ∧ w = w' := by
  have n0 : (0 : Int) ≤ (n : Int) := by omega
  have n1 : (n : Int) ≤ 4095 := by omega
  have ha : (n : Int) % 16 = ((n % 16 : Nat) : Int) := by omega
  have hd : (n : Int) / 16 = ((n / 16 : Nat) : Int) := by omega
  have HA := Lib.hid ha
  have HD := Lib.hid hd
  clear hn ha hd
  go_enter Tryd.func33, Tryd.ntmps33
  go_wp2_with fail
  (try simp only [Exit.inBlock, Exit.then])
  refine bodyPost_ret (v := .tuple #[.int .u8 ((n : Int) % 16), .int .u8 ((n : Int) / 16), .int .i64 0]) (by simp [results, Tryd.results33, go_sem]) rfl ⟨by rw [HA.out, HD.out], rfl⟩
set_option maxRecDepth 100000 in
theorem rsplit_no (w : World) (n : Int) (hn : n < 0 ∨ 4095 < n) :
    Calls Tryd.prog 33 #[.int .i64 n] w fun e w' => e = .returned (.tuple #[.int .u8 0, .int .u8 0, .int .i64 1]) ∧ w = w' := by
  by_cases h0 : n < 0
  · go_enter Tryd.func33, Tryd.ntmps33
    go_wp2_with fail
    (try simp only [Exit.inBlock, Exit.then])
    exact bodyPost_ret (v := .tuple #[.int .u8 0, .int .u8 0, .int .i64 1]) (by simp [results, Tryd.results33, go_sem]) rfl ⟨rfl, rfl⟩
  · have h1 : 4095 < n := by omega
    go_enter Tryd.func33, Tryd.ntmps33
    go_wp2_with fail
    (try simp only [Exit.inBlock, Exit.then])
    exact bodyPost_ret (v := .tuple #[.int .u8 0, .int .u8 0, .int .i64 1]) (by simp [results, Tryd.results33, go_sem]) rfl ⟨rfl, rfl⟩
end Go.Proofs.YtgfgmaiddmohaaaDoor.Ed
