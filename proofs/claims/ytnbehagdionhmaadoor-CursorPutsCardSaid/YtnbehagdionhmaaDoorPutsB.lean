/- Package cursor's Put1 and Put4, walked. -/
import Derived.Test.YtnbehagdionhmaaDoorPuts
namespace Go.Proofs.YtnbehagdionhmaaDoor.Put
open Go.RowKit

def one (n : Nat) : List UInt8 := [UInt8.ofNat n]
def four (n : Nat) : List UInt8 := [UInt8.ofNat (n / 16777216), UInt8.ofNat (n / 65536), UInt8.ofNat (n / 256), UInt8.ofNat n]

theorem put1_any (v1 : Value) (l1 : List UInt8) (n : Nat) (w : World) (hn8 : n < 256) (h1 : BytesAt w v1 l1) (hn : l1.length + 1 ≤ 140737488355328) :
    Calls Tryd.prog 17 #[v1, .int .u8 (n : Int)] w fun e w' => ∃ v, e = .returned v ∧ w'.ownsRow w.heap.size 5 1 v (l1 ++ one n).length (bytesV (l1 ++ one n)) ∧ Chg Nob w w' := by
  have k0 : (0 : Int) ≤ (n : Int) := by omega
  have k1 : (n : Int) ≤ 255 := by omega
  have hcs : (#[.int .u8 (n : Int)] : Array Value) = (bytesV (one n)).toArray := by
    have e2 := u8_of n
    have e3 : (n : Int) % 256 = (n : Int) := by omega
    simp only [one, bytesV, List.map_cons, List.map_nil, e2, e3]
  have HCS := Lib.hid hcs
  have HP := Lib.hid (fun v2 W (hW : Chg Nob w W) (h2 : BytesAt W v2 (one n)) => put_any v1 v2 l1 (one n) W (h1.nob hW) h2 hn)
  obtain ⟨a1, c1, rfl, _, _⟩ := h1
  generalize l1.length = n1 at *
  clear hcs hn8
  go_enter Tryd.func17, Tryd.ntmps17
  go_wp2_with fail
  refine (HP.out _ _ ((Chg.refl Nob w).alloc _) (bytes_lit (alloc_new w _) HCS.out 1 (Nat.le_refl _))).mono ?_
  rintro e w1 ⟨v, rfl, hown, hC⟩
  rw [World.size_alloc] at hown
  go_wp2_with fail
  go_ret
  exact ⟨v, rfl, own_base hown (Nat.le_succ _), ((Chg.refl Nob w).alloc _).trans hC⟩
theorem put4_any (v1 : Value) (l1 : List UInt8) (n : Nat) (w : World) (hn32 : n < 4294967296) (h1 : BytesAt w v1 l1) (hn : l1.length + 4 ≤ 140737488355328) :
    Calls Tryd.prog 20 #[v1, .int .u32 (n : Int)] w fun e w' => ∃ v, e = .returned v ∧ w'.ownsRow w.heap.size 5 1 v (l1 ++ four n).length (bytesV (l1 ++ four n)) ∧ Chg Nob w w' := by
  have k0 : (0 : Int) ≤ (n : Int) := by omega
  have k1 : (n : Int) ≤ 4294967295 := by omega
  have k2 : (n : Int) / 16777216 ≤ 255 := by omega
  have hcs : (#[.int .u8 ((n : Int) / 16777216), .int .u8 ((n : Int) / 65536 % 256), .int .u8 ((n : Int) / 256 % 256), .int .u8 ((n : Int) % 256)] : Array Value) = (bytesV (four n)).toArray := by
    have e1 := u8_of (n / 16777216)
    have e2 := u8_of (n / 65536)
    have e3 := u8_of (n / 256)
    have e4 := u8_of n
    have e5 : ((n / 16777216 : Nat) : Int) % 256 = (n : Int) / 16777216 := by omega
    have e6 : ((n / 65536 : Nat) : Int) = (n : Int) / 65536 := by omega
    have e7 : ((n / 256 : Nat) : Int) = (n : Int) / 256 := by omega
    simp only [four, bytesV, List.map_cons, List.map_nil, e1, e2, e3, e4, e5, e6, e7]
  have HCS := Lib.hid hcs
  have HP := Lib.hid (fun v2 W (hW : Chg Nob w W) (h2 : BytesAt W v2 (four n)) => put_any v1 v2 l1 (four n) W (h1.nob hW) h2 hn)
  obtain ⟨a1, c1, rfl, _, _⟩ := h1
  generalize l1.length = n1 at *
  clear hcs hn32
  go_enter Tryd.func20, Tryd.ntmps20
  go_wp2_with fail
  refine (HP.out _ _ ((Chg.refl Nob w).alloc _) (bytes_lit (alloc_new w _) HCS.out 4 (Nat.le_refl _))).mono ?_
  rintro e w1 ⟨v, rfl, hown, hC⟩
  rw [World.size_alloc] at hown
  go_wp2_with fail
  go_ret
  exact ⟨v, rfl, own_base hown (Nat.le_succ _), ((Chg.refl Nob w).alloc _).trans hC⟩
end Go.Proofs.YtnbehagdionhmaaDoor.Put
