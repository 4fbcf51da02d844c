/- Package cursor's put and Put2, walked. -/
import Derived.Test.YtngmdefhdknggaaDoorPut
namespace Go.Proofs.YtngmdefhdknggaaDoor.Put
open Go.RowKit

theorem put_any (v1 v2 : Value) (l1 l2 : List UInt8) (w : World) (h1 : BytesAt w v1 l1) (h2 : BytesAt w v2 l2) (hn : l1.length + l2.length ≤ 140737488355328) :
    Calls Tryd.prog 59 #[v1, v2] w fun e w' => ∃ v, e = .returned v ∧ w'.ownsRow w.heap.size 5 1 v (l1 ++ l2).length (bytesV (l1 ++ l2)) ∧ Chg Nob w w' := by
  have HC := Lib.hid (fun o => concat_two w.heap.size v1 v2 l1 l2 (w.alloc (.cells #[v1, v2] o)) (h1 := h1.nob ((Chg.refl Nob w).alloc _)) (h2 := h2.nob ((Chg.refl Nob w).alloc _)) (hn := hn))
  obtain ⟨a1, c1, rfl, _, _⟩ := h1
  obtain ⟨a2, c2, rfl, _, _⟩ := h2
  generalize l1.length = n1 at *
  generalize l2.length = n2 at *
  go_enter Tryd.func59, Tryd.ntmps59
  go_wp2_with fail
  refine (HC.out _ (alloc_new w _)).mono ?_
  rintro e w1 ⟨v, rfl, hown, hC⟩
  rw [World.size_alloc] at hown
  go_wp2_with fail
  go_ret
  exact ⟨v, rfl, own_base hown (Nat.le_succ _), ((Chg.refl Nob w).alloc _).trans hC⟩

def two (n : Nat) : List UInt8 := [UInt8.ofNat (n / 256), UInt8.ofNat n]

theorem u8_of (n : Nat) : ((UInt8.ofNat n).toNat : Int) = (n : Int) % 256 := by
  rw [UInt8.toNat_ofNat']
  omega

theorem bytes_lit {w : World} {g : Nat} {l : List UInt8} {cs : Array Value} (h : w.heap[g]? = some (.cells cs 5 (0, 0))) (e : cs = (bytesV l).toArray) (c : Nat) (hc : l.length ≤ c) : BytesAt w (.slice (some ⟨g, 0, none⟩) l.length c) l := by
  refine ⟨_, c, rfl, hc, .inr ⟨g, 0, rfl, lt_of_block h, fun i x hx => ?_⟩⟩
  rw [Nat.zero_add, cell_blk h, e, List.getElem?_toArray, bytesV_get, hx]
  rfl

theorem put2_any (v1 : Value) (l1 : List UInt8) (n : Nat) (w : World) (hn16 : n < 65536) (h1 : BytesAt w v1 l1) (hn : l1.length + 2 ≤ 140737488355328) :
    Calls Tryd.prog 44 #[v1, .int .u16 (n : Int)] w fun e w' => ∃ v, e = .returned v ∧ w'.ownsRow w.heap.size 5 1 v (l1 ++ two n).length (bytesV (l1 ++ two n)) ∧ Chg Nob w w' := by
  have k0 : (0 : Int) ≤ (n : Int) := by omega
  have k1 : (n : Int) ≤ 65535 := by omega
  have k2 : (n : Int) / 256 ≤ 255 := by omega
  have k3 : (0 : Int) ≤ (n : Int) / 256 := by omega
  have hcs : (#[.int .u8 ((n : Int) / 256), .int .u8 ((n : Int) % 256)] : Array Value) = (bytesV (two n)).toArray := by
    have e1 := u8_of (n / 256)
    have e2 := u8_of n
    have e3 : ((n / 256 : Nat) : Int) % 256 = (n : Int) / 256 := by omega
    simp only [two, bytesV, List.map_cons, List.map_nil, e1, e2, e3]
  have HCS := Lib.hid hcs
  have HP := Lib.hid (fun v2 W (hW : Chg Nob w W) (h2 : BytesAt W v2 (two n)) => put_any v1 v2 l1 (two n) W (h1.nob hW) h2 hn)
  obtain ⟨a1, c1, rfl, _, _⟩ := h1
  generalize l1.length = n1 at *
  clear hcs hn16
  go_enter Tryd.func44, Tryd.ntmps44
  go_wp2_with fail
  refine (HP.out _ _ ((Chg.refl Nob w).alloc _) (bytes_lit (alloc_new w _) HCS.out 2 (Nat.le_refl _))).mono ?_
  rintro e w1 ⟨v, rfl, hown, hC⟩
  rw [World.size_alloc] at hown
  go_wp2_with fail
  go_ret
  exact ⟨v, rfl, own_base hown (Nat.le_succ _), ((Chg.refl Nob w).alloc _).trans hC⟩
end Go.Proofs.YtngmdefhdknggaaDoor.Put
