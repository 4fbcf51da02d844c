/- hustingsref02.Put, walked: a number of so many bytes. -/
import Derived.Test.YtgfgmaiddmohaaaDoorHeadW
namespace Go.Proofs.YtgfgmaiddmohaaaDoor.Ed
open Go.RowKit Go.Proofs.YtgfgmaiddmohaaaDoor.Put Go.Proofs.YtgfgmaiddmohaaaDoor.Hd

theorem rstr_app (l m : List UInt8) : (⟨l.toArray⟩ : ByteArray) ++ ⟨m.toArray⟩ = ⟨(l ++ m).toArray⟩ := by
  apply ByteArray.ext
  simp [ByteArray.data_append]

/-- string of a slice of one byte, just made. -/
theorem conv_one (n : Nat) (W : World) : (convert 49 9 (.slice (some ⟨W.heap.size, 0, none⟩) 1 1)).run Tryd.prog (W.alloc (.cells #[.int .u8 ((n : Int) % 256)] 5)) = .ok (.string ⟨#[UInt8.ofNat n]⟩) (W.alloc (.cells #[.int .u8 ((n : Int) % 256)] 5)) := by
  have e2 := u8_of n
  have hcs : (#[.int .u8 ((n : Int) % 256)] : Array Value) = (bytesV [UInt8.ofNat n]).toArray := by
    simp only [bytesV, List.map_cons, List.map_nil, e2]
  exact conv_bytes (bytes_lit (alloc_new W _) hcs 1 (Nat.le_refl _))

/-- The last j bytes of a number. -/
def low (n : Nat) : Nat → List UInt8
  | 0 => []
  | j + 1 => UInt8.ofNat (n / 256 ^ j) :: low n j
theorem low_len (n : Nat) : ∀ j, (low n j).length = j
  | 0 => rfl
  | j + 1 => by rw [low, List.length_cons, low_len n j]
theorem low_two (n : Nat) : low n 2 = two n := by simp [low, two]

set_option maxRecDepth 100000 in
set_option maxHeartbeats 4000000 in
theorem rput_any (w : World) (n k : Nat) (hn : n < 4294967296) (hk : k ≤ 8) :
    Calls Tryd.prog 45 #[.int .u64 (n : Int), .int .i64 (k : Int)] w fun e w' => e = .returned (.string ⟨(low n k).toArray⟩) ∧ Chg Nob w w' := by
  have k0 : (0 : Int) ≤ (k : Int) := by omega
  have h1 := conv_one
  go_enter Tryd.func45, Tryd.ntmps45
  go_wp2_with fail
  go_loopw [0, 5, 6] (fun m v i wx => ∃ j : Nat, j ≤ k ∧ i = .int .i64 (j : Int) ∧ m = .int .u64 ((n / 256 ^ j : Nat) : Int) ∧ v = .string ⟨(low n j).toArray⟩ ∧ Chg Nob w wx) (fun _ _ i _ => 8 - (intOf i).toNat)
  case atStart => exact ⟨0, by omega, rfl, by simp, rfl, Chg.refl _ _⟩
  case round =>
    obtain ⟨j, hj, rfl, rfl, rfl, hC⟩ := hrel
    by_cases hjk : j < k
    · have hjk1 : (j : Int) < (k : Int) := by omega
      have j0 : (0 : Int) ≤ (j : Int) := by omega
      have hm : n / 256 ^ j ≤ n := Nat.div_le_self _ _
      have hnext : n / 256 ^ (j + 1) = n / 256 ^ j / 256 := by rw [Nat.pow_succ, Nat.div_div_eq_div_mul]
      have hlow : (⟨(low n (j + 1)).toArray⟩ : ByteArray) = ⟨#[UInt8.ofNat (n / 256 ^ j)]⟩ ++ ⟨(low n j).toArray⟩ := (rstr_app [_] _).symm
      have hsz : (⟨(low n j).toArray⟩ : ByteArray).size = j := by
        show (low n j).toArray.size = j
        simp [low_len]
      have hlim : ¬ 9223372036854775807 < (⟨#[UInt8.ofNat (n / 256 ^ j)]⟩ : ByteArray).size + (⟨(low n j).toArray⟩ : ByteArray).size := by
        rw [hsz]
        show ¬ _ < 1 + j
        omega
      generalize n / 256 ^ j = m at *
      generalize (⟨(low n j).toArray⟩ : ByteArray) = s at *
      have HN := Lib.hid hnext
      have HL := Lib.hid hlow
      have m0 : (0 : Int) ≤ (m : Int) := by omega
      have m1 : (m : Int) ≤ 4294967295 := by omega
      clear hnext hlow hsz
      go_wp2_with fail
      exact ⟨⟨j + 1, by omega, rfl, by rw [HN.out]; rfl, by rw [HL.out], hC.alloc _⟩, by simp [intOf]; omega⟩
    · have hjk1 : ¬ (j : Int) < (k : Int) := by omega
      obtain rfl : j = k := by omega
      go_wp2_with fail
      go_ret
      exact ⟨rfl, hC⟩
end Go.Proofs.YtgfgmaiddmohaaaDoor.Ed
