/- Numbers of bytes. No program is named here. -/
import Derived.Test.YtngmdefhdknggaaDoorHeap
import Derived.Laws.BitsAllLaws
namespace Go.Proofs.YtngmdefhdknggaaDoor.Cur
open Go.RowKit

/-- The byte at a place; behind the end: 0. -/
def byteAt (s : ByteArray) (i : Nat) : Nat := (s.data.toList.getD i 0).toNat
/-- The number of n bytes at a place. -/
def be (s : ByteArray) (k : Nat) : Nat → Nat
  | 0 => 0
  | n + 1 => 256 * be s k n + byteAt s (k + n)

theorem byteAt_lt (s : ByteArray) (i : Nat) : byteAt s i < 256 := UInt8.toNat_lt _
theorem be_lt (s : ByteArray) (k : Nat) : ∀ n, be s k n < 256 ^ n
  | 0 => by simp [be]
  | n + 1 => by
    have h1 := be_lt s k n
    have h2 := byteAt_lt s (k + n)
    rw [be, Nat.pow_succ]
    omega

theorem be_one (s : ByteArray) (k : Nat) : be s k 1 = byteAt s k := by simp [be]
theorem be_two (s : ByteArray) (k : Nat) : be s k 2 = 256 * byteAt s k + byteAt s (k + 1) := by simp [be]

theorem byteAt_extract (s : ByteArray) (k n i : Nat) (h : i < n) (_hk : k + n ≤ s.size) : byteAt (s.extract k (k + n)) i = byteAt s (k + i) := by
  unfold byteAt
  have hs : s.data.toList.length = s.size := by simp
  rw [ByteArray.data_extract, Array.toList_extract, List.extract_eq_take_drop, List.getD, List.getD, List.getElem?_take, if_pos (by omega), List.getElem?_drop]

theorem or_nat (x b : Nat) (hx : x % 256 = 0) (hb : b < 256) : x ||| b = x + b := by
  obtain ⟨y, rfl⟩ : ∃ y, x = 256 * y := ⟨x / 256, by omega⟩
  have := Nat.two_pow_add_eq_or_of_lt (i := 8) (b := b) (by omega) y
  rw [show (2 : Nat) ^ 8 = 256 from rfl] at this
  exact this.symm

/-- out << 8 | b, of 32 bits. -/
theorem step32 (x b : Nat) (hx : x < 16777216) (hb : b < 256) : bits .or .u32 ((x : Int) * 256) (b : Int) = ((256 * x + b : Nat) : Int) := by
  have e : ((x : Int) * 256) = ((256 * x : Nat) : Int) := by omega
  rw [e, u32_or_nat _ _ (by omega) (by omega), or_nat _ _ (by omega) hb]
end Go.Proofs.YtngmdefhdknggaaDoor.Cur
