/- What is put, one behind the other, is read so: laws of bytes. -/
import Derived.Test.YtnbehagdionhmaaDoorPutsB
namespace Go.Proofs.YtnbehagdionhmaaDoor.Cur
open Go.RowKit Go.Proofs.YtnbehagdionhmaaDoor.Put

/-- The bytes that the number at place i is put as; the number that is read there; how many bytes these are. -/
def piece (i n : Nat) : List UInt8 := if i % 3 = 0 then one (n % 256) else if i % 3 = 1 then two (n % 65536) else four n

/-- The first j numbers, put. -/
def encUpto (l : List Nat) : Nat → List UInt8
  | 0 => []
  | j + 1 => encUpto l j ++ piece j (l.getD j 0)

theorem enc_more (l : List Nat) (j : Nat) : ∀ m, j < m → ∃ r, encUpto l m = encUpto l j ++ (piece j (l.getD j 0) ++ r)
  | 0, h => by omega
  | m + 1, h => by
    by_cases hj : j = m
    · subst hj
      exact ⟨[], by simp [encUpto]⟩
    · obtain ⟨r, hr⟩ := enc_more l j m (by omega)
      exact ⟨r ++ piece m (l.getD m 0), by rw [encUpto, hr]; simp⟩

theorem piece_le (i n : Nat) : (piece i n).length ≤ 4 := by
  unfold piece
  split
  · simp [one]
  · split
    · simp [two]
    · simp [four]

theorem enc_le (l : List Nat) : ∀ j, (encUpto l j).length ≤ 4 * j
  | 0 => by simp [encUpto]
  | j + 1 => by
    have h1 := enc_le l j
    have h2 := piece_le j (l.getD j 0)
    rw [encUpto, List.length_append]
    omega

theorem byteAt_mid (a q : List UInt8) (i : Nat) : byteAt ⟨(a ++ q).toArray⟩ (a.length + i) = (q.getD i 0).toNat := by
  unfold byteAt
  rw [List.getD, List.getD, List.getElem?_append_right (by omega)]
  simp

theorem be4 (s : ByteArray) (k : Nat) : be s k 4 = 16777216 * byteAt s k + 65536 * byteAt s (k + 1) + 256 * byteAt s (k + 2) + byteAt s (k + 3) := by
  simp only [be, Nat.add_zero]
  omega

theorem mid_one (a r : List UInt8) (n : Nat) (h : n < 256) : be ⟨(a ++ (one n ++ r)).toArray⟩ a.length 1 = n := by
  have h0 := byteAt_mid a (one n ++ r) 0
  rw [Nat.add_zero] at h0
  rw [be_one, h0]
  simp [one]
  omega
theorem mid_two (a r : List UInt8) (n : Nat) (h : n < 65536) : be ⟨(a ++ (two n ++ r)).toArray⟩ a.length 2 = n := by
  have h0 := byteAt_mid a (two n ++ r) 0
  have h1 := byteAt_mid a (two n ++ r) 1
  rw [Nat.add_zero] at h0
  rw [be_two, h0, h1]
  simp [two]
  omega
theorem mid_four (a r : List UInt8) (n : Nat) (h : n < 4294967296) : be ⟨(a ++ (four n ++ r)).toArray⟩ a.length 4 = n := by
  have h0 := byteAt_mid a (four n ++ r) 0
  have h1 := byteAt_mid a (four n ++ r) 1
  have h2 := byteAt_mid a (four n ++ r) 2
  have h3 := byteAt_mid a (four n ++ r) 3
  rw [Nat.add_zero] at h0
  rw [be4, h0, h1, h2, h3]
  simp [four]
  omega

/-- A slice of numbers of 32 bits reads as a list. -/
def NumsAt (w : World) (v : Value) (l : List Nat) : Prop :=
  ∃ a c, v = .slice a l.length c ∧ l.length ≤ 9223372036854775807 ∧ (∀ x ∈ l, x < 4294967296) ∧ (l = [] ∨ ∃ b off, a = some ⟨b, off, none⟩ ∧ b < w.heap.size ∧ ∀ (i x : Nat), l[i]? = some x → w.cell? ⟨b, off + i, none⟩ = some (.int .u32 (x : Int)))
end Go.Proofs.YtnbehagdionhmaaDoor.Cur
