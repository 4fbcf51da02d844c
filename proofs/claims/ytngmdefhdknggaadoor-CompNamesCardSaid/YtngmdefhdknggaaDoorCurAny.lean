/- Package cursor's reading functions, each by one contract: what is there, or what is refused. -/
import Derived.Test.YtngmdefhdknggaaDoorCurAw
namespace Go.Proofs.YtngmdefhdknggaaDoor.Cur
open Go.RowKit

/-- A number of n bytes asked at k: the number, the error, the place behind. -/
def Got (s : ByteArray) (k n : Nat) (x : Nat) (e : Int) (k' : Nat) : Prop := (k + n ≤ s.size ∧ x = be s k n ∧ e = 0 ∧ k' = k + n) ∨ (s.size < k + n ∧ x = 0 ∧ e = 4 ∧ k' = k)
theorem Got.lt {s : ByteArray} {k n x k' : Nat} {e : Int} (h : Got s k n x e k') : x < 256 ^ n := by
  rcases h with ⟨_, h, _⟩ | ⟨_, h, _⟩
  · rw [h]; exact be_lt s k n
  · rw [h]; exact Nat.pow_pos (by omega)

theorem byte_any (w : World) (b : Nat) (s : ByteArray) (k : Nat) (hg : As.Laid w) (h : At w b s k) :
    Calls Tryd.prog 41 #[.pointer (some ⟨b, 0, none⟩)] w fun r w' => ∃ (x : Nat) (e : Int) (k' : Nat), r = .returned (.tuple #[.int .u8 (x : Int), .int .i64 e]) ∧ Got s k 1 x e k' ∧ At w' b s k' ∧ Chg (Only b) w w' := by
  by_cases hk : k + 1 ≤ s.size
  · exact (byte_ok w b s k h hk).mono fun r w' ⟨h1, h2, h3⟩ => ⟨_, _, _, h1, .inl ⟨hk, rfl, rfl, rfl⟩, h2, h3⟩
  · exact (byte_no w b s k hg h (by omega)).mono fun r w' ⟨h1, h3⟩ => ⟨0, 4, k, h1, .inr ⟨by omega, rfl, rfl, rfl⟩, h.nob h3, h3.mono (fun _ _ h => h.elim)⟩


/-- Bytes asked at k. -/
def Took (s : ByteArray) (k : Nat) (n : Int) (t : ByteArray) (e : Int) (k' : Nat) : Prop :=
  (n < 0 ∧ t = ⟨#[]⟩ ∧ e = 1 ∧ k' = k) ∨ (0 ≤ n ∧ k + n.toNat ≤ s.size ∧ t = s.extract k (k + n.toNat) ∧ e = 0 ∧ k' = k + n.toNat) ∨ (0 ≤ n ∧ s.size < k + n.toNat ∧ t = ⟨#[]⟩ ∧ e = 4 ∧ k' = k)
theorem take_any (w : World) (b : Nat) (s : ByteArray) (k : Nat) (n : Int) (hg : As.Laid w) (h : At w b s k) :
    Calls Tryd.prog 43 #[.pointer (some ⟨b, 0, none⟩), .int .i64 n] w fun r w' => ∃ (t : ByteArray) (e : Int) (k' : Nat), r = .returned (.tuple #[.string t, .int .i64 e]) ∧ Took s k n t e k' ∧ At w' b s k' ∧ Chg (Only b) w w' := by
  by_cases hn : n < 0
  · exact (take_no w _ n 1 hg (next_neg w b n hn)).mono fun r w' ⟨h1, h3⟩ => ⟨_, 1, k, h1, .inl ⟨hn, rfl, rfl, rfl⟩, h.nob h3, h3.mono (fun _ _ h => h.elim)⟩
  · obtain ⟨m, rfl⟩ := Int.eq_ofNat_of_zero_le (show 0 ≤ n by omega)
    by_cases hk : k + m ≤ s.size
    · exact (take_ok w b s k m h hk).mono fun r w' ⟨h1, h2, h3⟩ => ⟨_, 0, k + m, h1, .inr (.inl ⟨by omega, hk, rfl, rfl, rfl⟩), h2, h3⟩
    · exact (take_no w _ (m : Int) 4 hg (next_short w b s k (m : Int) h (by omega) (by omega))).mono fun r w' ⟨h1, h3⟩ => ⟨_, 4, k, h1, .inr (.inr ⟨by omega, by simp only [Int.toNat_natCast]; omega, rfl, rfl, rfl⟩), h.nob h3, h3.mono (fun _ _ h => h.elim)⟩

/-- A place asked for. -/
def Sought (s : ByteArray) (k : Nat) (j : Int) (e : Int) (k' : Nat) : Prop := (0 ≤ j ∧ j ≤ s.size ∧ e = 0 ∧ k' = j.toNat) ∨ ((j < 0 ∨ (s.size : Int) < j) ∧ e = 1 ∧ k' = k)
theorem seek_any (w : World) (b : Nat) (s : ByteArray) (k : Nat) (j : Int) (h : At w b s k) :
    Calls Tryd.prog 40 #[.pointer (some ⟨b, 0, none⟩), .int .i64 j] w fun r w' => ∃ (e : Int) (k' : Nat), r = .returned (.int .i64 e) ∧ Sought s k j e k' ∧ At w' b s k' ∧ Chg (Only b) w w' := by
  by_cases hj : 0 ≤ j ∧ j ≤ (s.size : Int)
  · obtain ⟨m, rfl⟩ := Int.eq_ofNat_of_zero_le hj.1
    exact (seek_ok w b s k m h (by omega)).mono fun r w' ⟨h1, h2, h3⟩ => ⟨0, m, h1, .inl ⟨hj.1, hj.2, rfl, rfl⟩, h2, h3⟩
  · exact (seek_no w b s k j h (by omega)).mono fun r w' ⟨h1, h3⟩ => ⟨1, k, h1, .inr ⟨by omega, rfl, rfl⟩, h3 ▸ h, h3 ▸ Chg.refl _ _⟩
end Go.Proofs.YtngmdefhdknggaaDoor.Cur
