/- Flags as a number. No program is named here. -/
import Derived.Test.YtgfgmaiddmohaaaDoorCurP
namespace Go.Proofs.YtgfgmaiddmohaaaDoor.Hd

/-- A header's parts. -/
structure H where
  id : Nat
  qr : Bool
  op : Nat
  aa : Bool
  tc : Bool
  rd : Bool
  ra : Bool
  z : Bool
  ad : Bool
  cd : Bool
  code : Nat

def bitB (f i : Nat) : Bool := f / 2 ^ i % 2 == 1

/-- The header of flags. -/
def H.of (id f : Nat) : H := ⟨id, bitB f 15, f / 2048 % 16, bitB f 10, bitB f 9, bitB f 8, bitB f 7, bitB f 6, bitB f 5, bitB f 4, f % 16⟩
def H.zero : H := ⟨0, false, 0, false, false, false, false, false, false, false, 0⟩

def place : Nat → Nat
  | 0 => 15 | 1 => 10 | 2 => 9 | 3 => 8 | 4 => 7 | 5 => 6 | 6 => 5 | _ => 4
def offs : Nat → Nat
  | 0 => 1 | 1 => 3 | 2 => 4 | 3 => 5 | 4 => 6 | 5 => 7 | 6 => 8 | _ => 9
def H.bit (h : H) : Nat → Bool
  | 0 => h.qr | 1 => h.aa | 2 => h.tc | 3 => h.rd | 4 => h.ra | 5 => h.z | 6 => h.ad | _ => h.cd

def b2n (b : Bool) : Nat := if b then 1 else 0
theorem b2n_le (b : Bool) : b2n b ≤ 1 := by cases b <;> simp [b2n]

/-- The flags, with the first k bits. -/
def H.flagsTo (h : H) : Nat → Nat
  | 0 => 2048 * h.op + h.code
  | k + 1 => h.flagsTo k + 2 ^ place k * b2n (h.bit k)
def H.flags (h : H) : Nat := h.flagsTo 8

theorem or_bit (x i : Nat) (h : x / 2 ^ i % 2 = 0) : x ||| 2 ^ i = x + 2 ^ i := by
  have hp : 0 < 2 ^ i := Nat.two_pow_pos i
  obtain ⟨a, b, hx, hb⟩ : ∃ a b, x = 2 ^ (i + 1) * a + b ∧ b < 2 ^ i := by
    refine ⟨x / 2 ^ i / 2, x % 2 ^ i, ?_, Nat.mod_lt _ hp⟩
    have h1 := Nat.div_add_mod x (2 ^ i)
    have h2 := Nat.div_add_mod (x / 2 ^ i) 2
    rw [h, Nat.add_zero] at h2
    rw [Nat.pow_succ, Nat.mul_assoc, h2]
    exact h1.symm
  have hb2 : b < 2 ^ (i + 1) := by rw [Nat.pow_succ]; omega
  have e1 := Nat.two_pow_add_eq_or_of_lt (i := i + 1) hb2 a
  have e2 := Nat.two_pow_add_eq_or_of_lt (i := i) hb 1
  rw [Nat.mul_one] at e2
  have hb3 : b + 2 ^ i < 2 ^ (i + 1) := by rw [Nat.pow_succ]; omega
  have e3 := Nat.two_pow_add_eq_or_of_lt (i := i + 1) hb3 a
  have e4 : b ||| 2 ^ i = b + 2 ^ i := by rw [Nat.or_comm, ← e2, Nat.add_comm]
  calc x ||| 2 ^ i = (2 ^ (i + 1) * a ||| b) ||| 2 ^ i := by rw [hx, e1]
    _ = 2 ^ (i + 1) * a ||| (b + 2 ^ i) := by rw [Nat.or_assoc, e4]
    _ = x + 2 ^ i := by rw [← e3, hx, Nat.add_assoc]

theorem or_op (x c : Nat) (hc : c < 16) : 2048 * x ||| c = 2048 * x + c := by
  have := Nat.two_pow_add_eq_or_of_lt (i := 11) (b := c) (by omega) x
  rw [show (2 : Nat) ^ 11 = 2048 from rfl] at this
  exact this.symm

theorem H.flagsTo_step (h : H) (ho : h.op < 16) (hc : h.code < 16) (k : Nat) (hk : k < 8) : h.flagsTo k < 65536 ∧ h.flagsTo k / 2 ^ place k % 2 = 0 := by
  have q0 := b2n_le (h.bit 0)
  have q1 := b2n_le (h.bit 1)
  have q2 := b2n_le (h.bit 2)
  have q3 := b2n_le (h.bit 3)
  have q4 := b2n_le (h.bit 4)
  have q5 := b2n_le (h.bit 5)
  have q6 := b2n_le (h.bit 6)
  match k, hk with
  | 0, _ => simp only [H.flagsTo, place]; omega
  | 1, _ => simp only [H.flagsTo, place]; omega
  | 2, _ => simp only [H.flagsTo, place]; omega
  | 3, _ => simp only [H.flagsTo, place]; omega
  | 4, _ => simp only [H.flagsTo, place]; omega
  | 5, _ => simp only [H.flagsTo, place]; omega
  | 6, _ => simp only [H.flagsTo, place]; omega
  | 7, _ => simp only [H.flagsTo, place]; omega

theorem H.flagsTo_or (h : H) (ho : h.op < 16) (hc : h.code < 16) (k : Nat) (hk : k < 8) (hb : h.bit k = true) : h.flagsTo k ||| 2 ^ place k = h.flagsTo (k + 1) := by
  rw [or_bit _ _ (h.flagsTo_step ho hc k hk).2, H.flagsTo, hb]
  simp [b2n]
theorem H.flagsTo_not (h : H) (k : Nat) (hb : h.bit k = false) : h.flagsTo (k + 1) = h.flagsTo k := by
  rw [H.flagsTo, hb]
  simp [b2n]
theorem H.flags_eq (h : H) : h.flags = 2048 * h.op + h.code + 32768 * b2n h.qr + 1024 * b2n h.aa + 512 * b2n h.tc + 256 * b2n h.rd + 128 * b2n h.ra + 64 * b2n h.z + 32 * b2n h.ad + 16 * b2n h.cd := by
  simp [H.flags, H.flagsTo, place, H.bit]
theorem H.flags_lt (h : H) (ho : h.op < 16) (hc : h.code < 16) : h.flags < 65536 := by
  have := b2n_le h.qr
  have := b2n_le h.aa
  have := b2n_le h.tc
  have := b2n_le h.rd
  have := b2n_le h.ra
  have := b2n_le h.z
  have := b2n_le h.ad
  have := b2n_le h.cd
  rw [h.flags_eq]
  omega
theorem b2n_bitB (f i : Nat) : b2n (bitB f i) = f / 2 ^ i % 2 := by
  unfold b2n bitB
  by_cases h : f / 2 ^ i % 2 = 1
  · simp [h]
  · have : f / 2 ^ i % 2 = 0 := by omega
    simp [this]
/-- Flags of From is the number. -/
theorem flags_of (id f : Nat) (hf : f < 65536) : (H.of id f).flags = f := by
  rw [H.flags_eq]
  simp only [H.of, b2n_bitB]
  omega
theorem bitB_b2n {f i : Nat} {b : Bool} (h : f / 2 ^ i % 2 = b2n b) : bitB f i = b := by
  unfold bitB
  rw [h]
  cases b <;> rfl
/-- From of Flags is the header, but for its ID. -/
theorem of_flags (h : H) (id : Nat) (ho : h.op < 16) (hc : h.code < 16) : H.of id h.flags = { h with id := id } := by
  have := b2n_le h.qr
  have := b2n_le h.aa
  have := b2n_le h.tc
  have := b2n_le h.rd
  have := b2n_le h.ra
  have := b2n_le h.z
  have := b2n_le h.ad
  have := b2n_le h.cd
  unfold H.of
  rw [bitB_b2n (b := h.qr) (by rw [h.flags_eq]; omega), bitB_b2n (b := h.aa) (by rw [h.flags_eq]; omega), bitB_b2n (b := h.tc) (by rw [h.flags_eq]; omega), bitB_b2n (b := h.rd) (by rw [h.flags_eq]; omega),
    bitB_b2n (b := h.ra) (by rw [h.flags_eq]; omega), bitB_b2n (b := h.z) (by rw [h.flags_eq]; omega), bitB_b2n (b := h.ad) (by rw [h.flags_eq]; omega), bitB_b2n (b := h.cd) (by rw [h.flags_eq]; omega),
    show h.flags / 2048 % 16 = h.op by rw [h.flags_eq]; omega, show h.flags % 16 = h.code by rw [h.flags_eq]; omega]
end Go.Proofs.YtgfgmaiddmohaaaDoor.Hd
