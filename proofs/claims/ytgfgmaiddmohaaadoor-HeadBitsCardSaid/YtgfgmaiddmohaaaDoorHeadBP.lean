/- One bit of the flags turned: one part alone is another one. No program is named here. -/
import Derived.Test.YtgfgmaiddmohaaaDoorHeadFP
namespace Go.Proofs.YtgfgmaiddmohaaaDoor.Hd

theorem xor_zero (x i : Nat) (h : x / 2 ^ i % 2 = 0) : x ^^^ 2 ^ i = x + 2 ^ i := by
  rw [← or_bit x i h]
  apply Nat.eq_of_testBit_eq
  intro j
  rw [Nat.testBit_xor, Nat.testBit_or, Nat.testBit_two_pow]
  by_cases e : i = j
  · subst e
    have : x.testBit i = false := by rw [Nat.testBit_eq_decide_div_mod_eq, h]; rfl
    simp [this]
  · simp [e]
theorem xor_one (x i : Nat) (h : x / 2 ^ i % 2 = 1) : x ^^^ 2 ^ i = x - 2 ^ i := by
  have hp : 0 < 2 ^ i := Nat.two_pow_pos i
  have hle : 2 ^ i ≤ x := by
    rcases Nat.lt_or_ge x (2 ^ i) with h1 | h1
    · rw [Nat.div_eq_of_lt h1] at h; cases h
    · exact h1
  have h1 : (x - 2 ^ i) / 2 ^ i % 2 = 0 := by
    have h2 := Nat.sub_mul_div x (2 ^ i) 1
    rw [Nat.mul_one] at h2
    rw [h2]
    omega
  have h3 := xor_zero (x - 2 ^ i) i h1
  have h4 : x - 2 ^ i + 2 ^ i = x := by omega
  rw [h4] at h3
  generalize x - 2 ^ i = y at *
  rw [← h3, Nat.xor_assoc, Nat.xor_self, Nat.xor_zero]

/-- In which parts two headers differ. -/
def diffs (p q : H) : List Bool := [(p.id : Int) != q.id, p.qr != q.qr, (p.op : Int) != q.op, p.aa != q.aa, p.tc != q.tc, p.rd != q.rd, p.ra != q.ra, p.z != q.z, p.ad != q.ad, p.cd != q.cd, (p.code : Int) != q.code]
def trues (l : List Bool) : Nat := (l.filter id).length

theorem bitB_eq (f i : Nat) : bitB f i = decide (f / 2 ^ i % 2 = 1) := by
  unfold bitB
  rw [Bool.eq_iff_iff]
  simp
theorem same_bit {f g i : Nat} (h : g / 2 ^ i % 2 = f / 2 ^ i % 2) : (bitB f i != bitB g i) = false := by
  rw [bitB_eq, bitB_eq, h]
  simp
theorem turned_bit {f g i : Nat} (h : g / 2 ^ i % 2 + f / 2 ^ i % 2 = 1) : (bitB f i != bitB g i) = true := by
  rw [bitB_eq, bitB_eq]
  have : (f / 2 ^ i % 2 = 1 ∧ g / 2 ^ i % 2 = 0) ∨ (f / 2 ^ i % 2 = 0 ∧ g / 2 ^ i % 2 = 1) := by omega
  rcases this with ⟨h1, h2⟩ | ⟨h1, h2⟩ <;> simp [h1, h2]
theorem same_num {x y : Nat} (h : x = y) : ((x : Int) != (y : Int)) = false := by subst h; simp
theorem turned_num {x y : Nat} (h : x ≠ y) : ((x : Int) != (y : Int)) = true := by
  simp
  omega

/-- f with a bit turned. -/
def Turned (f g i : Nat) : Prop := (f / 2 ^ i % 2 = 0 ∧ g = f + 2 ^ i) ∨ (f / 2 ^ i % 2 = 1 ∧ g = f - 2 ^ i ∧ 2 ^ i ≤ f)
theorem turned_0 (f g : Nat) (hf : f < 65536) (hgd : Turned f g 0) : diffs (H.of 0 f) (H.of 0 g) = [false, false, false, false, false, false, false, false, false, false, true] := by
  unfold Turned at hgd
  unfold diffs H.of
  simp only
  rw [same_num rfl, same_bit (f := f) (g := g) (i := 15) (by omega), same_num (x := f / 2048 % 16) (y := g / 2048 % 16) (by omega), same_bit (f := f) (g := g) (i := 10) (by omega), same_bit (f := f) (g := g) (i := 9) (by omega), same_bit (f := f) (g := g) (i := 8) (by omega), same_bit (f := f) (g := g) (i := 7) (by omega), same_bit (f := f) (g := g) (i := 6) (by omega), same_bit (f := f) (g := g) (i := 5) (by omega), same_bit (f := f) (g := g) (i := 4) (by omega), turned_num (x := f % 16) (y := g % 16) (by omega)]
theorem turned_1 (f g : Nat) (hf : f < 65536) (hgd : Turned f g 1) : diffs (H.of 0 f) (H.of 0 g) = [false, false, false, false, false, false, false, false, false, false, true] := by
  unfold Turned at hgd
  unfold diffs H.of
  simp only
  rw [same_num rfl, same_bit (f := f) (g := g) (i := 15) (by omega), same_num (x := f / 2048 % 16) (y := g / 2048 % 16) (by omega), same_bit (f := f) (g := g) (i := 10) (by omega), same_bit (f := f) (g := g) (i := 9) (by omega), same_bit (f := f) (g := g) (i := 8) (by omega), same_bit (f := f) (g := g) (i := 7) (by omega), same_bit (f := f) (g := g) (i := 6) (by omega), same_bit (f := f) (g := g) (i := 5) (by omega), same_bit (f := f) (g := g) (i := 4) (by omega), turned_num (x := f % 16) (y := g % 16) (by omega)]
theorem turned_2 (f g : Nat) (hf : f < 65536) (hgd : Turned f g 2) : diffs (H.of 0 f) (H.of 0 g) = [false, false, false, false, false, false, false, false, false, false, true] := by
  unfold Turned at hgd
  unfold diffs H.of
  simp only
  rw [same_num rfl, same_bit (f := f) (g := g) (i := 15) (by omega), same_num (x := f / 2048 % 16) (y := g / 2048 % 16) (by omega), same_bit (f := f) (g := g) (i := 10) (by omega), same_bit (f := f) (g := g) (i := 9) (by omega), same_bit (f := f) (g := g) (i := 8) (by omega), same_bit (f := f) (g := g) (i := 7) (by omega), same_bit (f := f) (g := g) (i := 6) (by omega), same_bit (f := f) (g := g) (i := 5) (by omega), same_bit (f := f) (g := g) (i := 4) (by omega), turned_num (x := f % 16) (y := g % 16) (by omega)]
theorem turned_3 (f g : Nat) (hf : f < 65536) (hgd : Turned f g 3) : diffs (H.of 0 f) (H.of 0 g) = [false, false, false, false, false, false, false, false, false, false, true] := by
  unfold Turned at hgd
  unfold diffs H.of
  simp only
  rw [same_num rfl, same_bit (f := f) (g := g) (i := 15) (by omega), same_num (x := f / 2048 % 16) (y := g / 2048 % 16) (by omega), same_bit (f := f) (g := g) (i := 10) (by omega), same_bit (f := f) (g := g) (i := 9) (by omega), same_bit (f := f) (g := g) (i := 8) (by omega), same_bit (f := f) (g := g) (i := 7) (by omega), same_bit (f := f) (g := g) (i := 6) (by omega), same_bit (f := f) (g := g) (i := 5) (by omega), same_bit (f := f) (g := g) (i := 4) (by omega), turned_num (x := f % 16) (y := g % 16) (by omega)]
theorem turned_4 (f g : Nat) (hf : f < 65536) (hgd : Turned f g 4) : diffs (H.of 0 f) (H.of 0 g) = [false, false, false, false, false, false, false, false, false, true, false] := by
  unfold Turned at hgd
  unfold diffs H.of
  simp only
  rw [same_num rfl, same_bit (f := f) (g := g) (i := 15) (by omega), same_num (x := f / 2048 % 16) (y := g / 2048 % 16) (by omega), same_bit (f := f) (g := g) (i := 10) (by omega), same_bit (f := f) (g := g) (i := 9) (by omega), same_bit (f := f) (g := g) (i := 8) (by omega), same_bit (f := f) (g := g) (i := 7) (by omega), same_bit (f := f) (g := g) (i := 6) (by omega), same_bit (f := f) (g := g) (i := 5) (by omega), turned_bit (f := f) (g := g) (i := 4) (by omega), same_num (x := f % 16) (y := g % 16) (by omega)]
theorem turned_5 (f g : Nat) (hf : f < 65536) (hgd : Turned f g 5) : diffs (H.of 0 f) (H.of 0 g) = [false, false, false, false, false, false, false, false, true, false, false] := by
  unfold Turned at hgd
  unfold diffs H.of
  simp only
  rw [same_num rfl, same_bit (f := f) (g := g) (i := 15) (by omega), same_num (x := f / 2048 % 16) (y := g / 2048 % 16) (by omega), same_bit (f := f) (g := g) (i := 10) (by omega), same_bit (f := f) (g := g) (i := 9) (by omega), same_bit (f := f) (g := g) (i := 8) (by omega), same_bit (f := f) (g := g) (i := 7) (by omega), same_bit (f := f) (g := g) (i := 6) (by omega), turned_bit (f := f) (g := g) (i := 5) (by omega), same_bit (f := f) (g := g) (i := 4) (by omega), same_num (x := f % 16) (y := g % 16) (by omega)]
theorem turned_6 (f g : Nat) (hf : f < 65536) (hgd : Turned f g 6) : diffs (H.of 0 f) (H.of 0 g) = [false, false, false, false, false, false, false, true, false, false, false] := by
  unfold Turned at hgd
  unfold diffs H.of
  simp only
  rw [same_num rfl, same_bit (f := f) (g := g) (i := 15) (by omega), same_num (x := f / 2048 % 16) (y := g / 2048 % 16) (by omega), same_bit (f := f) (g := g) (i := 10) (by omega), same_bit (f := f) (g := g) (i := 9) (by omega), same_bit (f := f) (g := g) (i := 8) (by omega), same_bit (f := f) (g := g) (i := 7) (by omega), turned_bit (f := f) (g := g) (i := 6) (by omega), same_bit (f := f) (g := g) (i := 5) (by omega), same_bit (f := f) (g := g) (i := 4) (by omega), same_num (x := f % 16) (y := g % 16) (by omega)]
theorem turned_7 (f g : Nat) (hf : f < 65536) (hgd : Turned f g 7) : diffs (H.of 0 f) (H.of 0 g) = [false, false, false, false, false, false, true, false, false, false, false] := by
  unfold Turned at hgd
  unfold diffs H.of
  simp only
  rw [same_num rfl, same_bit (f := f) (g := g) (i := 15) (by omega), same_num (x := f / 2048 % 16) (y := g / 2048 % 16) (by omega), same_bit (f := f) (g := g) (i := 10) (by omega), same_bit (f := f) (g := g) (i := 9) (by omega), same_bit (f := f) (g := g) (i := 8) (by omega), turned_bit (f := f) (g := g) (i := 7) (by omega), same_bit (f := f) (g := g) (i := 6) (by omega), same_bit (f := f) (g := g) (i := 5) (by omega), same_bit (f := f) (g := g) (i := 4) (by omega), same_num (x := f % 16) (y := g % 16) (by omega)]
theorem turned_8 (f g : Nat) (hf : f < 65536) (hgd : Turned f g 8) : diffs (H.of 0 f) (H.of 0 g) = [false, false, false, false, false, true, false, false, false, false, false] := by
  unfold Turned at hgd
  unfold diffs H.of
  simp only
  rw [same_num rfl, same_bit (f := f) (g := g) (i := 15) (by omega), same_num (x := f / 2048 % 16) (y := g / 2048 % 16) (by omega), same_bit (f := f) (g := g) (i := 10) (by omega), same_bit (f := f) (g := g) (i := 9) (by omega), turned_bit (f := f) (g := g) (i := 8) (by omega), same_bit (f := f) (g := g) (i := 7) (by omega), same_bit (f := f) (g := g) (i := 6) (by omega), same_bit (f := f) (g := g) (i := 5) (by omega), same_bit (f := f) (g := g) (i := 4) (by omega), same_num (x := f % 16) (y := g % 16) (by omega)]
theorem turned_9 (f g : Nat) (hf : f < 65536) (hgd : Turned f g 9) : diffs (H.of 0 f) (H.of 0 g) = [false, false, false, false, true, false, false, false, false, false, false] := by
  unfold Turned at hgd
  unfold diffs H.of
  simp only
  rw [same_num rfl, same_bit (f := f) (g := g) (i := 15) (by omega), same_num (x := f / 2048 % 16) (y := g / 2048 % 16) (by omega), same_bit (f := f) (g := g) (i := 10) (by omega), turned_bit (f := f) (g := g) (i := 9) (by omega), same_bit (f := f) (g := g) (i := 8) (by omega), same_bit (f := f) (g := g) (i := 7) (by omega), same_bit (f := f) (g := g) (i := 6) (by omega), same_bit (f := f) (g := g) (i := 5) (by omega), same_bit (f := f) (g := g) (i := 4) (by omega), same_num (x := f % 16) (y := g % 16) (by omega)]
set_option maxHeartbeats 2000000 in
theorem turned_10 (f g : Nat) (hf : f < 65536) (hgd : Turned f g 10) : diffs (H.of 0 f) (H.of 0 g) = [false, false, false, true, false, false, false, false, false, false, false] := by
  unfold Turned at hgd
  unfold diffs H.of
  simp only
  rw [same_num rfl, same_bit (f := f) (g := g) (i := 15) (by omega), same_num (x := f / 2048 % 16) (y := g / 2048 % 16) (by omega), turned_bit (f := f) (g := g) (i := 10) (by omega), same_bit (f := f) (g := g) (i := 9) (by omega), same_bit (f := f) (g := g) (i := 8) (by omega), same_bit (f := f) (g := g) (i := 7) (by omega), same_bit (f := f) (g := g) (i := 6) (by omega), same_bit (f := f) (g := g) (i := 5) (by omega), same_bit (f := f) (g := g) (i := 4) (by omega), same_num (x := f % 16) (y := g % 16) (by omega)]
set_option maxHeartbeats 2000000 in
theorem turned_11 (f g : Nat) (hf : f < 65536) (hgd : Turned f g 11) : diffs (H.of 0 f) (H.of 0 g) = [false, false, true, false, false, false, false, false, false, false, false] := by
  unfold Turned at hgd
  unfold diffs H.of
  simp only
  rw [same_num rfl, same_bit (f := f) (g := g) (i := 15) (by omega), turned_num (x := f / 2048 % 16) (y := g / 2048 % 16) (by omega), same_bit (f := f) (g := g) (i := 10) (by omega), same_bit (f := f) (g := g) (i := 9) (by omega), same_bit (f := f) (g := g) (i := 8) (by omega), same_bit (f := f) (g := g) (i := 7) (by omega), same_bit (f := f) (g := g) (i := 6) (by omega), same_bit (f := f) (g := g) (i := 5) (by omega), same_bit (f := f) (g := g) (i := 4) (by omega), same_num (x := f % 16) (y := g % 16) (by omega)]
set_option maxHeartbeats 2000000 in
theorem turned_12 (f g : Nat) (hf : f < 65536) (hgd : Turned f g 12) : diffs (H.of 0 f) (H.of 0 g) = [false, false, true, false, false, false, false, false, false, false, false] := by
  unfold Turned at hgd
  unfold diffs H.of
  simp only
  rw [same_num rfl, same_bit (f := f) (g := g) (i := 15) (by omega), turned_num (x := f / 2048 % 16) (y := g / 2048 % 16) (by omega), same_bit (f := f) (g := g) (i := 10) (by omega), same_bit (f := f) (g := g) (i := 9) (by omega), same_bit (f := f) (g := g) (i := 8) (by omega), same_bit (f := f) (g := g) (i := 7) (by omega), same_bit (f := f) (g := g) (i := 6) (by omega), same_bit (f := f) (g := g) (i := 5) (by omega), same_bit (f := f) (g := g) (i := 4) (by omega), same_num (x := f % 16) (y := g % 16) (by omega)]
set_option maxHeartbeats 2000000 in
theorem turned_13 (f g : Nat) (hf : f < 65536) (hgd : Turned f g 13) : diffs (H.of 0 f) (H.of 0 g) = [false, false, true, false, false, false, false, false, false, false, false] := by
  unfold Turned at hgd
  unfold diffs H.of
  simp only
  rw [same_num rfl, same_bit (f := f) (g := g) (i := 15) (by omega), turned_num (x := f / 2048 % 16) (y := g / 2048 % 16) (by omega), same_bit (f := f) (g := g) (i := 10) (by omega), same_bit (f := f) (g := g) (i := 9) (by omega), same_bit (f := f) (g := g) (i := 8) (by omega), same_bit (f := f) (g := g) (i := 7) (by omega), same_bit (f := f) (g := g) (i := 6) (by omega), same_bit (f := f) (g := g) (i := 5) (by omega), same_bit (f := f) (g := g) (i := 4) (by omega), same_num (x := f % 16) (y := g % 16) (by omega)]
set_option maxHeartbeats 2000000 in
theorem turned_14 (f g : Nat) (hf : f < 65536) (hgd : Turned f g 14) : diffs (H.of 0 f) (H.of 0 g) = [false, false, true, false, false, false, false, false, false, false, false] := by
  unfold Turned at hgd
  unfold diffs H.of
  simp only
  rw [same_num rfl, same_bit (f := f) (g := g) (i := 15) (by omega), turned_num (x := f / 2048 % 16) (y := g / 2048 % 16) (by omega), same_bit (f := f) (g := g) (i := 10) (by omega), same_bit (f := f) (g := g) (i := 9) (by omega), same_bit (f := f) (g := g) (i := 8) (by omega), same_bit (f := f) (g := g) (i := 7) (by omega), same_bit (f := f) (g := g) (i := 6) (by omega), same_bit (f := f) (g := g) (i := 5) (by omega), same_bit (f := f) (g := g) (i := 4) (by omega), same_num (x := f % 16) (y := g % 16) (by omega)]
set_option maxHeartbeats 2000000 in
theorem turned_15 (f g : Nat) (hf : f < 65536) (hgd : Turned f g 15) : diffs (H.of 0 f) (H.of 0 g) = [false, true, false, false, false, false, false, false, false, false, false] := by
  unfold Turned at hgd
  unfold diffs H.of
  simp only
  rw [same_num rfl, turned_bit (f := f) (g := g) (i := 15) (by omega), same_num (x := f / 2048 % 16) (y := g / 2048 % 16) (by omega), same_bit (f := f) (g := g) (i := 10) (by omega), same_bit (f := f) (g := g) (i := 9) (by omega), same_bit (f := f) (g := g) (i := 8) (by omega), same_bit (f := f) (g := g) (i := 7) (by omega), same_bit (f := f) (g := g) (i := 6) (by omega), same_bit (f := f) (g := g) (i := 5) (by omega), same_bit (f := f) (g := g) (i := 4) (by omega), same_num (x := f % 16) (y := g % 16) (by omega)]
theorem one_turned (f i : Nat) (hf : f < 65536) (hi : i < 16) : trues (diffs (H.of 0 f) (H.of 0 (f ^^^ 2 ^ i))) = 1 := by
  have hgd : Turned f (f ^^^ 2 ^ i) i := by
    have h2 : f / 2 ^ i % 2 = 0 ∨ f / 2 ^ i % 2 = 1 := by omega
    rcases h2 with h | h
    · exact .inl ⟨h, xor_zero f i h⟩
    · refine .inr ⟨h, xor_one f i h, ?_⟩
      rcases Nat.lt_or_ge f (2 ^ i) with h1 | h1
      · rw [Nat.div_eq_of_lt h1] at h; cases h
      · exact h1
  generalize f ^^^ 2 ^ i = g at *
  have hcs : i = 0 ∨ i = 1 ∨ i = 2 ∨ i = 3 ∨ i = 4 ∨ i = 5 ∨ i = 6 ∨ i = 7 ∨ i = 8 ∨ i = 9 ∨ i = 10 ∨ i = 11 ∨ i = 12 ∨ i = 13 ∨ i = 14 ∨ i = 15 := by omega
  rcases hcs with rfl | rfl | rfl | rfl | rfl | rfl | rfl | rfl | rfl | rfl | rfl | rfl | rfl | rfl | rfl | rfl
  · rw [turned_0 f g hf hgd]; rfl
  · rw [turned_1 f g hf hgd]; rfl
  · rw [turned_2 f g hf hgd]; rfl
  · rw [turned_3 f g hf hgd]; rfl
  · rw [turned_4 f g hf hgd]; rfl
  · rw [turned_5 f g hf hgd]; rfl
  · rw [turned_6 f g hf hgd]; rfl
  · rw [turned_7 f g hf hgd]; rfl
  · rw [turned_8 f g hf hgd]; rfl
  · rw [turned_9 f g hf hgd]; rfl
  · rw [turned_10 f g hf hgd]; rfl
  · rw [turned_11 f g hf hgd]; rfl
  · rw [turned_12 f g hf hgd]; rfl
  · rw [turned_13 f g hf hgd]; rfl
  · rw [turned_14 f g hf hgd]; rfl
  · rw [turned_15 f g hf hgd]; rfl
end Go.Proofs.YtgfgmaiddmohaaaDoor.Hd
