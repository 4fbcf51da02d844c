/- What is written, read back: laws of bytes. -/
import Derived.Test.YtgfgmaiddmohaaaDoorHeadW
namespace Go.Proofs.YtgfgmaiddmohaaaDoor.Hd
open Go.RowKit Go.Proofs.YtgfgmaiddmohaaaDoor.Put Go.Proofs.YtgfgmaiddmohaaaDoor.Cur

theorem wr_bad : ∀ {cs : List Int} {l : List UInt8}, (∃ c ∈ cs, c < 0 ∨ 65535 < c) → wr cs l = (⟨#[]⟩, 1)
  | [], _, ⟨_, h, _⟩ => by cases h
  | c :: cs, l, ⟨a, h, hb⟩ => by
    unfold wr
    by_cases hc : 0 ≤ c ∧ c ≤ 65535
    · rw [if_pos hc]
      refine wr_bad ⟨a, ?_, hb⟩
      rcases List.mem_cons.1 h with rfl | h
      · omega
      · exact h
    · rw [if_neg hc]

theorem back12 (a b c d e f : Nat) (ha : a < 65536) (hb : b < 65536) (hc : c < 65536) (hd : d < 65536) (he : e < 65536) (hf : f < 65536) (t : ByteArray) (ht : t = ⟨(two a ++ two b ++ two c ++ two d ++ two e ++ two f).toArray⟩) :
    t.size = 12 ∧ be t 0 2 = a ∧ be t 2 2 = b ∧ be t 4 2 = c ∧ be t 6 2 = d ∧ be t 8 2 = e ∧ be t 10 2 = f := by
  subst ht
  refine ⟨rfl, ?_⟩
  simp only [be_two, byteAt, two, List.cons_append, List.nil_append, List.getD, Nat.zero_add]
  simp
  omega

theorem two_be (s : ByteArray) (k : Nat) : two (be s k 2) = [s.data.toList.getD k 0, s.data.toList.getD (k + 1) 0] := by
  rw [be_two]
  unfold byteAt two
  generalize s.data.toList.getD k 0 = x
  generalize s.data.toList.getD (k + 1) 0 = y
  have hx := x.toNat_lt
  have hy := y.toNat_lt
  congr 1
  · apply UInt8.toNat.inj
    rw [UInt8.toNat_ofNat']
    omega
  · congr 1
    apply UInt8.toNat.inj
    rw [UInt8.toNat_ofNat']
    omega

theorem first12 (s : ByteArray) (hs : 12 ≤ s.size) : (⟨(two (be s 0 2) ++ two (be s 2 2) ++ two (be s 4 2) ++ two (be s 6 2) ++ two (be s 8 2) ++ two (be s 10 2)).toArray⟩ : ByteArray) = s.extract 0 12 := by
  apply ByteArray.ext
  apply Array.toList_inj.1
  rw [ByteArray.data_extract, Array.toList_extract, List.extract_eq_take_drop]
  simp only [two_be]
  have hl : 12 ≤ s.data.toList.length := by simpa using hs
  generalize s.data.toList = l at *
  match l, hl with
  | a :: b :: c :: d :: e :: f :: g :: h :: i :: j :: k :: m :: r, _ => simp
end Go.Proofs.YtgfgmaiddmohaaaDoor.Hd
