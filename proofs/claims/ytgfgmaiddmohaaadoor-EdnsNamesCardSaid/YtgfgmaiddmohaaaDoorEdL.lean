/- Options written, and read: plain laws. -/
import Derived.Test.YtgfgmaiddmohaaaDoorEdW
import Derived.Test.YtgfgmaiddmohaaaDoorHeadBackP
namespace Go.Proofs.YtgfgmaiddmohaaaDoor.Ed
open Go.RowKit Go.Proofs.YtgfgmaiddmohaaaDoor.Cur Go.Proofs.YtgfgmaiddmohaaaDoor.Put Go.Proofs.YtgfgmaiddmohaaaDoor.Hd

/-- All options' bytes. -/
def total : List Opt → List UInt8
  | [] => []
  | o :: l => o.bytes ++ total l
theorem total_append : ∀ l m, total (l ++ m) = total l ++ total m
  | [], m => rfl
  | o :: l, m => by rw [List.cons_append, total, total, total_append l m, List.append_assoc]
theorem wro_eq : ∀ (l : List Opt) (b : List UInt8), b.length ≤ 65535 → wro l b = if (b ++ total l).length ≤ 65535 then some (b ++ total l) else none
  | [], b, h => by
    rw [wro, total, List.append_nil, if_pos h]
  | o :: l, b, h => by
    have hb := Opt.bytes_len o
    rw [wro, total]
    by_cases h1 : 65535 < o.data.size
    · rw [if_pos h1, if_neg (by rw [List.length_append, List.length_append]; omega)]
    · rw [if_neg h1]
      by_cases h2 : 65535 < (b ++ o.bytes).length
      · rw [if_pos h2, if_neg (by rw [List.length_append] at h2; rw [List.length_append, List.length_append]; omega)]
      · rw [if_neg h2, wro_eq l _ (by omega), List.append_assoc]
theorem wro_nil (l : List Opt) : wro l [] = if (total l).length ≤ 65535 then some (total l) else none := wro_eq l [] (by simp)

/-- Options that may be written. -/
def Fit (o : Opt) : Prop := o.code < 65536 ∧ o.data.size ≤ 65535
theorem fit_of : ∀ (l : List Opt), (∀ o ∈ l, o.Ok) → (total l).length ≤ 65535 → ∀ o ∈ l, Fit o
  | [], _, _, o, h => by cases h
  | p :: l, hk, ht, o, h => by
    have hb := Opt.bytes_len p
    rw [total, List.length_append] at ht
    rcases List.mem_cons.1 h with rfl | h
    · exact ⟨(hk o (List.mem_cons_self ..)).1, by omega⟩
    · exact fit_of l (fun q hq => hk q (List.mem_cons_of_mem _ hq)) (by omega) o h

theorem size_list (s : ByteArray) : s.size = s.data.toList.length := by simp
theorem be_at {s : ByteArray} {A R : List UInt8} {x y : UInt8} {k : Nat} (h : s.data.toList = A ++ (x :: y :: R)) (hk : k = A.length) : be s k 2 = 256 * x.toNat + y.toNat := by
  subst hk
  rw [be_two]
  unfold byteAt
  rw [h]
  simp [List.getD]
theorem two_num (n : Nat) (h : n < 65536) : 256 * (UInt8.ofNat (n / 256)).toNat + (UInt8.ofNat n).toNat = n := by
  simp only [UInt8.toNat_ofNat']
  omega

theorem extract_mid {s : ByteArray} {A R : List UInt8} {d : ByteArray} {k : Nat} (h : s.data.toList = A ++ (d.data.toList ++ R)) (hk : k = A.length) : s.extract k (k + d.size) = d := by
  subst hk
  apply ByteArray.ext
  rw [ByteArray.data_extract]
  apply Array.toList_inj.1
  rw [Array.toList_extract, List.extract_eq_take_drop, h, List.drop_left, show A.length + d.size - A.length = d.data.toList.length by rw [size_list]; omega, List.take_left]

theorem optAt_here {s : ByteArray} {A R : List UInt8} {o : Opt} (hf : Fit o) (h : s.data.toList = A ++ (o.bytes ++ R)) : optAt s A.length = some (o, A.length + o.bytes.length) := by
  have hb := Opt.bytes_len o
  have hs : s.size = A.length + (4 + o.data.size) + R.length := by rw [size_list, h, List.length_append, List.length_append, hb]; omega
  have h1 : be s A.length 2 = o.code := by
    rw [be_at (R := two o.data.size ++ o.data.data.toList ++ R) (x := UInt8.ofNat (o.code / 256)) (y := UInt8.ofNat o.code) (A := A) (by rw [h]; unfold Opt.bytes; simp [two]) rfl, two_num _ hf.1]
  have h2 : be s (A.length + 2) 2 = o.data.size := by
    rw [be_at (R := o.data.data.toList ++ R) (x := UInt8.ofNat (o.data.size / 256)) (y := UInt8.ofNat o.data.size) (A := A ++ two o.code) (by rw [h]; unfold Opt.bytes; simp [two]) (by simp [two]), two_num _ (by have := hf.2; omega)]
  have h3 : s.extract (A.length + 4) (A.length + 4 + o.data.size) = o.data := extract_mid (A := A ++ two o.code ++ two o.data.size) (R := R) (by rw [h]; unfold Opt.bytes; simp) (by simp [two])
  unfold optAt
  rw [h2, h1, h3, if_pos (by omega), hb, Nat.add_assoc]

theorem optAt_cut {s : ByteArray} {A : List UInt8} {o : Opt} {j : Nat} (hf : Fit o) (h : s.data.toList = A ++ o.bytes.take j) (hj : j < o.bytes.length) : optAt s A.length = none := by
  have hb := Opt.bytes_len o
  have hs : s.size = A.length + j := by rw [size_list, h, List.length_append, List.length_take]; omega
  unfold optAt
  by_cases h4 : 4 ≤ j
  · have e : o.bytes.take j = two o.code ++ (UInt8.ofNat (o.data.size / 256) :: UInt8.ofNat o.data.size :: (o.data.data.toList).take (j - 4)) := by
      obtain ⟨i, rfl⟩ : ∃ i, j = i + 4 := ⟨j - 4, by omega⟩
      unfold Opt.bytes
      simp [two]
    have h2 : be s (A.length + 2) 2 = o.data.size := by
      rw [be_at (A := A ++ two o.code) (by rw [h, e, ← List.append_assoc]) (by simp [two]), two_num _ (by have := hf.2; omega)]
    rw [h2, if_neg (by omega)]
  · rw [if_neg (by omega)]

theorem parseF_all : ∀ (l : List Opt) (s : ByteArray) (A : List UInt8) (f : Nat), (∀ o ∈ l, Fit o) → s.data.toList = A ++ total l → l.length < f → parseF s f A.length = some l
  | [], s, A, f, _, h, hf => by
    obtain ⟨f, rfl⟩ : ∃ g, f = g + 1 := ⟨f - 1, by simp at hf; omega⟩
    rw [parseF, if_neg (by rw [size_list, h]; simp [total])]
  | o :: l, s, A, f, hk, h, hf => by
    have hb := Opt.bytes_len o
    obtain ⟨f, rfl⟩ : ∃ g, f = g + 1 := ⟨f - 1, by simp at hf; omega⟩
    rw [total] at h
    rw [parseF, if_pos (by rw [size_list, h, List.length_append, List.length_append]; omega), optAt_here (hk o (List.mem_cons_self ..)) h]
    have h2 := parseF_all l s (A ++ o.bytes) f (fun q hq => hk q (List.mem_cons_of_mem _ hq)) (by rw [h, List.append_assoc]) (by simp at hf; omega)
    rw [List.length_append] at h2
    simp only [h2, Option.map_some]

theorem total_len : ∀ l, l.length * 4 ≤ (total l).length
  | [] => by simp [total]
  | o :: l => by
    have hb := Opt.bytes_len o
    have := total_len l
    rw [total, List.length_append, List.length_cons]
    omega
theorem parse_all {l : List Opt} (hk : ∀ o ∈ l, Fit o) : parse ⟨(total l).toArray⟩ = some l := by
  have h1 := total_len l
  have h2 : (⟨(total l).toArray⟩ : ByteArray).size = (total l).length := rfl
  exact parseF_all l ⟨(total l).toArray⟩ [] _ hk (by simp) (by rw [h2]; omega)

/-- After how many options a text that is cut off ends; none: within one. -/
def cutN : List Opt → Nat → Option Nat
  | [], _ => some 0
  | o :: l, j => if j = 0 then some 0 else if j < o.bytes.length then none else (cutN l (j - o.bytes.length)).map (· + 1)

theorem parseF_cut : ∀ (l : List Opt) (s : ByteArray) (A : List UInt8) (j f : Nat), (∀ o ∈ l, Fit o) → s.data.toList = A ++ (total l).take j → l.length < f → parseF s f A.length = (cutN l j).map fun m => l.take m
  | [], s, A, j, f, _, h, hf => by
    obtain ⟨f, rfl⟩ : ∃ g, f = g + 1 := ⟨f - 1, by simp at hf; omega⟩
    rw [parseF, if_neg (by rw [size_list, h]; simp [total])]
    rfl
  | o :: l, s, A, j, f, hk, h, hf => by
    have hb := Opt.bytes_len o
    obtain ⟨f, rfl⟩ : ∃ g, f = g + 1 := ⟨f - 1, by simp at hf; omega⟩
    rw [total] at h
    rw [cutN]
    by_cases h0 : j = 0
    · subst h0
      rw [if_pos rfl, parseF, if_neg (by rw [size_list, h]; simp)]
      rfl
    · rw [if_neg h0]
      by_cases hj : j < o.bytes.length
      · rw [if_pos hj]
        rw [List.take_append_of_le_length (by omega)] at h
        rw [parseF, if_pos (by rw [size_list, h, List.length_append, List.length_take]; omega), optAt_cut (hk o (List.mem_cons_self ..)) h hj]
        rfl
      · rw [if_neg hj]
        rw [List.take_append, List.take_of_length_le (by omega)] at h
        rw [parseF, if_pos (by rw [size_list, h, List.length_append, List.length_append]; omega), optAt_here (hk o (List.mem_cons_self ..)) h]
        have h2 := parseF_cut l s (A ++ o.bytes) (j - o.bytes.length) f (fun q hq => hk q (List.mem_cons_of_mem _ hq)) (by rw [h, List.append_assoc]) (by simp at hf; omega)
        rw [List.length_append] at h2
        simp only [h2, Option.map_map]
        cases cutN l (j - o.bytes.length) with
        | none => rfl
        | some m => rfl

theorem cutN_len : ∀ (l : List Opt) (j m : Nat), cutN l j = some m → m ≤ l.length
  | [], j, m, h => by
    have := Option.some.inj h
    simp
    omega
  | o :: l, j, m, h => by
    rw [cutN] at h
    split at h
    · have := Option.some.inj h
      omega
    · split at h
      · cases h
      · obtain ⟨m', h1, rfl⟩ := Option.map_eq_some_iff.1 h
        have := cutN_len l _ m' h1
        simp
        omega
theorem parseF_back : ∀ (f : Nat) (s : ByteArray) (k : Nat) (l : List Opt), k ≤ s.size → parseF s f k = some l → s.data.toList.drop k = total l ∧ ∀ o ∈ l, Fit o
  | 0, s, k, l, _, h => by cases h
  | f + 1, s, k, l, hk, h => by
    rw [parseF] at h
    by_cases h1 : k < s.size
    · rw [if_pos h1] at h
      cases h2 : optAt s k with
      | none => rw [h2] at h; cases h
      | some p =>
        obtain ⟨o, k'⟩ := p
        rw [h2] at h
        obtain ⟨l', h3, rfl⟩ := Option.map_eq_some_iff.1 h
        obtain ⟨a1, a2, a3, a4, a5, a6, a7⟩ := optAt_some h2
        obtain ⟨b1, b2⟩ := parseF_back f s k' l' a2 h3
        have hsz : o.data.size = k' - (k + 4) := by rw [a7, ByteArray.size_extract]; omega
        have hlen := size_list s
        refine ⟨?_, fun q hq => ?_⟩
        · rw [total, ← b1]
          have e1 : o.data.data.toList = (s.data.toList.drop (k + 4)).take (k' - (k + 4)) := by rw [a7, ByteArray.data_extract, Array.toList_extract, List.extract_eq_take_drop]
          have e2 : o.data.size = be s (k + 2) 2 := by omega
          unfold Opt.bytes
          rw [e2, a5, two_be, two_be, e1]
          have hd : ∀ i, i < s.data.toList.length → s.data.toList.drop i = s.data.toList.getD i 0 :: s.data.toList.drop (i + 1) := fun i hi => by
            rw [List.drop_eq_getElem_cons hi]
            rw [List.getD, List.getElem?_eq_getElem hi]
            rfl
          rw [hd k (by omega), hd (k + 1) (by omega), hd (k + 1 + 1) (by omega), hd (k + 1 + 1 + 1) (by omega)]
          rw [show k + 1 + 1 + 1 + 1 = k + 4 by omega, show k + 1 + 1 = k + 2 by omega, show k + 2 + 1 = k + 3 by omega, show k + 3 = k + 2 + 1 by omega]
          simp only [List.cons_append, List.nil_append, List.cons.injEq, true_and]
          have e3 : s.data.toList.drop k' = (s.data.toList.drop (k + 4)).drop (k' - (k + 4)) := by rw [List.drop_drop]; congr 1; omega
          rw [e3, List.take_append_drop]
        · rcases List.mem_cons.1 hq with rfl | hq
          · exact ⟨a3, a4⟩
          · exact b2 q hq
    · rw [if_neg h1] at h
      obtain rfl := Option.some.inj h
      exact ⟨by rw [List.drop_eq_nil_of_le (by rw [← size_list]; omega)]; rfl, fun o ho => by cases ho⟩

theorem parse_back {s : ByteArray} {l : List Opt} (h : parse s = some l) : s.data.toList = total l ∧ ∀ o ∈ l, Fit o := by
  have := parseF_back _ s 0 l (Nat.zero_le _) h
  simpa using this
end Go.Proofs.YtgfgmaiddmohaaaDoor.Ed
