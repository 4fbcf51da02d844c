/- CompNames: the examples, and many, walked. -/
import Derived.Test.YtngmdefhdknggaaDoorCmBehind
namespace Go.Proofs.YtngmdefhdknggaaDoor.Cm
open Go.RowKit Go.Proofs.YtngmdefhdknggaaDoor.Cur Go.Proofs.YtngmdefhdknggaaDoor.Put Go.Proofs.YtngmdefhdknggaaDoor.Nm

/-- Labels of a byte. -/
def pre : Nat → List UInt8
  | 0 => []
  | n + 1 => pre n ++ [1, 97]
theorem pre_len : ∀ n, (pre n).length = 2 * n
  | 0 => rfl
  | n + 1 => by rw [pre, List.length_append, pre_len n]; simp only [List.length_cons, List.length_nil]; omega

set_option maxRecDepth 100000 in
theorem many_any (w : World) (n : Nat) (hn : n ≤ 1000) : Calls Tryd.prog 16 #[.int .i64 (n : Int)] w fun e w' => e = .returned (.string (ba (pre n ++ [0]))) ∧ w = w' := by
  have n0 : (0 : Int) ≤ (n : Int) := by omega
  go_enter Tryd.func16, Tryd.ntmps16
  go_wp2_with fail
  go_loop [3, 4] (fun vs vi => ∃ (i : Nat) (S : ByteArray), i ≤ n ∧ vs = .string S ∧ vi = .int .i64 (i : Int) ∧ Hid (S = ba (pre i))) (fun _ vi => n - (intOf vi).toNat)
  case atStart => exact ⟨0, ⟨#[]⟩, by omega, rfl, rfl, Lib.hid rfl⟩
  case round =>
    obtain ⟨i, S, hi, rfl, rfl, HS⟩ := hrel
    have i0 : (0 : Int) ≤ (i : Int) := by omega
    have hSs : S.size = 2 * i := by rw [HS.out, ba_size, pre_len]
    have HSS := Lib.hid hSs
    by_cases hin : i < n
    · have h1 : (i : Int) < (n : Int) := by omega
      have hno : ¬ 9223372036854775807 < S.size + (⟨#[1, 97]⟩ : ByteArray).size := by rw [hSs]; show ¬ 9223372036854775807 < 2 * i + 2; omega
      have hcat : S ++ (⟨#[1, 97]⟩ : ByteArray) = ba (pre (i + 1)) := by rw [HS.out]; exact ba_cat _ _
      have HC := Lib.hid hcat
      clear hSs hcat
      go_wp2_with fail
      go_round
      case rel => exact ⟨i + 1, _, by omega, rfl, by go_num, HC⟩
      case measure => simp [intOf]; omega
    · obtain rfl : i = n := by omega
      have hno : ¬ 9223372036854775807 < S.size + (⟨#[0]⟩ : ByteArray).size := by rw [hSs]; show ¬ 9223372036854775807 < 2 * i + 1; omega
      have hcat : S ++ (⟨#[0]⟩ : ByteArray) = ba (pre i ++ [0]) := by rw [HS.out]; exact ba_cat _ _
      have HC := Lib.hid hcat
      clear hSs hcat
      go_wp2_with fail
      go_ret
      exact ⟨by rw [← HC.out]; rfl, rfl⟩

/-- A row of the examples. -/
structure Ex where
  msg : ByteArray
  pos : Int
  n : ByteArray
  next : Nat
  e : Nat
def Ex.cells (r : Ex) : List Value := [.string r.msg, .int .i64 r.pos, .string r.n, .int .i64 (r.next : Int), .int .i64 (r.e : Int)]
def exs : List Ex := [
  ⟨⟨#[0]⟩, 0, ⟨#[0]⟩, 1, 0⟩,
  ⟨⟨#[0]⟩, 1, ⟨#[]⟩, 0, 4⟩,
  ⟨⟨#[0]⟩, 2, ⟨#[]⟩, 0, 1⟩,
  ⟨⟨#[0]⟩, -1, ⟨#[]⟩, 0, 1⟩,
  ⟨⟨#[1, 97, 0, 192, 0]⟩, 3, ⟨#[1, 97, 0]⟩, 5, 0⟩,
  ⟨⟨#[1, 97, 0, 192, 1]⟩, 3, ⟨#[]⟩, 0, 3⟩,
  ⟨⟨#[1, 2, 0, 192, 1]⟩, 3, ⟨#[]⟩, 0, 4⟩,
  ⟨⟨#[1, 97, 0, 1, 98, 192, 0]⟩, 3, ⟨#[1, 98, 1, 97, 0]⟩, 7, 0⟩,
  ⟨⟨#[1, 97, 0, 1, 98, 192, 3]⟩, 3, ⟨#[]⟩, 0, 8⟩,
  ⟨⟨#[192]⟩, 0, ⟨#[]⟩, 0, 4⟩,
  ⟨⟨#[128]⟩, 0, ⟨#[]⟩, 0, 3⟩,
  ⟨⟨#[63]⟩, 0, ⟨#[]⟩, 0, 4⟩,
  ⟨⟨#[1, 97, 192, 0]⟩, 0, ⟨#[]⟩, 0, 8⟩,
  ⟨⟨#[0, 192, 0, 192, 1, 192, 3]⟩, 5, ⟨#[0]⟩, 7, 0⟩,
  ⟨⟨#[0, 192, 0, 192, 3]⟩, 3, ⟨#[]⟩, 0, 8⟩,
  ⟨⟨#[1, 97, 1, 98, 192, 0]⟩, 2, ⟨#[]⟩, 0, 8⟩,
  ⟨ba (pre 127 ++ [0]), 0, ba (pre 127 ++ [0]), 255, 0⟩,
  ⟨ba (pre 128 ++ [0]), 0, ⟨#[]⟩, 0, 5⟩,
  ⟨ba (pre 126 ++ [0]) ++ ⟨#[1, 98, 192, 0]⟩, 253, (⟨#[1, 98]⟩ : ByteArray) ++ ba (pre 126 ++ [0]), 257, 0⟩,
  ⟨ba (pre 127 ++ [0]) ++ ⟨#[1, 98, 192, 0]⟩, 255, ⟨#[]⟩, 0, 5⟩]
def Ex.good (r : Ex) : Bool := decide (r.msg.size ≤ 1000) && (rdTop r.msg.data.toList r.pos == (r.n.data.toList, r.next, r.e))
theorem exs_good : exs.all Ex.good = true := by kernel_rfl
theorem ex_good {r : Ex} (h : r ∈ exs) : r.msg.size ≤ 1000 ∧ rdTop r.msg.data.toList r.pos = (r.n.data.toList, r.next, r.e) := by
  have h2 := List.all_eq_true.1 exs_good r h
  unfold Ex.good at h2
  rw [Bool.and_eq_true, decide_eq_true_eq, beq_iff_eq] at h2
  exact h2
theorem flat_get : ∀ (R : List Ex) (i : Nat) (r : Ex), R[i]? = some r → ∀ j, j < 5 → (R.flatMap Ex.cells)[i * 5 + j]? = r.cells[j]?
  | [], i, r, h, j, hj => by simp at h
  | q :: R, 0, r, h, j, hj => by
    have hq : q = r := by simpa using h
    subst hq
    rw [List.flatMap_cons, Nat.zero_mul, Nat.zero_add, List.getElem?_append_left (by show j < 5; exact hj)]
  | q :: R, i + 1, r, h, j, hj => by
    rw [List.flatMap_cons, List.getElem?_append_right (by show 5 ≤ _; omega), show (i + 1) * 5 + j - q.cells.length = i * 5 + j by show _ - 5 = _; omega]
    exact flat_get R i r (by simpa using h) j hj

/-! The table at its end. -/
def tEnd : Tbl := upd (upd (fun _ => none) [1, 97, 1, 98, 0] 16381) [1, 98, 0] 16383
theorem end_a (L : List UInt8) (h : L.length = 16381) : putTop true true [1, 97, 1, 98, 0] L (fun _ => none) = (L ++ [1, 97, 1, 98, 0], tEnd) := by
  simp [putTop, put, kept, bt, h, upd, tEnd]
theorem tEnd_a : tEnd [1, 97, 1, 98, 0] = some 16381 := by kernel_rfl
theorem tEnd_b : tEnd [1, 98, 0] = some 16383 := by kernel_rfl
theorem tEnd_r : tEnd [0] = none := by kernel_rfl
theorem tEnd_c : tEnd [1, 99, 0] = none := by kernel_rfl
theorem end_c (L : List UInt8) (h : L.length = 16386) : putTop true true [1, 99, 0] L tEnd = (L ++ [1, 99, 0], tEnd) := by
  simp [putTop, put, kept, bt, h, tEnd_c]
theorem end_b (L : List UInt8) : putTop true true [1, 98, 0] L tEnd = (L ++ [255, 255], tEnd) := by
  simp [putTop, put, tEnd_b, two]
theorem end_d (L : List UInt8) : putTop false true [1, 98, 0] L tEnd = (L ++ [1, 98, 0], tEnd) := by
  simp [putTop, put, kept, bt, tEnd_b]
theorem tEnd_low : TLow tEnd := fun m a h => by
  unfold tEnd upd at h
  split at h
  · injection h with h
    omega
  · split at h
    · injection h with h
      omega
    · cases h
theorem at_nobody (w : World) (s : ByteArray) : Calls Tryd.prog 19 #[.pointer none, .string s] w fun e w' => e = .returned (.tuple #[.int .i64 0, .bool false]) ∧ w = w' := by
  go_enter Tryd.func19, Tryd.ntmps19
  go_wp2
  go_ret2
  exact ⟨rfl, rfl⟩
/-- What stands behind, of a row. -/
theorem bytes_drop {w : World} {a : Addr} {l m : List UInt8} {c : Nat} (h : BytesAt w (.slice (some a) (l ++ m).length c) (l ++ m)) (hm : m ≠ []) : a = ⟨a.block, a.off, none⟩ ∧ l.length < c ∧ BytesAt w (.slice (some ⟨a.block, a.off + l.length, none⟩) m.length (c - l.length)) m := by
  obtain ⟨a', c', e, hc, h⟩ := h
  injection e with e1 e2 e3
  subst e1 e3
  have hpos : 0 < m.length := List.length_pos_iff.2 hm
  rw [List.length_append] at hc
  obtain ⟨b, off, hb, hlt, hcell⟩ := h.resolve_left (by simp [hm])
  injection hb with hb
  subst hb
  refine ⟨rfl, by omega, some ⟨b, off + l.length, none⟩, _, rfl, by omega, .inr ⟨b, off + l.length, rfl, hlt, fun i x hx => ?_⟩⟩
  have := hcell (l.length + i) x (by rw [List.getElem?_append_right (by omega)]; simpa using hx)
  rwa [← Nat.add_assoc] at this
end Go.Proofs.YtngmdefhdknggaaDoor.Cm
