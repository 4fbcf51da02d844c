/- Options as lists, and an OPT record's data parsed: plain laws, and how a slice of options lies in memory. -/
import Derived.Test.YtgfgmaiddmohaaaDoorCur
import Derived.Test.YtgfgmaiddmohaaaDoorHeadW
namespace Go.Proofs.YtgfgmaiddmohaaaDoor.Ed
open Go.RowKit Go.Proofs.YtgfgmaiddmohaaaDoor.Cur Go.Proofs.YtgfgmaiddmohaaaDoor.Put

/-- An option. -/
structure Opt where
  code : Nat
  data : ByteArray

def Opt.Ok (o : Opt) : Prop := o.code < 65536 ∧ o.data.size ≤ 9223372036854775807
def Opt.cells (o : Opt) : Array Value := #[.int .u16 (o.code : Int), .string o.data]

/-- A slice of options reads as a list. -/
def OptsAt (w : World) (v : Value) (l : List Opt) : Prop :=
  ∃ a c, v = .slice a l.length c ∧ l.length ≤ 9223372036854775807 ∧ (∀ o ∈ l, o.Ok) ∧ (l = [] ∨ ∃ b off, a = some ⟨b, off, none⟩ ∧ b < w.heap.size ∧ ∀ (i : Nat) (o : Opt), l[i]? = some o → w.cell? ⟨b, off + i * 2, none⟩ = some (.int .u16 (o.code : Int)) ∧ w.cell? ⟨b, off + i * 2 + 1, none⟩ = some (.string o.data))
theorem OptsAt.nil (w : World) (a : Option Addr) (c : Nat) : OptsAt w (.slice a 0 c) [] := ⟨a, c, rfl, by simp, by simp, .inl rfl⟩
theorem OptsAt.nob {w w' : World} {v : Value} {l : List Opt} (h : OptsAt w v l) (hc : Chg Nob w w') : OptsAt w' v l := by
  obtain ⟨a, c, rfl, hl, hk, h⟩ := h
  refine ⟨a, c, rfl, hl, hk, ?_⟩
  rcases h with h | ⟨b, off, rfl, hb, h⟩
  · exact .inl h
  · exact .inr ⟨b, off, rfl, Nat.lt_of_lt_of_le hb hc.size, fun i o ho => ⟨hc.cell (h i o ho).1 (fun h => h), hc.cell (h i o ho).2 (fun h => h)⟩⟩

/-- The option at a place, and where it ends; none where it is cut short. -/
def optAt (s : ByteArray) (k : Nat) : Option (Opt × Nat) :=
  if k + 4 ≤ s.size ∧ k + 4 + be s (k + 2) 2 ≤ s.size then some (⟨be s k 2, s.extract (k + 4) (k + 4 + be s (k + 2) 2)⟩, k + 4 + be s (k + 2) 2) else none

/-- The options from a place on, with fuel. -/
def parseF (s : ByteArray) : Nat → Nat → Option (List Opt)
  | 0, _ => none
  | f + 1, k => if k < s.size then (match optAt s k with | none => none | some (o, k') => (parseF s f k').map (o :: ·)) else some []
def parse (s : ByteArray) : Option (List Opt) := parseF s (s.size + 1) 0

theorem optAt_some {s : ByteArray} {k k' : Nat} {o : Opt} (h : optAt s k = some (o, k')) : k + 4 ≤ k' ∧ k' ≤ s.size ∧ o.code < 65536 ∧ o.data.size ≤ 65535 ∧ o.code = be s k 2 ∧ k' = k + 4 + be s (k + 2) 2 ∧ o.data = s.extract (k + 4) k' := by
  unfold optAt at h
  split at h
  · have e := Option.some.inj h
    injection e with e1 e2
    subst e1; subst e2
    have h1 := be_lt s k 2
    have h2 := be_lt s (k + 2) 2
    refine ⟨by omega, by omega, by simp only; omega, ?_, rfl, rfl, rfl⟩
    simp only [ByteArray.size_extract]
    omega
  · cases h

theorem parse_step {s : ByteArray} {k k' f : Nat} {o : Opt} {acc : List Opt} (h : parse s = (parseF s (f + 1) k).map (acc ++ ·)) (hk : k < s.size) (ho : optAt s k = some (o, k')) : parse s = (parseF s f k').map ((acc ++ [o]) ++ ·) := by
  rw [h, parseF, if_pos hk, ho]
  simp only [Option.map_map]
  congr 1
  funext l
  simp
theorem parse_fail {s : ByteArray} {k f : Nat} {acc : List Opt} (h : parse s = (parseF s (f + 1) k).map (acc ++ ·)) (hk : k < s.size) (ho : optAt s k = none) : parse s = none := by
  rw [h, parseF, if_pos hk, ho]
  rfl
theorem parse_end {s : ByteArray} {k f : Nat} {acc : List Opt} (h : parse s = (parseF s (f + 1) k).map (acc ++ ·)) (hk : ¬ k < s.size) : parse s = some acc := by
  rw [h, parseF, if_neg hk]
  simp
theorem parse_start (s : ByteArray) : parse s = (parseF s (s.size + 1) 0).map ([] ++ ·) := by
  unfold parse
  simp
end Go.Proofs.YtgfgmaiddmohaaaDoor.Ed
