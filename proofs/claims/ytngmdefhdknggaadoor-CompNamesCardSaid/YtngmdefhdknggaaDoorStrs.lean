/- Slices of strings: how they lie in memory; one more behind those of the call's own. -/
import Derived.Test.YtngmdefhdknggaaDoorHeap
import Derived.Test.YtngmdefhdknggaaDoorProg
import Derived.Lib.Walk
namespace Go.Proofs.YtngmdefhdknggaaDoor.Ss
open Go.RowKit

def strsV (l : List ByteArray) : List Value := l.map Value.string
theorem strsV_len (l : List ByteArray) : (strsV l).length = l.length := by simp [strsV]
theorem strsV_append (l m : List ByteArray) : strsV (l ++ m) = strsV l ++ strsV m := by simp [strsV]
/-- A slice of strings reads as a list. -/
def StrsAt (w : World) (v : Value) (l : List ByteArray) : Prop :=
  ∃ a c, v = .slice a l.length c ∧ l.length ≤ 9223372036854775807 ∧ (l = [] ∨ ∃ b off, a = some ⟨b, off, none⟩ ∧ b < w.heap.size ∧ ∀ (i : Nat) (x : ByteArray), l[i]? = some x → w.cell? ⟨b, off + i, none⟩ = some (.string x))
theorem StrsAt.nil (w : World) (a : Option Addr) (c : Nat) : StrsAt w (.slice a 0 c) [] := ⟨a, c, rfl, by simp, .inl rfl⟩
theorem StrsAt.chg {S : Nat → Prop} {w w' : World} {v : Value} {l : List ByteArray} (h : StrsAt w v l) (hc : Chg S w w') (hs : ∀ k, v.ownBlock = some k → ¬ S k) : StrsAt w' v l := by
  obtain ⟨a, c, rfl, hl, h⟩ := h
  refine ⟨a, c, rfl, hl, ?_⟩
  rcases h with h | ⟨b, off, rfl, hb, h⟩
  · exact .inl h
  · exact .inr ⟨b, off, rfl, Nat.lt_of_lt_of_le hb hc.size, fun i x hx => hc.cell (h i x hx) (hs b rfl)⟩
theorem StrsAt.nob {w w' : World} {v : Value} {l : List ByteArray} (h : StrsAt w v l) (hc : Chg Nob w w') : StrsAt w' v l := h.chg hc (fun _ _ h => h)
theorem StrsAt.of_own {w : World} {base : Nat} {v : Value} {l : List ByteArray} (hl : l.length ≤ 9223372036854775807) (h : w.ownsRow base 9 1 v l.length (strsV l)) : StrsAt w v l := by
  rcases h.2 with ⟨rfl, h0⟩ | ⟨g, cap, cur, rfl, _, hg, hcp, _, _, htake⟩
  · obtain rfl := List.eq_nil_of_length_eq_zero h0
    exact StrsAt.nil w none 0
  · refine ⟨some ⟨g, 0, none⟩, cap, rfl, hl, .inr ⟨g, 0, rfl, lt_of_block hg, fun i x hx => ?_⟩⟩
    have hi : i < l.length := (List.getElem?_eq_some_iff.1 hx).1
    rw [cell_blk hg, Nat.zero_add, ← Array.getElem?_toList]
    have h1 : (cur.toList.take (l.length * 1))[i]? = some (.string x) := by
      rw [htake]
      simp [strsV, hx]
    rw [List.getElem?_take, if_pos (by omega)] at h1
    exact h1
theorem infoStr : (Tryd.prog.info? 9).map (fun i => (i.zero, i.size, i.bytes)) = some (some (.string ⟨#[]⟩), 1, 16) := by kernel_rfl

theorem app_str {ops : Array Oper} {rest : List Oper} {o : Oper} {a : Act} {Q : Exit → Act → World → Prop} (w : World) (hgd : o.guard = none) (s x : Operand)
    (ho : o.op = .call { callee := .builtin .append, args := #[s, x], argTypes := #[42, 42] })
    (base : Nat) (v : Value) (l : List ByteArray) (hs : a.eval s = v) (hown : w.ownsRow base 9 1 v l.length (strsV l))
    (g c : Nat) (u : ByteArray) (hx : a.eval x = .slice (some ⟨g, 0, none⟩) 1 c) (hg : w.cell? ⟨g, 0, none⟩ = some (.string u)) (hn : l.length + 1 ≤ 8796093022208) (hbase : base ≤ w.heap.size)
    (h : ∀ a3 c3 w', w'.ownsRow base 9 1 (.slice a3 (l ++ [u]).length c3) (l ++ [u]).length (strsV (l ++ [u])) → Chg (fun j => base ≤ j) w w' → wpList Tryd.prog ops Q rest (a.put o.dst (.slice a3 (l ++ [u]).length c3)) w') : wpList Tryd.prog ops Q (o :: rest) a w := by
  obtain ⟨i0, hi, hz0, hz1, hz2⟩ := info_parts infoStr
  refine wpList_append_own2 w hgd s x 42 ho base 9 i0 _ 1 16 Tryd.underlying42 hi hz0 hz1 hz2 rfl (by decide) v l.length (strsV l) hs hown ⟨g, 0, none⟩ 1 c [.string u] hx rfl ?_ (by intro z hz; rw [List.mem_singleton.1 hz]; rfl) (by unfold maxLen; omega) (by omega) hbase ?_
  · intro j z hj
    rcases j with _ | j
    · obtain rfl : Value.string u = z := by simpa using hj
      exact hg
    · simp at hj
  · intro v' w' h1 h2 _
    have hge : ∀ k, v.ownBlock = some k → base ≤ k := fun k hk => by
      rcases hown.2 with ⟨rfl, _⟩ | ⟨g, cap, cur, rfl, hbg, _⟩
      · cases hk
      · have : g = k := by simpa [Value.ownBlock] using hk
        omega
    have h3 : w'.ownsRow base 9 1 v' (l ++ [u]).length (strsV (l ++ [u])) := by
      rw [strsV_append, List.length_append]
      exact h1
    obtain ⟨a3, c3, rfl, _⟩ := own_form h3
    exact h a3 c3 w' h3 ((Chg.refl _ w).grown h2 fun k hk => .inl (hge k hk))
end Go.Proofs.YtngmdefhdknggaaDoor.Ss
