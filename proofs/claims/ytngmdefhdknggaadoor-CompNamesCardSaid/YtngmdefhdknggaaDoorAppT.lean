/- Bytes of the call's own, and bytes or a text put behind them. -/
import Derived.Test.YtngmdefhdknggaaDoorMake
import Derived.Test.YtngmdefhdknggaaDoorPuts
import Derived.Lib.AppendStr
namespace Go.Proofs.YtngmdefhdknggaaDoor.Put
open Go.RowKit

theorem own_geB {w : World} {base : Nat} {v : Value} {n k : Nat} {xs : List Value} (h : w.ownsRow base 5 1 v n xs) (hk : v.ownBlock = some k) : base ≤ k := by
  rcases h.2 with ⟨rfl, _⟩ | ⟨g, cap, cur, rfl, hbg, _⟩
  · cases hk
  · have : g = k := by simpa [Value.ownBlock] using hk
    omega
theorem strCells_bytes (s : ByteArray) : Lib.strCells s = bytesV s.data.toList := rfl

theorem app_text {ops : Array Oper} {rest : List Oper} {o : Oper} {a : Act} {Q : Exit → Act → World → Prop} (w : World) (hgd : o.guard = none) (s x : Operand)
    (ho : o.op = .call { callee := .builtin .append, args := #[s, x], argTypes := #[33, 9] })
    (base : Nat) (v : Value) (l : List UInt8) (hs : a.eval s = v) (hown : w.ownsRow base 5 1 v l.length (bytesV l))
    (u : ByteArray) (hx : a.eval x = .string u) (hn : l.length + u.size ≤ 140737488355328) (hbase : base ≤ w.heap.size)
    (h : ∀ a3 c3 w', w'.ownsRow base 5 1 (.slice a3 (l ++ u.data.toList).length c3) (l ++ u.data.toList).length (bytesV (l ++ u.data.toList)) → Chg (fun j => base ≤ j) w w' → wpList Tryd.prog ops Q rest (a.put o.dst (.slice a3 (l ++ u.data.toList).length c3)) w') : wpList Tryd.prog ops Q (o :: rest) a w := by
  obtain ⟨i0, hi, hz0, hz1, hz2⟩ := info_parts infoU8
  obtain ⟨v', w', hr, h1, h2, _⟩ := Lib.run_append_own_string (P := Tryd.prog) w base 33 9 o.type 5 i0 Tryd.underlying33 Tryd.underlying9 hi hz0 hz1 hz2 v l.length (bytesV l) hown u (by unfold maxLen; omega) hn hbase
  rw [strCells_bytes, ← bytesV_append, show u.size = u.data.toList.length by rw [Array.length_toList]; rfl, ← List.length_append] at h1
  obtain ⟨a3, c3, rfl, _⟩ := own_form h1
  exact Lib.wpList_append_run _ hgd _ _ _ _ ho _ _ hs hx _ _ hr (h a3 c3 w' h1 ((Chg.refl _ w).grown h2 fun k hk => .inl (own_geB hown hk)))
theorem app_bytes2 {ops : Array Oper} {rest : List Oper} {o : Oper} {a : Act} {Q : Exit → Act → World → Prop} (w : World) (hgd : o.guard = none) (s x : Operand)
    (ho : o.op = .call { callee := .builtin .append, args := #[s, x], argTypes := #[33, 33] })
    (base : Nat) (v : Value) (l : List UInt8) (hs : a.eval s = v) (hown : w.ownsRow base 5 1 v l.length (bytesV l))
    (y : Value) (u : List UInt8) (hx : a.eval x = y) (hy : BytesAt w y u) (hn : l.length + u.length ≤ 140737488355328) (hbase : base ≤ w.heap.size)
    (h : ∀ a3 c3 w', w'.ownsRow base 5 1 (.slice a3 (l ++ u).length c3) (l ++ u).length (bytesV (l ++ u)) → Chg (fun j => base ≤ j) w w' → wpList Tryd.prog ops Q rest (a.put o.dst (.slice a3 (l ++ u).length c3)) w') : wpList Tryd.prog ops Q (o :: rest) a w :=
  app_bytes w hgd s x ho base v l hs hown y u hx hy hn hbase fun v' w' h1 h2 _ => by
    obtain ⟨a3, c3, rfl, _⟩ := own_form h1
    exact h a3 c3 w' h1 ((Chg.refl _ w).grown h2 fun k hk => .inl (own_geB hown hk))
/-! The same; and nothing but the row itself has changed. -/
theorem app_text3 {ops : Array Oper} {rest : List Oper} {o : Oper} {a : Act} {Q : Exit → Act → World → Prop} (w : World) (hgd : o.guard = none) (s x : Operand)
    (ho : o.op = .call { callee := .builtin .append, args := #[s, x], argTypes := #[33, 9] })
    (base : Nat) (v : Value) (l : List UInt8) (hs : a.eval s = v) (hown : w.ownsRow base 5 1 v l.length (bytesV l))
    (u : ByteArray) (hx : a.eval x = .string u) (hn : l.length + u.size ≤ 140737488355328) (hbase : base ≤ w.heap.size)
    (h : ∀ a3 c3 w', w'.ownsRow base 5 1 (.slice a3 (l ++ u.data.toList).length c3) (l ++ u.data.toList).length (bytesV (l ++ u.data.toList)) → Chg (fun j => v.ownBlock = some j) w w' → wpList Tryd.prog ops Q rest (a.put o.dst (.slice a3 (l ++ u.data.toList).length c3)) w') : wpList Tryd.prog ops Q (o :: rest) a w := by
  obtain ⟨i0, hi, hz0, hz1, hz2⟩ := info_parts infoU8
  obtain ⟨v', w', hr, h1, h2, _⟩ := Lib.run_append_own_string (P := Tryd.prog) w base 33 9 o.type 5 i0 Tryd.underlying33 Tryd.underlying9 hi hz0 hz1 hz2 v l.length (bytesV l) hown u (by unfold maxLen; omega) hn hbase
  rw [strCells_bytes, ← bytesV_append, show u.size = u.data.toList.length by rw [Array.length_toList]; rfl, ← List.length_append] at h1
  obtain ⟨a3, c3, rfl, _⟩ := own_form h1
  exact Lib.wpList_append_run _ hgd _ _ _ _ ho _ _ hs hx _ _ hr (h a3 c3 w' h1 ((Chg.refl _ w).grown h2 fun k hk => .inl hk))
theorem app_bytes3 {ops : Array Oper} {rest : List Oper} {o : Oper} {a : Act} {Q : Exit → Act → World → Prop} (w : World) (hgd : o.guard = none) (s x : Operand)
    (ho : o.op = .call { callee := .builtin .append, args := #[s, x], argTypes := #[33, 33] })
    (base : Nat) (v : Value) (l : List UInt8) (hs : a.eval s = v) (hown : w.ownsRow base 5 1 v l.length (bytesV l))
    (y : Value) (u : List UInt8) (hx : a.eval x = y) (hy : BytesAt w y u) (hn : l.length + u.length ≤ 140737488355328) (hbase : base ≤ w.heap.size)
    (h : ∀ a3 c3 w', w'.ownsRow base 5 1 (.slice a3 (l ++ u).length c3) (l ++ u).length (bytesV (l ++ u)) → Chg (fun j => v.ownBlock = some j) w w' → wpList Tryd.prog ops Q rest (a.put o.dst (.slice a3 (l ++ u).length c3)) w') : wpList Tryd.prog ops Q (o :: rest) a w :=
  app_bytes w hgd s x ho base v l hs hown y u hx hy hn hbase fun v' w' h1 h2 _ => by
    obtain ⟨a3, c3, rfl, _⟩ := own_form h1
    exact h a3 c3 w' h1 ((Chg.refl _ w).grown h2 fun k hk => .inl hk)
/-- One byte, as a literal of a slice. -/
theorem byte_lit (w : World) (k : Nat) (hk : k < 256) : BytesAt (w.alloc (.cells #[.int .u8 (k : Int)] 5)) (.slice (some ⟨w.heap.size, 0, none⟩) 1 1) [UInt8.ofNat k] :=
  bytes_lit (l := [UInt8.ofNat k]) (alloc_new w _) (by simp [bytesV]; omega) 1 (by simp)
end Go.Proofs.YtngmdefhdknggaaDoor.Put
