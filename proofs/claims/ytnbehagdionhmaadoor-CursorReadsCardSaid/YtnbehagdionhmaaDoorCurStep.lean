/- hustingslaw02.step, walked: an act, and how many bytes it reads. -/
import Derived.Test.YtnbehagdionhmaaDoorCurAny
namespace Go.Proofs.YtnbehagdionhmaaDoor.Cur
open Go.RowKit Go.Proofs.YtnbehagdionhmaaDoor.Put

/-- An act: what, and how many. -/
structure Act where
  what : Nat
  n : Int

/-- A slice of acts reads as a list. -/
def ActsAt (w : World) (v : Value) (l : List Act) : Prop :=
  ∃ a c, v = .slice a l.length c ∧ l.length ≤ 9223372036854775807 ∧ (∀ x ∈ l, x.what < 256 ∧ -9223372036854775808 ≤ x.n ∧ x.n ≤ 9223372036854775807) ∧ (l = [] ∨ ∃ b off, a = some ⟨b, off, none⟩ ∧ b < w.heap.size ∧ ∀ (i : Nat) (x : Act), l[i]? = some x → w.cell? ⟨b, off + i * 2, none⟩ = some (.int .u8 (x.what : Int)) ∧ w.cell? ⟨b, off + i * 2 + 1, none⟩ = some (.int .i64 x.n))

/-- How many bytes an act reads. -/
def Stepped (s : ByteArray) (k : Nat) (a : Act) (n : Int) (e : Int) (k' : Nat) : Prop :=
  if a.what = 0 then n = 1 ∧ ∃ x, Got s k 1 x e k'
  else if a.what = 1 then n = 2 ∧ ∃ x, Got s k 2 x e k'
  else if a.what = 2 then n = 4 ∧ ∃ x, Got s k 4 x e k'
  else if a.what = 3 then ∃ t : ByteArray, n = t.size ∧ Took s k a.n t e k'
  else n = 0 ∧ Sought s k a.n e k'

set_option maxHeartbeats 1000000 in
theorem step_any (w : World) (b : Nat) (s : ByteArray) (k : Nat) (a : Act) (ha : a.what < 256) (hg : As.Laid w) (h : At w b s k) :
    Calls Tryd.prog 24 #[.pointer (some ⟨b, 0, none⟩), .agg #[.int .u8 (a.what : Int), .int .i64 a.n]] w fun r w' => ∃ (n e : Int) (k' : Nat), r = .returned (.tuple #[.int .i64 n, .int .i64 e]) ∧ Stepped s k a n e k' ∧ At w' b s k' ∧ Chg (Only b) w w' := by
  obtain ⟨what, an⟩ := a
  dsimp only at *
  have hst : ∀ (n e : Int) (k' : Nat) (w' : World) (r : Ending), r = .returned (.tuple #[.int .i64 n, .int .i64 e]) → Stepped s k ⟨what, an⟩ n e k' → At w' b s k' → Chg (Only b) (w.alloc (.cells #[.int .u8 (what : Int), .int .i64 an] 53)) w' → ∃ (n e : Int) (k' : Nat), r = .returned (.tuple #[.int .i64 n, .int .i64 e]) ∧ Stepped s k ⟨what, an⟩ n e k' ∧ At w' b s k' ∧ Chg (Only b) w w' :=
    fun _ _ _ _ _ h1 h2 h3 h4 => ⟨_, _, _, h1, h2, h3, ((Chg.refl (Only b) w).alloc _).trans h4⟩
  have HST := Lib.hid hst
  clear hst
  by_cases c0 : what = 0
  · subst c0
    have HN := Lib.hid (byte_any (w.alloc (.cells #[.int .u8 0, .int .i64 an] 53)) b s k (hg.nob ((Chg.refl Nob w).alloc _)) (h.nob ((Chg.refl Nob w).alloc _)))
    go_enter Tryd.func24, Tryd.ntmps24
    go_wp2_with fail
    refine HN.out.mono ?_
    rintro r w1 ⟨x, e, k', rfl, g, hA, hC⟩
    have HGt := Lib.hid g
    clear g
    go_wp2_with fail
    go_ret2
    exact HST.out _ _ _ _ _ rfl (by simp only [Stepped]; exact ⟨trivial, x, HGt.out⟩) hA hC
  by_cases c1 : what = 1
  · subst c1
    have HN := Lib.hid (two_any (w.alloc (.cells #[.int .u8 1, .int .i64 an] 53)) b s k (hg.nob ((Chg.refl Nob w).alloc _)) (h.nob ((Chg.refl Nob w).alloc _)))
    go_enter Tryd.func24, Tryd.ntmps24
    go_wp2_with fail
    refine HN.out.mono ?_
    rintro r w1 ⟨x, e, k', rfl, g, hA, hC⟩
    have HGt := Lib.hid g
    clear g
    go_wp2_with fail
    go_ret2
    exact HST.out _ _ _ _ _ rfl (by simp only [Stepped]; exact ⟨trivial, x, HGt.out⟩) hA hC
  by_cases c2 : what = 2
  · subst c2
    have HN := Lib.hid (four_any (w.alloc (.cells #[.int .u8 2, .int .i64 an] 53)) b s k (hg.nob ((Chg.refl Nob w).alloc _)) (h.nob ((Chg.refl Nob w).alloc _)))
    go_enter Tryd.func24, Tryd.ntmps24
    go_wp2_with fail
    refine HN.out.mono ?_
    rintro r w1 ⟨x, e, k', rfl, g, hA, hC⟩
    have HGt := Lib.hid g
    clear g
    go_wp2_with fail
    go_ret2
    exact HST.out _ _ _ _ _ rfl (by simp only [Stepped]; exact ⟨trivial, x, HGt.out⟩) hA hC
  by_cases c3 : what = 3
  · subst c3
    have HN := Lib.hid (take_any (w.alloc (.cells #[.int .u8 3, .int .i64 an] 53)) b s k an (hg.nob ((Chg.refl Nob w).alloc _)) (h.nob ((Chg.refl Nob w).alloc _)))
    go_enter Tryd.func24, Tryd.ntmps24
    go_wp2_with fail
    refine HN.out.mono ?_
    rintro r w1 ⟨t, e, k', rfl, g, hA, hC⟩
    have HGt := Lib.hid g
    clear g
    go_wp2_with fail
    go_ret2
    exact HST.out _ _ _ _ _ rfl (by simp only [Stepped]; exact ⟨t, rfl, HGt.out⟩) hA hC
  have HN := Lib.hid (seek_any (w.alloc (.cells #[.int .u8 (what : Int), .int .i64 an] 53)) b s k an (h.nob ((Chg.refl Nob w).alloc _)))
  have z0 : ¬ (what : Int) = 0 := by omega
  have z1 : ¬ (what : Int) = 1 := by omega
  have z2 : ¬ (what : Int) = 2 := by omega
  have z3 : ¬ (what : Int) = 3 := by omega
  go_enter Tryd.func24, Tryd.ntmps24
  go_wp2_with fail
  refine HN.out.mono ?_
  rintro r w1 ⟨e, k', rfl, g, hA, hC⟩
  have HGt := Lib.hid g
  clear g
  go_wp2_with fail
  go_ret2
  exact HST.out _ _ _ _ _ rfl (by simp only [Stepped, if_neg c0, if_neg c1, if_neg c2, if_neg c3]; exact ⟨trivial, HGt.out⟩) hA hC
end Go.Proofs.YtnbehagdionhmaaDoor.Cur
