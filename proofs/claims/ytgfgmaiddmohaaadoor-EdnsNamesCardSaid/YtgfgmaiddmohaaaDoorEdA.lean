/- Options put behind options. -/
import Derived.Test.YtgfgmaiddmohaaaDoorEdLong
namespace Go.Proofs.YtgfgmaiddmohaaaDoor.Ed
open Go.RowKit Go.Proofs.YtgfgmaiddmohaaaDoor.Cur Go.Proofs.YtgfgmaiddmohaaaDoor.Put

/-- The row of no options: what a literal of none gives. -/
theorem own_none {w : World} {g : Nat} (h : w.heap[g]? = some (.cells #[] 61 (0, 0))) : w.ownsRow g 61 2 (.slice (some ⟨g, 0, none⟩) 0 0) ([] : List Opt).length (optsV []) :=
  ⟨rfl, .inr ⟨g, 0, #[], rfl, Nat.le_refl _, h, Nat.le_refl _, Nat.zero_le _, rfl, rfl⟩⟩

theorem own_opts {w : World} {base : Nat} {v : Value} {l : List Opt} (h : w.ownsRow base 61 2 v l.length (optsV l)) (hl : l.length ≤ 9223372036854775807) (hk : ∀ o ∈ l, o.Ok) : OptsAt w v l := by
  rcases h.2 with ⟨rfl, h0⟩ | ⟨g, cap, cur, rfl, _, hg, hcp, _, _, htake⟩
  · obtain rfl := List.eq_nil_of_length_eq_zero h0
    exact OptsAt.nil w none 0
  · exact OptsAt.of_blk hg htake cap hl hk

theorem app_opts {ops : Array Oper} {rest : List Oper} {o : Oper} {a : Act} {Q : Exit → Act → World → Prop} (w : World) (hgd : o.guard = none) (s x : Operand)
    (ho : o.op = .call { callee := .builtin .append, args := #[s, x], argTypes := #[53, 53] })
    (base : Nat) (v : Value) (l : List Opt) (hs : a.eval s = v) (hown : w.ownsRow base 61 2 v l.length (optsV l)) (hlk : ∀ o ∈ l, o.Ok)
    (y : Value) (u : List Opt) (hx : a.eval x = y) (hy : OptsAt w y u) (hn : l.length + u.length ≤ 1000) (hbase : base ≤ w.heap.size)
    (h : ∀ a3 c3 w', w'.ownsRow base 61 2 (.slice a3 (l ++ u).length c3) (l ++ u).length (optsV (l ++ u)) → OptsAt w' (.slice a3 (l ++ u).length c3) (l ++ u) → Chg (fun j => base ≤ j) w w' → wpList Tryd.prog ops Q rest (a.put o.dst (.slice a3 (l ++ u).length c3)) w') : wpList Tryd.prog ops Q (o :: rest) a w := by
  obtain ⟨i0, hi, hz0, hz1, hz2⟩ := info_parts infoOpt
  obtain ⟨ad, c, rfl, _, huk, hu⟩ := hy
  have hge : ∀ k, v.ownBlock = some k → base ≤ k := fun k hk => by
    rcases hown.2 with ⟨rfl, _⟩ | ⟨g, cap, cur, rfl, hbg, _⟩
    · cases hk
    · have : g = k := by simpa [Value.ownBlock] using hk
      omega
  have hall : ∀ o ∈ l ++ u, o.Ok := fun p hp => by
    rcases List.mem_append.1 hp with hp | hp
    · exact hlk p hp
    · exact huk p hp
  have hdone : ∀ v' w', w'.ownsRow base 61 2 v' (l.length + u.length) (optsV l ++ optsV u) → w.grownBy w' v.ownBlock → wpList Tryd.prog ops Q rest (a.put o.dst v') w' := by
    intro v' w' h1 h2
    rw [← List.length_append, ← optsV_append] at h1
    obtain ⟨a3, c3, rfl, _⟩ := own_form h1
    exact h a3 c3 w' h1 (own_opts h1 (by rw [List.length_append]; omega) hall) ((Chg.refl _ w).grown h2 fun k hk => .inl (hge k hk))
  rcases hu with hu | ⟨b, off, rfl, _, hcell⟩
  · subst hu
    rcases ad with _ | ad
    · have hrun : (Builtin.append_ #[53, 53] o.type #[v, .slice none 0 c]).run Tryd.prog w = .ok v w := by
        rcases hown.2 with ⟨rfl, _⟩ | ⟨g, cap, cur, rfl, _, _, hnc, _⟩
        · simp [Builtin.append_, run_underlying Tryd.underlying53, sizeOf, typeInfo, hi, Builtin.lenOf, Builtin.firstCells]
        · simp [Builtin.append_, run_underlying Tryd.underlying53, sizeOf, typeInfo, hi, Builtin.lenOf, Builtin.firstCells, hnc, storeCells]
      refine Lib.wpList_append_run _ hgd _ _ _ _ ho _ _ hs hx _ _ hrun ?_
      exact hdone v w (by simpa [optsV] using hown) (World.grownBy.refl w _)
    · exact wpList_append_own2 w hgd s x 53 ho base 61 i0 _ 2 24 Tryd.underlying53 hi hz0 hz1 hz2 rfl (by decide) v l.length (optsV l) hs hown ad 0 c [] hx rfl (by intro j z hj; cases hj) (by intro z hz; cases hz) (by unfold maxLen; omega) (by simp only [List.length_nil] at hn; omega) hbase
        (fun v' w' h1 h2 _ => hdone v' w' (by simpa [optsV] using h1) h2)
  · refine wpList_append_own2 w hgd s x 53 ho base 61 i0 _ 2 24 Tryd.underlying53 hi hz0 hz1 hz2 rfl (by decide) v l.length (optsV l) hs hown ⟨b, off, none⟩ u.length c (optsV u) hx (by rw [optsV_len]) ?_ (optsV_one u) (by unfold maxLen; omega) (by omega) hbase (fun v' w' h1 h2 _ => hdone v' w' h1 h2)
    intro j z hj
    rw [show ((⟨b, off, none⟩ : Addr).add j) = ⟨b, off + j, none⟩ by unfold Addr.add; split <;> simp_all]
    exact optsV_at hcell j z hj
end Go.Proofs.YtgfgmaiddmohaaaDoor.Ed
