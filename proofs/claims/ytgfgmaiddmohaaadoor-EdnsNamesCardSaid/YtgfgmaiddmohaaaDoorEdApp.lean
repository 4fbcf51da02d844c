/- An option put behind a slice of options without room. -/
import Derived.Test.YtgfgmaiddmohaaaDoorEdO
namespace Go.Proofs.YtgfgmaiddmohaaaDoor.Ed
open Go.RowKit Go.Proofs.YtgfgmaiddmohaaaDoor.Cur Go.Proofs.YtgfgmaiddmohaaaDoor.Put

theorem infoOpt : (Tryd.prog.info? 61).map (fun i => (i.zero, i.size, i.bytes)) = some (some (.agg #[.int .u16 0, .string ⟨#[]⟩]), 2, 24) := by kernel_rfl

def optsV : List Opt → List Value
  | [] => []
  | o :: l => .int .u16 (o.code : Int) :: .string o.data :: optsV l
theorem optsV_len : ∀ l, (optsV l).length = l.length * 2
  | [] => rfl
  | o :: l => by rw [optsV, List.length_cons, List.length_cons, optsV_len l, List.length_cons]; omega
theorem optsV_append : ∀ l m, optsV (l ++ m) = optsV l ++ optsV m
  | [], m => rfl
  | o :: l, m => by rw [List.cons_append, optsV, optsV_append l m]; rfl
theorem optsV_get : ∀ (l : List Opt) (i : Nat) (o : Opt), l[i]? = some o → (optsV l)[i * 2]? = some (.int .u16 (o.code : Int)) ∧ (optsV l)[i * 2 + 1]? = some (.string o.data)
  | [], i, o, h => by simp at h
  | p :: l, 0, o, h => by
    simp at h
    subst h
    exact ⟨rfl, rfl⟩
  | p :: l, i + 1, o, h => by
    have h2 := optsV_get l i o (by simpa using h)
    rw [show (i + 1) * 2 = i * 2 + 1 + 1 by omega, optsV]
    simpa using h2
theorem optsV_one : ∀ (l : List Opt), ∀ u ∈ optsV l, u.oneCell' = true
  | [], u, h => by cases h
  | o :: l, u, h => by
    rw [optsV] at h
    rcases List.mem_cons.1 h with rfl | h
    · rfl
    · rcases List.mem_cons.1 h with rfl | h
      · rfl
      · exact optsV_one l u h
/-- Where each cell of a row of options stands. -/
theorem optsV_at {w : World} {b off : Nat} {l : List Opt} (h : ∀ (i : Nat) (o : Opt), l[i]? = some o → w.cell? ⟨b, off + i * 2, none⟩ = some (.int .u16 (o.code : Int)) ∧ w.cell? ⟨b, off + i * 2 + 1, none⟩ = some (.string o.data)) :
    ∀ j u, (optsV l)[j]? = some u → w.cell? ⟨b, off + j, none⟩ = some u := by
  intro j u hj
  have hlt : j < l.length * 2 := by
    have := (List.getElem?_eq_some_iff.1 hj).1
    rwa [optsV_len] at this
  have hi : l[j / 2]? = some (l[j / 2]'(by omega)) := List.getElem?_eq_getElem (by omega)
  obtain ⟨e1, e2⟩ := optsV_get l (j / 2) _ hi
  obtain ⟨k1, k2⟩ := h (j / 2) _ hi
  by_cases hp : j % 2 = 0
  · have hjj : j = j / 2 * 2 := by omega
    rw [← hjj, hj] at e1
    rw [← hjj] at k1
    rw [k1, e1]
  · have hjj : j = j / 2 * 2 + 1 := by omega
    rw [← hjj, hj] at e2
    rw [show off + j / 2 * 2 + 1 = off + j by omega] at k2
    rw [k2, e2]

theorem OptsAt.of_blk {w : World} {g : Nat} {l : List Opt} {cs : Array Value} {t : TypeId} (h : w.heap[g]? = some (.cells cs t (0, 0))) (e : cs.toList.take (l.length * 2) = optsV l) (c : Nat) (hl : l.length ≤ 9223372036854775807) (hk : ∀ o ∈ l, o.Ok) : OptsAt w (.slice (some ⟨g, 0, none⟩) l.length c) l := by
  refine ⟨_, c, rfl, hl, hk, .inr ⟨g, 0, rfl, lt_of_block h, fun i o ho => ?_⟩⟩
  have hlt : i < l.length := (List.getElem?_eq_some_iff.1 ho).1
  obtain ⟨e1, e2⟩ := optsV_get l i o ho
  rw [← e, List.getElem?_take, if_pos (by omega)] at e1 e2
  rw [cell_blk h, cell_blk h, Nat.zero_add]
  exact ⟨by simpa using e1, by simpa using e2⟩

theorem app_opt (w : World) (a : Option Addr) (acc : List Opt) (o : Opt) (g : Nat) (hok : o.Ok) (ha : acc = [] → a = none) (h : OptsAt w (.slice a acc.length acc.length) acc)
    (hg : w.heap[g]? = some (.cells #[.int .u16 (o.code : Int), .string o.data] 61 (0, 0))) (hn : acc.length + 1 ≤ 1000000) (ty : TypeId) :
    ∃ g' c' w', (Builtin.append_ #[53, 53] ty #[.slice a acc.length acc.length, .slice (some ⟨g, 0, none⟩) 1 1]).run Tryd.prog w = .ok (.slice (some ⟨g', 0, none⟩) (acc.length + 1) c') w' ∧ w.heap.size ≤ g' ∧ acc.length + 1 ≤ c' ∧ OptsAt w' (.slice (some ⟨g', 0, none⟩) (acc.length + 1) c') (acc ++ [o]) ∧ Chg Nob w w' := by
  obtain ⟨i0, hi, hz0, hz1, hz2⟩ := info_parts infoOpt
  have hnews : ∀ j u, (optsV [o])[j]? = some u → w.cell? ((⟨g, 0, none⟩ : Addr).add j) = some u := by
    intro j u hj
    rw [show ((⟨g, 0, none⟩ : Addr).add j) = ⟨g, 0 + j, none⟩ by unfold Addr.add; split <;> simp_all, Nat.zero_add, cell_blk hg]
    match j, hj with
    | 0, hj => simpa [optsV] using hj
    | 1, hj => simpa [optsV] using hj
    | j + 2, hj => simp [optsV] at hj
  obtain ⟨a', c', e, hl, hk, hcell⟩ := h
  injection e with e1 e2 e3
  subst e1
  have hk2 : ∀ p ∈ acc ++ [o], p.Ok := by
    intro p hp
    rcases List.mem_append.1 hp with hp | hp
    · exact hk p hp
    · rw [List.mem_singleton.1 hp]; exact hok
  rcases hcell with hcell | ⟨b, off, rfl, hb, hcell⟩
  · subst hcell
    rw [ha rfl]
    obtain ⟨v', w', hr, hown, hgr, _⟩ := run_append_own (P := Tryd.prog) w w.heap.size 53 ty 61 i0 _ 2 24 Tryd.underlying53 hi hz0 hz1 hz2 rfl (by decide) (.slice none 0 0) 0 [] (World.ownsRow_nil w _ _ _) ⟨g, 0, none⟩ 1 1 (optsV [o]) rfl hnews (optsV_one _) (by unfold maxLen; omega) (by omega) (Nat.le_refl _)
    rcases hown.2 with ⟨_, h2⟩ | ⟨g2, cap, cur, rfl, hb2, hg2, hcp, _, _, htake⟩
    · omega
    · exact ⟨g2, cap, w', hr, hb2, hcp, OptsAt.of_blk (l := [o]) hg2 htake cap (by simp) (by simpa using hk2), (Chg.refl Nob w).grown hgr (fun k hk => by simp [Value.ownBlock] at hk)⟩
  · have hxs : ∀ j u, (optsV acc)[j]? = some u → w.cell? ((⟨b, off, none⟩ : Addr).add j) = some u := by
      intro j u hj
      rw [show ((⟨b, off, none⟩ : Addr).add j) = ⟨b, off + j, none⟩ by unfold Addr.add; split <;> simp_all]
      exact optsV_at hcell j u hj
    have hr := run_append_grow (P := Tryd.prog) w 53 ty 61 i0 _ Tryd.underlying53 hi hz0 ⟨b, off, none⟩ acc.length acc.length (optsV acc) (by rw [optsV_len, hz1]) hxs ⟨g, 0, none⟩ 1 1 (optsV [o]) (by rw [hz1]; rfl) hnews (by omega) (by omega) (growslice_fits (by omega) (by rw [hz2]; omega))
    refine ⟨_, _, _, hr, Nat.le_refl _, grownCap_ge _ _ _ _, ?_, ((Chg.refl Nob w).drew).alloc _⟩
    have hl2 : (acc ++ [o]).length = acc.length + 1 := by simp
    rw [← hl2]
    refine OptsAt.of_blk (alloc_new w.drew _) ?_ _ (by omega) hk2
    rw [optsV_append, Array.toList_append, Array.toList_append]
    refine List.take_left' ?_
    show (optsV acc ++ optsV [o]).length = _
    rw [List.length_append, optsV_len, optsV_len, hl2, List.length_singleton]
    omega
end Go.Proofs.YtgfgmaiddmohaaaDoor.Ed
