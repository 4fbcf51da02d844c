/- A drawn region, operation by operation, as in XReg; what is told of a slot may besides hang on what has come up. No program is named here. -/
import Derived.Test.YtgfgmaiddmohaaaDoorReg
namespace Go.Proofs.YtgfgmaiddmohaaaDoor.Reg
open Go.RowKit

section
variable {P : Program} {ops : Array Oper}

theorem Known.stepL {T T' : Nat → Value → World → Prop} {a0 a : Act} {listed : Array Bool} {w w' : World} {i : Nat} {v : Value} (hok : okB ops a0.tmps.size = true) (hs : i < listed.size) (h : Known ops T a0 listed a w)
    (hv : T' i v w') (hm : ∀ j u, j ≠ i → listed.getD j false = true → T j u w → T' j u w') : Known ops T' a0 (listed.setIfInBounds i true) (a.put (dstOf ops i) v) w' := by
  cases hd : dstOf ops i with
  | none =>
    refine ⟨h.defers, h.size, fun j d hj hl => ?_, fun x hx => h.base x fun j hj => ?_⟩
    · by_cases e : i = j
      · subst e
        rw [hd] at hj
        cases hj
      · rw [set_at hs, if_neg e] at hl
        exact hm _ _ (fun e2 => e e2.symm) hl (h.done j d hj hl)
    · have := hx j hj
      rw [set_at hs] at this
      split at this
      · cases this
      · exact this
  | some d0 =>
    obtain ⟨hlt, hw⟩ := okB_at hok hd
    refine ⟨h.defers, by show (a.tmps.setIfInBounds d0 v).size = _; rw [Array.size_setIfInBounds]; exact h.size, fun j d hj hl => ?_, fun x hx => ?_⟩
    · show T' j ((a.tmps.setIfInBounds d0 v).getD d undef) w'
      rw [Array.getD_eq_getD_getElem?, Array.getElem?_setIfInBounds]
      by_cases e : i = j
      · subst e
        rw [hd] at hj
        injection hj with hj
        subst hj
        rw [if_pos rfl, if_pos (by rw [h.size]; exact hlt)]
        exact hv
      · have hne : d0 ≠ d := fun e2 => by
          subst e2
          have h2 := (okB_at hok hj).2
          rw [hw] at h2
          injection h2 with h2
          exact e h2
        rw [if_neg hne, ← Array.getD_eq_getD_getElem?]
        rw [set_at hs, if_neg e] at hl
        exact hm _ _ (fun e2 => e e2.symm) hl (h.done j d hj hl)
    · show (a.tmps.setIfInBounds d0 v)[x]? = _
      have hne : d0 ≠ x := fun e2 => by
        subst e2
        have h2 := hx i hw
        rw [set_at hs, if_pos rfl] at h2
        cases h2
      rw [Array.getElem?_setIfInBounds, if_neg hne]
      refine h.base x fun j hj => ?_
      have := hx j hj
      rw [set_at hs] at this
      split at this
      · cases this
      · exact this

theorem wpAny_typedL {Q : Exit → Act → World → Prop} {T : Array Bool → Nat → Value → World → Prop} {I : Array Bool → World → Prop} {a0 : Act} (hok : okB ops a0.tmps.size = true)
    (hstep : ∀ (i : Nat) (o : Oper), ops[i]? = some o → ∀ (listed : Array Bool) (a : Act) (w : World), (∀ e ∈ o.after, Region.binds .any e = true → listed.getD e.on false = true) → I listed w → Known ops (T listed) a0 listed a w → listed.getD i false = false →
      ∀ K : Act → World → Prop, (∀ v w', T (listed.setIfInBounds i true) i v w' → I (listed.setIfInBounds i true) w' → (∀ j u, j ≠ i → listed.getD j false = true → T listed j u w → T (listed.setIfInBounds i true) j u w') → K (a.put o.dst v) w') → if Region.wanted o (yielded ops a.tmps) = true then o.wp P a w K Q else K (a.put o.dst undef) w)
    (hend : ∀ (vals : Nat → Value) (listed : Array Bool) (w : World), (∀ j d, dstOf ops j = some d → T listed j (vals j) w) → (∀ j, j < ops.size → listed.getD j false = true) → I listed w → Q .normal (fill ops a0 vals) w) :
    ∀ (fuel : Nat) (listed : Array Bool) (a : Act) (w : World), listed.size = ops.size → cnt listed ops.size ≤ fuel → Known ops (T listed) a0 listed a w → I listed w → wpAny P .any ops Q fuel listed a w := by
  have hfin : ∀ (listed : Array Bool) (a : Act) (w : World), listed.size = ops.size → Known ops (T listed) a0 listed a w → I listed w → Region.ready .any ops listed = [] → Q .normal a w := by
    intro listed a w hsz hK hI hr
    have hall := all_listed hok hsz hr
    rw [fill_of hK]
    exact hend _ listed w (fun j d hj => by rw [hj]; exact hK.done j d hj (hall j (dst_lt hj))) hall hI
  intro fuel
  induction fuel with
  | zero =>
    intro listed a w hsz hc hK hI
    have hall := cnt_zero (listed := listed) ops.size (by omega)
    have hr : Region.ready .any ops listed = [] := by
      apply List.eq_nil_iff_forall_not_mem.2
      intro j hj
      obtain ⟨h1, o, ho, _⟩ := mem_ready.1 hj
      have hlt : j < ops.size := (Array.getElem?_eq_some_iff.1 ho).1
      have h2 := hall j hlt
      rw [Array.getD_eq_getD_getElem?, Array.getElem?_eq_getElem (by omega)] at h1 h2
      simp at h1 h2
      rw [h1] at h2
      cases h2
    exact ⟨hr, hfin listed a w hsz hK hI hr⟩
  | succ f ih =>
    intro listed a w hsz hc hK hI
    refine ⟨hfin listed a w hsz hK hI, fun i hi => ?_⟩
    obtain ⟨h1, o, ho, hafter⟩ := mem_ready.1 hi
    have hlt : i < ops.size := (Array.getElem?_eq_some_iff.1 ho).1
    have hi2 : i < listed.size := by omega
    have hl : listed.getD i false = false := by
      rw [Array.getD_eq_getD_getElem?, Array.getElem?_eq_getElem hi2] at h1 ⊢
      simpa using h1
    have hd : o.dst = dstOf ops i := by
      unfold dstOf
      rw [ho]
      rfl
    refine wpOp_step ho fun K' hK' => hstep i o ho listed a w hafter hI hK hl K' fun v w' hv hI' hm => hK' _ _ ?_
    rw [hd]
    exact ih _ _ _ (by rw [Array.size_setIfInBounds]; exact hsz) (by have := cnt_lt hi2 hl ops.size hlt; omega) (hK.stepL hok hi2 hv hm) hI'

theorem region_typedL {id : Nat} {Q : Exit → Act → World → Prop} {T : Array Bool → Nat → Value → World → Prop} {I : Array Bool → World → Prop} {a0 : Act} {w0 : World} (hm : P.follows .mixedOrders = true) (hok : okB ops a0.tmps.size = true)
    (h0 : I (Array.replicate ops.size false) w0.drew)
    (hstep : ∀ (i : Nat) (o : Oper), ops[i]? = some o → ∀ (listed : Array Bool) (a : Act) (w : World), (∀ e ∈ o.after, Region.binds .any e = true → listed.getD e.on false = true) → I listed w → Known ops (T listed) a0 listed a w → listed.getD i false = false →
      ∀ K : Act → World → Prop, (∀ v w', T (listed.setIfInBounds i true) i v w' → I (listed.setIfInBounds i true) w' → (∀ j u, j ≠ i → listed.getD j false = true → T listed j u w → T (listed.setIfInBounds i true) j u w') → K (a.put o.dst v) w') → if Region.wanted o (yielded ops a.tmps) = true then o.wp P a w K Q else K (a.put o.dst undef) w)
    (hend : ∀ (vals : Nat → Value) (listed : Array Bool) (w : World), (∀ j d, dstOf ops j = some d → T listed j (vals j) w) → (∀ j, j < ops.size → listed.getD j false = true) → I listed w → Q .normal (fill ops a0 vals) w) :
    (Code.region id ops true).wp P Q a0 w0 :=
  wp_region_any hm (wpAny_typedL hok hstep hend _ _ _ _ (by simp) (cnt_all _ _) (Known.start (T _) a0 _ _) h0)

theorem region_closedL {id : Nat} {Q : Exit → Act → World → Prop} {T : Array Bool → Nat → Value → World → Prop} {I : Array Bool → World → Prop} {a0 : Act} {w0 : World} (hm : P.follows .mixedOrders = true) (hok : okB ops a0.tmps.size = true)
    (h0 : I (Array.replicate ops.size false) w0.drew)
    (hstep : ∀ (i : Nat) (o : Oper), ops[i]? = some o → ∀ (listed : Array Bool) (a : Act) (w : World), i < listed.size → Closed ops listed → (∀ e ∈ o.after, Region.binds .any e = true → listed.getD e.on false = true) → I listed w → Known ops (T listed) a0 listed a w → listed.getD i false = false →
      ∀ K : Act → World → Prop, (∀ v w', T (listed.setIfInBounds i true) i v w' → I (listed.setIfInBounds i true) w' → (∀ j u, j ≠ i → listed.getD j false = true → T listed j u w → T (listed.setIfInBounds i true) j u w') → K (a.put o.dst v) w') → if Region.wanted o (yielded ops a.tmps) = true then o.wp P a w K Q else K (a.put o.dst undef) w)
    (hend : ∀ (vals : Nat → Value) (listed : Array Bool) (w : World), (∀ j d, dstOf ops j = some d → T listed j (vals j) w) → (∀ j, j < ops.size → listed.getD j false = true) → I listed w → Q .normal (fill ops a0 vals) w) :
    (Code.region id ops true).wp P Q a0 w0 := by
  refine region_typedL (T := T) (I := fun listed w => Closed ops listed ∧ I listed w) hm hok ⟨⟨by simp, fun j o _ h => ?_⟩, h0⟩ ?_ fun vals listed w h1 h2 h3 => hend vals listed w h1 h2 h3.2
  · rw [Array.getD_eq_getD_getElem?, Array.getElem?_replicate] at h
    split at h <;> simp at h
  · intro i o ho listed a w hafter hI hK hl0 K hKK
    have hi : i < listed.size := by
      rw [hI.1.1]
      exact (Array.getElem?_eq_some_iff.1 ho).1
    refine hstep i o ho listed a w hi hI.1 hafter hI.2 hK hl0 K fun v w' hv hI' hm => hKK v w' hv ⟨⟨by rw [Array.size_setIfInBounds]; exact hI.1.1, fun j o' hj hl e he hb => ?_⟩, hI'⟩ hm
    rw [set_at hi]
    split
    · rfl
    · rw [set_at hi] at hl
      split at hl
      · rename_i e2
        subst e2
        rw [ho] at hj
        injection hj with hj
        subst hj
        exact hafter e he hb
      · exact hI.1.2 j o' hj hl e he hb

/-- A slot that is written in the region, before it is written. -/
theorem base_early {T : Nat → Value → World → Prop} {a0 a : Act} {listed : Array Bool} {w : World} (h : Known ops T a0 listed a w) (x j : Nat) (hx : writer ops x = some j) (hj : listed.getD j false = false) : a.tmps.getD x undef = a0.tmps.getD x undef := by
  have := h.base x (fun i hi => by rw [hx] at hi; injection hi with hi; subst hi; exact hj)
  rw [Array.getD_eq_getD_getElem?, Array.getD_eq_getD_getElem?, this]
end
end Go.Proofs.YtgfgmaiddmohaaaDoor.Reg
