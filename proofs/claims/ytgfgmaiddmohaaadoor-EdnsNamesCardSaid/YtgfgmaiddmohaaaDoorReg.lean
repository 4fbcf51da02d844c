/- A region that draws its order of evaluation, shown operation by operation: of each slot that it writes a property is told, and each operation is run once, from what it stands behind. No program is named here. -/
import Derived.Test.YtgfgmaiddmohaaaDoorHeap
import Derived.Orders
import Derived.RegionTactic
namespace Go.Proofs.YtgfgmaiddmohaaaDoor.Reg
open Go.RowKit

section
variable {P : Program} {ops : Array Oper}

/-- The slot that an operation writes; the operation that writes a slot. -/
def dstOf (ops : Array Oper) (j : Nat) : Option Nat := (ops[j]?).bind (·.dst)
def writer (ops : Array Oper) (x : Nat) : Option Nat := (List.range ops.size).find? fun j => dstOf ops j == some x
/-- Each slot is written once, and each operation stands behind earlier ones alone. -/
def okB (ops : Array Oper) (n : Nat) : Bool :=
  ((List.range ops.size).all fun j => match dstOf ops j with | some d => decide (d < n) && (writer ops d == some j) | none => true) &&
  ((List.range ops.size).all fun j => match ops[j]? with | some o => o.after.all fun e => decide (e.on < j) | none => true)

theorem dst_lt {j d : Nat} (h : dstOf ops j = some d) : j < ops.size := by
  unfold dstOf at h
  cases hj : ops[j]? with
  | none => rw [hj] at h; cases h
  | some o => exact (Array.getElem?_eq_some_iff.1 hj).1

theorem okB_at {n j d : Nat} (h : okB ops n = true) (hj : dstOf ops j = some d) : d < n ∧ writer ops d = some j := by
  unfold okB at h
  rw [Bool.and_eq_true] at h
  have h1 := List.all_eq_true.1 h.1 j (List.mem_range.2 (dst_lt hj))
  rw [hj] at h1
  simpa using h1
theorem okB_after {n j : Nat} {o : Oper} (h : okB ops n = true) (hj : ops[j]? = some o) {e : Edge} (he : e ∈ o.after) : e.on < j := by
  unfold okB at h
  rw [Bool.and_eq_true] at h
  have h1 := List.all_eq_true.1 h.2 j (List.mem_range.2 (Array.getElem?_eq_some_iff.1 hj).1)
  rw [hj] at h1
  simpa using (Array.all_eq_true_iff_forall_mem.1 h1) e he

/-- What is known when some operations have come up. -/
structure Known (ops : Array Oper) (T : Nat → Value → World → Prop) (a0 : Act) (listed : Array Bool) (a : Act) (w : World) : Prop where
  defers : a.defers = a0.defers
  size : a.tmps.size = a0.tmps.size
  done : ∀ j d, dstOf ops j = some d → listed.getD j false = true → T j (a.tmps.getD d undef) w
  base : ∀ x, (∀ j, writer ops x = some j → listed.getD j false = false) → a.tmps[x]? = a0.tmps[x]?

theorem Known.start (T : Nat → Value → World → Prop) (a0 : Act) (n : Nat) (w : World) : Known ops T a0 (Array.replicate n false) a0 w :=
  ⟨rfl, rfl, fun j d _ h => by
    rw [Array.getD_eq_getD_getElem?, Array.getElem?_replicate] at h
    split at h <;> simp at h, fun _ _ => rfl⟩

theorem set_at {listed : Array Bool} {i j : Nat} (hi : i < listed.size) : (listed.setIfInBounds i true).getD j false = if i = j then true else listed.getD j false := by
  rw [Array.getD_eq_getD_getElem?, Array.getD_eq_getD_getElem?, Array.getElem?_setIfInBounds]
  by_cases h : i = j
  · subst h
    simp [hi]
  · simp [h]

theorem Known.step {T : Nat → Value → World → Prop} {a0 a : Act} {listed : Array Bool} {w w' : World} {i : Nat} {v : Value} (hok : okB ops a0.tmps.size = true) (hs : i < listed.size) (h : Known ops T a0 listed a w)
    (hv : T i v w') (hm : ∀ j u, T j u w → T j u w') : Known ops T a0 (listed.setIfInBounds i true) (a.put (dstOf ops i) v) w' := by
  cases hd : dstOf ops i with
  | none =>
    refine ⟨h.defers, h.size, fun j d hj hl => ?_, fun x hx => h.base x fun j hj => ?_⟩
    · by_cases e : i = j
      · subst e
        rw [hd] at hj
        cases hj
      · rw [set_at hs, if_neg e] at hl
        exact hm _ _ (h.done j d hj hl)
    · have := hx j hj
      rw [set_at hs] at this
      split at this
      · cases this
      · exact this
  | some d0 =>
    obtain ⟨hlt, hw⟩ := okB_at hok hd
    refine ⟨h.defers, by show (a.tmps.setIfInBounds d0 v).size = _; rw [Array.size_setIfInBounds]; exact h.size, fun j d hj hl => ?_, fun x hx => ?_⟩
    · show T j ((a.tmps.setIfInBounds d0 v).getD d undef) w'
      rw [Array.getD_eq_getD_getElem?, Array.getElem?_setIfInBounds]
      by_cases e : i = j
      · subst e
        rw [hd] at hj
        injection hj with hj
        subst hj
        rw [if_pos rfl, if_pos (by rw [h.size]; exact hlt)]
        exact hv
      · have hne : d0 ≠ d := fun e2 => by
          subst e2
          have h2 := (okB_at hok hj).2
          rw [hw] at h2
          injection h2 with h2
          exact e h2
        rw [if_neg hne, ← Array.getD_eq_getD_getElem?]
        rw [set_at hs, if_neg e] at hl
        exact hm _ _ (h.done j d hj hl)
    · show (a.tmps.setIfInBounds d0 v)[x]? = _
      have hne : d0 ≠ x := fun e2 => by
        subst e2
        have h2 := hx i hw
        rw [set_at hs, if_pos rfl] at h2
        cases h2
      rw [Array.getElem?_setIfInBounds, if_neg hne]
      refine h.base x fun j hj => ?_
      have := hx j hj
      rw [set_at hs] at this
      split at this
      · cases this
      · exact this

/-- How many have not come up. -/
def cnt (listed : Array Bool) : Nat → Nat
  | 0 => 0
  | n + 1 => cnt listed n + (if listed.getD n false = true then 0 else 1)
theorem cnt_le {listed : Array Bool} {i : Nat} (hi : i < listed.size) : ∀ n, cnt (listed.setIfInBounds i true) n ≤ cnt listed n
  | 0 => Nat.le_refl _
  | n + 1 => by
    have h1 := cnt_le hi n
    rw [cnt, cnt, set_at hi]
    by_cases e : i = n
    · rw [if_pos e]
      simp
      omega
    · rw [if_neg e]
      omega
theorem cnt_lt {listed : Array Bool} {i : Nat} (hi : i < listed.size) (h : listed.getD i false = false) : ∀ n, i < n → cnt (listed.setIfInBounds i true) n + 1 ≤ cnt listed n
  | 0, hn => by omega
  | n + 1, hn => by
    rw [cnt, cnt, set_at hi]
    by_cases e : i = n
    · have h1 := cnt_le hi n
      subst e
      rw [if_pos rfl, h]
      simp
      omega
    · have h1 := cnt_lt hi h n (by omega)
      rw [if_neg e]
      omega
theorem cnt_zero {listed : Array Bool} : ∀ n, cnt listed n = 0 → ∀ j, j < n → listed.getD j false = true
  | 0, _, j, hj => by omega
  | n + 1, h, j, hj => by
    rw [cnt] at h
    by_cases e : j = n
    · subst e
      by_cases hl : listed.getD j false = true
      · exact hl
      · rw [if_neg hl] at h
        omega
    · exact cnt_zero n (by omega) j (by omega)

/-- If nothing may come up, all has come up. -/
theorem all_listed {listed : Array Bool} {n : Nat} (hok : okB ops n = true) (hsz : listed.size = ops.size) (h : Region.ready .any ops listed = []) : ∀ j, j < ops.size → listed.getD j false = true := by
  intro j
  induction j using Nat.strongRecOn with
  | _ j ih =>
    intro hj
    by_cases hl : listed.getD j false = true
    · exact hl
    · have hm : j ∈ Region.ready .any ops listed := mem_ready.2 ⟨by
          rw [Array.getD_eq_getD_getElem?, Array.getElem?_eq_getElem (by omega)] at hl ⊢
          simpa using hl, ops[j], Array.getElem?_eq_getElem hj, fun e he _ => by
          have hlt := okB_after hok (Array.getElem?_eq_getElem hj) he
          exact ih e.on hlt (by omega)⟩
      rw [h] at hm
      cases hm

/-- The frame behind the region. -/
def slotsL (ops : Array Oper) (vals : Nat → Value) : Nat → List Value → List Value
  | _, [] => []
  | x, v :: l => (match writer ops x with | some j => vals j | none => v) :: slotsL ops vals (x + 1) l
theorem slotsL_len (vals : Nat → Value) : ∀ (x : Nat) (l : List Value), (slotsL ops vals x l).length = l.length
  | _, [] => rfl
  | x, v :: l => by rw [slotsL, List.length_cons, slotsL_len vals (x + 1) l, List.length_cons]
theorem slotsL_get (vals : Nat → Value) : ∀ (x : Nat) (l : List Value) (y : Nat), (slotsL ops vals x l)[y]? = l[y]?.map fun v => match writer ops (x + y) with | some j => vals j | none => v
  | _, [], y => by simp [slotsL]
  | x, v :: l, 0 => by simp [slotsL]
  | x, v :: l, y + 1 => by
    rw [slotsL, List.getElem?_cons_succ, List.getElem?_cons_succ, slotsL_get vals (x + 1) l y, show x + 1 + y = x + (y + 1) by omega]
def fill (ops : Array Oper) (a0 : Act) (vals : Nat → Value) : Act := ⟨(slotsL ops vals 0 a0.tmps.toList).toArray, a0.defers⟩

theorem fill_of {T : Nat → Value → World → Prop} {a0 a : Act} {listed : Array Bool} {w : World} (h : Known ops T a0 listed a w) : a = fill ops a0 fun j => a.tmps.getD ((dstOf ops j).getD 0) undef := by
  obtain ⟨tm, df⟩ := a
  have e1 := h.defers
  have e2 := h.size
  have e3 := h.base
  dsimp only at e1 e2 e3
  subst e1
  unfold fill
  congr 1
  apply Array.ext_getElem?
  intro x
  have e9 : ∀ l : List Value, l.toArray[x]? = l[x]? := fun l => by simp
  refine Eq.trans ?_ (e9 (slotsL ops (fun j => tm.getD ((dstOf ops j).getD 0) undef) 0 a0.tmps.toList)).symm
  rw [slotsL_get, Nat.zero_add, Array.getElem?_toList]
  by_cases hx : x < tm.size
  · have hx2 : x < a0.tmps.size := by omega
    rw [Array.getElem?_eq_getElem hx, Array.getElem?_eq_getElem hx2, Option.map_some]
    cases hw : writer ops x with
    | none =>
      have := e3 x (fun j hj => by rw [hw] at hj; cases hj)
      rw [Array.getElem?_eq_getElem hx, Array.getElem?_eq_getElem hx2] at this
      exact this
    | some j =>
      have hd : dstOf ops j = some x := by
        have := List.find?_some hw
        simpa using this
      simp [hd, hx]
  · rw [Array.getElem?_eq_none (by omega), Array.getElem?_eq_none (by omega)]
    rfl

theorem wpAny_typed {Q : Exit → Act → World → Prop} {T : Nat → Value → World → Prop} {I : Array Bool → World → Prop} {a0 : Act} (hok : okB ops a0.tmps.size = true)
    (hstep : ∀ (i : Nat) (o : Oper), ops[i]? = some o → ∀ (listed : Array Bool) (a : Act) (w : World), (∀ e ∈ o.after, Region.binds .any e = true → listed.getD e.on false = true) → I listed w → Known ops T a0 listed a w → listed.getD i false = false →
      ∀ K : Act → World → Prop, (∀ v w', T i v w' → I (listed.setIfInBounds i true) w' → (∀ j u, T j u w → T j u w') → K (a.put o.dst v) w') → if Region.wanted o (yielded ops a.tmps) = true then o.wp P a w K Q else K (a.put o.dst undef) w)
    (hend : ∀ (vals : Nat → Value) (listed : Array Bool) (w : World), (∀ j d, dstOf ops j = some d → T j (vals j) w) → (∀ j, j < ops.size → listed.getD j false = true) → I listed w → Q .normal (fill ops a0 vals) w) :
    ∀ (fuel : Nat) (listed : Array Bool) (a : Act) (w : World), listed.size = ops.size → cnt listed ops.size ≤ fuel → Known ops T a0 listed a w → I listed w → wpAny P .any ops Q fuel listed a w := by
  have hfin : ∀ (listed : Array Bool) (a : Act) (w : World), listed.size = ops.size → Known ops T a0 listed a w → I listed w → Region.ready .any ops listed = [] → Q .normal a w := by
    intro listed a w hsz hK hI hr
    have hall := all_listed hok hsz hr
    rw [fill_of hK]
    exact hend _ listed w (fun j d hj => by rw [hj]; exact hK.done j d hj (hall j (dst_lt hj))) hall hI
  intro fuel
  induction fuel with
  | zero =>
    intro listed a w hsz hc hK hI
    have hall := cnt_zero (listed := listed) ops.size (by omega)
    have hr : Region.ready .any ops listed = [] := by
      apply List.eq_nil_iff_forall_not_mem.2
      intro j hj
      obtain ⟨h1, o, ho, _⟩ := mem_ready.1 hj
      have hlt : j < ops.size := (Array.getElem?_eq_some_iff.1 ho).1
      have h2 := hall j hlt
      rw [Array.getD_eq_getD_getElem?, Array.getElem?_eq_getElem (by omega)] at h1 h2
      simp at h1 h2
      rw [h1] at h2
      cases h2
    exact ⟨hr, hfin listed a w hsz hK hI hr⟩
  | succ f ih =>
    intro listed a w hsz hc hK hI
    refine ⟨hfin listed a w hsz hK hI, fun i hi => ?_⟩
    obtain ⟨h1, o, ho, hafter⟩ := mem_ready.1 hi
    have hlt : i < ops.size := (Array.getElem?_eq_some_iff.1 ho).1
    have hi2 : i < listed.size := by omega
    have hl : listed.getD i false = false := by
      rw [Array.getD_eq_getD_getElem?, Array.getElem?_eq_getElem hi2] at h1 ⊢
      simpa using h1
    have hd : o.dst = dstOf ops i := by
      unfold dstOf
      rw [ho]
      rfl
    refine wpOp_step ho fun K' hK' => hstep i o ho listed a w hafter hI hK hl K' fun v w' hv hI' hm => hK' _ _ ?_
    rw [hd]
    exact ih _ _ _ (by rw [Array.size_setIfInBounds]; exact hsz) (by have := cnt_lt hi2 hl ops.size hlt; omega) (hK.step hok hi2 hv hm) hI'

theorem cnt_all (n : Nat) (listed : Array Bool) : cnt listed n ≤ n := by
  induction n with
  | zero => exact Nat.le_refl _
  | succ n ih =>
    rw [cnt]
    split <;> omega

theorem region_typed0 {id : Nat} {Q : Exit → Act → World → Prop} {T : Nat → Value → World → Prop} {I : Array Bool → World → Prop} {a0 : Act} {w0 : World} (hm : P.follows .mixedOrders = true) (hok : okB ops a0.tmps.size = true)
    (h0 : I (Array.replicate ops.size false) w0.drew)
    (hstep : ∀ (i : Nat) (o : Oper), ops[i]? = some o → ∀ (listed : Array Bool) (a : Act) (w : World), (∀ e ∈ o.after, Region.binds .any e = true → listed.getD e.on false = true) → I listed w → Known ops T a0 listed a w → listed.getD i false = false →
      ∀ K : Act → World → Prop, (∀ v w', T i v w' → I (listed.setIfInBounds i true) w' → (∀ j u, T j u w → T j u w') → K (a.put o.dst v) w') → if Region.wanted o (yielded ops a.tmps) = true then o.wp P a w K Q else K (a.put o.dst undef) w)
    (hend : ∀ (vals : Nat → Value) (listed : Array Bool) (w : World), (∀ j d, dstOf ops j = some d → T j (vals j) w) → (∀ j, j < ops.size → listed.getD j false = true) → I listed w → Q .normal (fill ops a0 vals) w) :
    (Code.region id ops true).wp P Q a0 w0 :=
  wp_region_any hm (wpAny_typed hok hstep hend _ _ _ _ (by simp) (cnt_all _ _) (Known.start T a0 _ _) h0)

theorem region_typed {id : Nat} {Q : Exit → Act → World → Prop} {T : Nat → Value → World → Prop} {I : Array Bool → World → Prop} {a0 : Act} {w0 : World} (hm : P.follows .mixedOrders = true) (hok : okB ops a0.tmps.size = true)
    (h0 : I (Array.replicate ops.size false) w0.drew)
    (hstep : ∀ (i : Nat) (o : Oper), ops[i]? = some o → ∀ (listed : Array Bool) (a : Act) (w : World), (∀ e ∈ o.after, Region.binds .any e = true → listed.getD e.on false = true) → I listed w → Known ops T a0 listed a w →
      ∀ K : Act → World → Prop, (∀ v w', T i v w' → I (listed.setIfInBounds i true) w' → (∀ j u, T j u w → T j u w') → K (a.put o.dst v) w') → if Region.wanted o (yielded ops a.tmps) = true then o.wp P a w K Q else K (a.put o.dst undef) w)
    (hend : ∀ (vals : Nat → Value) (listed : Array Bool) (w : World), (∀ j d, dstOf ops j = some d → T j (vals j) w) → (∀ j, j < ops.size → listed.getD j false = true) → I listed w → Q .normal (fill ops a0 vals) w) :
    (Code.region id ops true).wp P Q a0 w0 :=
  region_typed0 hm hok h0 (fun i o ho listed a w h1 h2 h3 _ => hstep i o ho listed a w h1 h2 h3) hend

/-- What has come up stands behind what has come up. -/
def Closed (ops : Array Oper) (listed : Array Bool) : Prop := listed.size = ops.size ∧ ∀ j o, ops[j]? = some o → listed.getD j false = true → ∀ e ∈ o.after, Region.binds .any e = true → listed.getD e.on false = true

/-- The same; and it is known that what comes up has not yet come up, and that what has come up is closed. -/
theorem region_closed {id : Nat} {Q : Exit → Act → World → Prop} {T : Nat → Value → World → Prop} {I : Array Bool → World → Prop} {a0 : Act} {w0 : World} (hm : P.follows .mixedOrders = true) (hok : okB ops a0.tmps.size = true)
    (h0 : I (Array.replicate ops.size false) w0.drew)
    (hstep : ∀ (i : Nat) (o : Oper), ops[i]? = some o → ∀ (listed : Array Bool) (a : Act) (w : World), i < listed.size → Closed ops listed → (∀ e ∈ o.after, Region.binds .any e = true → listed.getD e.on false = true) → I listed w → Known ops T a0 listed a w → listed.getD i false = false →
      ∀ K : Act → World → Prop, (∀ v w', T i v w' → I (listed.setIfInBounds i true) w' → (∀ j u, T j u w → T j u w') → K (a.put o.dst v) w') → if Region.wanted o (yielded ops a.tmps) = true then o.wp P a w K Q else K (a.put o.dst undef) w)
    (hend : ∀ (vals : Nat → Value) (listed : Array Bool) (w : World), (∀ j d, dstOf ops j = some d → T j (vals j) w) → (∀ j, j < ops.size → listed.getD j false = true) → I listed w → Q .normal (fill ops a0 vals) w) :
    (Code.region id ops true).wp P Q a0 w0 := by
  refine region_typed0 (T := T) (I := fun listed w => Closed ops listed ∧ I listed w) hm hok ⟨⟨by simp, fun j o _ h => ?_⟩, h0⟩ ?_ fun vals listed w h1 h2 h3 => hend vals listed w h1 h2 h3.2
  · rw [Array.getD_eq_getD_getElem?, Array.getElem?_replicate] at h
    split at h <;> simp at h
  · intro i o ho listed a w hafter hI hK hl0 K hKK
    have hi : i < listed.size := by
      rw [hI.1.1]
      exact (Array.getElem?_eq_some_iff.1 ho).1
    refine hstep i o ho listed a w hi hI.1 hafter hI.2 hK hl0 K fun v w' hv hI' hm => hKK v w' hv ⟨⟨by rw [Array.size_setIfInBounds]; exact hI.1.1, fun j o' hj hl e he hb => ?_⟩, hI'⟩ hm
    rw [set_at hi]
    split
    · rfl
    · rw [set_at hi] at hl
      split at hl
      · rename_i e2
        subst e2
        rw [ho] at hj
        injection hj with hj
        subst hj
        exact hafter e he hb
      · exact hI.1.2 j o' hj hl e he hb

/-! One operation at a time. -/
theorem base_at {T : Nat → Value → World → Prop} {a0 a : Act} {listed : Array Bool} {w : World} (h : Known ops T a0 listed a w) (x : Nat) (hx : writer ops x = none) : a.tmps.getD x undef = a0.tmps.getD x undef := by
  have := h.base x (fun j hj => by rw [hx] at hj; cases hj)
  rw [Array.getD_eq_getD_getElem?, Array.getD_eq_getD_getElem?, this]
def needs (ops : Array Oper) (i j : Nat) : Bool := ((ops[i]?).map fun o => o.after.any fun e => e.on == j && Region.binds .any e).getD false
theorem listed_of {i j : Nat} {o : Oper} {listed : Array Bool} (ho : ops[i]? = some o) (hafter : ∀ e ∈ o.after, Region.binds .any e = true → listed.getD e.on false = true) (h : needs ops i j = true) : listed.getD j false = true := by
  unfold needs at h
  rw [ho] at h
  obtain ⟨e, he, h2⟩ := Array.any_eq_true'.1 (show (o.after.any fun e => e.on == j && Region.binds .any e) = true from h)
  rw [Bool.and_eq_true, beq_iff_eq] at h2
  rw [← h2.1]
  exact hafter e he h2.2

theorem wp_val {o : Oper} {a : Act} {w w' : World} {K : Act → World → Prop} {Q : Exit → Act → World → Prop} {v : Value} (hr : (execOp a.eval o).run P w = .ok (.value v) w') (hk : K (a.put o.dst v) w') : o.wp P a w K Q := by
  unfold Oper.wp
  rw [hr, Oper.upon_value]
  exact hk
theorem wp_unit {o : Oper} {a : Act} {w w' : World} {K : Act → World → Prop} {Q : Exit → Act → World → Prop} (hr : (execOp a.eval o).run P w = .ok .skip w') (hk : K (a.put o.dst undef) w') : o.wp P a w K Q := by
  unfold Oper.wp
  rw [hr, Oper.upon_skip]
  exact hk
theorem wp_call {o : Oper} {a : Act} {w w' : World} {K : Act → World → Prop} {Q : Exit → Act → World → Prop} {f : FuncId} {args : Array Value} {R : Value → World → Prop} (hr : (execOp a.eval o).run P w = .ok (.enter f args) w')
    (hc : Calls P f args w' fun e w2 => ∃ v, e = .returned v ∧ R v w2) (hk : ∀ v w2, R v w2 → K (a.put o.dst v) w2) : o.wp P a w K Q := by
  unfold Oper.wp
  rw [hr, Oper.upon_enter]
  refine hc.mono ?_
  rintro e w2 ⟨v, rfl, hv⟩
  exact hk v w2 hv

theorem wanted_none {o : Oper} {y : Nat → Option Bool} (h : o.guard = none) : Region.wanted o y = true := by
  unfold Region.wanted
  rw [h]
theorem wanted_some {o : Oper} {a : Act} {j d : Nat} {b : Bool} (h : o.guard = some (j, b)) (hd : dstOf ops j = some d) (hv : a.tmps.getD d undef = .bool b) : Region.wanted o (yielded ops a.tmps) = true := by
  have h1 : a.tmps[d]? = some (.bool b) := by
    rw [Array.getD_eq_getD_getElem?] at hv
    cases hx : a.tmps[d]? with
    | none => rw [hx] at hv; cases hv
    | some z => rw [hx] at hv; exact congrArg some hv
  have h2 : yielded ops a.tmps j = some b := by
    unfold yielded
    rw [show ((ops[j]?).bind (·.dst)) = some d from hd]
    simp [h1]
  unfold Region.wanted
  rw [h]
  simp [h2]

/-- What stands behind an operation that has not come up has not come up. -/
theorem not_yet {listed : Array Bool} {i j : Nat} (hc : Closed ops listed) (h : needs ops j i = true) (hi : listed.getD i false = false) : listed.getD j false = false := by
  cases hl : listed.getD j false with
  | false => rfl
  | true =>
    cases ho : ops[j]? with
    | none =>
      unfold needs at h
      rw [ho] at h
      cases h
    | some o =>
      have := listed_of ho (hc.2 j o ho hl) h
      rw [hi] at this
      cases this
end
end Go.Proofs.YtgfgmaiddmohaaaDoor.Reg
