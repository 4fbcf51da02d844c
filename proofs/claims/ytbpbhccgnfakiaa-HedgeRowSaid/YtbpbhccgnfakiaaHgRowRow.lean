/- HedgeRow: for every plan and every row of turns the law returns true; the arguments read as they did. No condition. -/
import Derived.Test.YtbpbhccgnfakiaaHgRow
namespace Go.Proofs.Ytbpbhccgnfakiaa
open Go.ChangeShapes Go.WideShapes Go.ChangeAt Go.RowKit

set_option maxRecDepth 100000 in
theorem hedgeRow_lifted (os : Os) (started : os.Started) (H : Type) (enc : TypeId × Value → H) :
    ReturnsInHanded {} Try.checked os 4 .any (Rows.hedgeRowSpec.pre6 enc Try.prog Try.f4 Rows.hedgeRowRow.domain false) (Rows.hedgeRowSpec.post enc Try.prog Try.f4 false true false false) := by
  refine returnsInHanded_of_change (C := Try.checked) Try.own started (by kernel_rfl) Try.func4
    (ChangeSpec.witness6 (enc := enc) (C := Try.checked) false ⟨#[], #[.agg #[.slice none 0 0, .int .i64 0, .int .i64 0, .int .i64 0, .int .i64 0, .int .i64 0], .slice none 0 0], []⟩ 8 (by kernel_rfl) (by kernel_rfl) (by kernel_rfl) (by kernel_rfl)) ?_
  intro W base args ds gs before hval0 hW hcnd _
  have hval : ∀ (j : Nat) t v, Try.f4.params[j]? = some t → args[j]? = some v → Value.okWide Try.prog W .any base t v := hval0
  have hW' := hW
  obtain ⟨p, q, hA0, hV, rfl, hfz, hnd⟩ := hW
  have hA : DataW.TrodAll enc Try.prog W 0 (fun _ => true) true Try.f4.params.toList args.toList ds p := hA0
  have hA2 := hA
  rw [Try.params4] at hA hval
  obtain ⟨v0, v1, d0, d1, p0, p1, rfl, rfl, rfl, h0, h1⟩ := trodAll_two hA
  obtain ⟨rfl, rfl⟩ := trodVars_none hV
  obtain ⟨rv, R, x1, x2, x3, x4, x5, rfl, hR, hRl⟩ := open_law_plan (hval 0 _ v0 rfl rfl) h0
  obtain ⟨l, hl⟩ := open_turns_at (hval 1 _ v1 rfl rfl) h1
  refine (Hg.row_any W rv v1 R x1 x2 x3 x4 x5 l hR hRl hl).mono fun e W' ⟨he, hC⟩ => ?_
  subst he
  have hC2 : Chg (fun k => W.heap.size ≤ k) W W' := hC.mono (fun _ _ h => h.elim)
  have hlt := DataW.TrodAll.lt hA0
  have hargs := trodAll_stays (sp' := fun b => decide (b < W.heap.size)) Try.laidOut (of_decide_eq_true (by kernel_rfl)) hA2 (fun p hp => hC2.same (hlt p hp)) (fun p hp => decide_eq_true (hlt p hp))
  exact ⟨_, rfl, _, _, _, [], _, [], hW', trodAll_mk1 (shut_bool Try.underlying4 true), hargs, rfl, hC2.kept _, fun h => by cases h⟩

theorem hedgeRow_holds : Rows.HedgeRowSaid :=
  OpenClaim.holds_of_wide 4 Try.f4 rfl rfl rfl rfl rfl rfl rfl ⟨rfl, rfl, rfl, rfl, rfl⟩ rfl rfl rfl rfl rfl (by kernel_rfl) Try.func4 (by kernel_rfl)
    (of_decide_eq_true (by kernel_rfl)) (by unfold Func.isWrapper; rw [if_neg (of_decide_eq_false (by kernel_rfl))]; exact ⟨rfl, rfl⟩)
    (fun os started H enc _ => hedgeRow_lifted os started H enc)
end Go.Proofs.Ytbpbhccgnfakiaa
