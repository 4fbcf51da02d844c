/- The law EdnsBehind: the data of options, and of further ones behind them, are the one's, and the other's behind it; cut short: ErrShort: its row and its tied card. -/
import Derived.Test.YtgfgmaiddmohaaaDoorEdBehW
import Derived.Test.YtgfgmaiddmohaaaDoorOpenEdns
import Derived.Test.YtgfgmaiddmohaaaDoorDoor
import Derived.Test.YtgfgmaiddmohaaaDoorCards
import Derived.ChangeMaps5
import Derived.Carry
namespace Go.Proofs.YtgfgmaiddmohaaaDoor
open Go.ChangeShapes Go.WideShapes Go.ChangeAt Go.RowKit

set_option maxRecDepth 100000 in
theorem ednsBehind_lifted (os : Os) (started : os.Started) (H : Type) (enc : TypeId × Value → H) :
    ReturnsInHanded {} Tryd.checked os 11 .any (fun w args => (Rows.ednsBehindSpec.pre enc Tryd.prog Tryd.f11 [] false w args ∧ laidMetH Tryd.prog laidE w) ∧ sizedMet enc Tryd.prog Tryd.f11 (OpenSpec.ofChange Rows.ednsBehindSpec) false w args)
      (Rows.ednsBehindSpec.post enc Tryd.prog Tryd.f11 false true false false) := by
  refine returnsInHanded_of_change_and (C := Tryd.checked) (X := fun w _ => laidMetH Tryd.prog laidE w) (fun _ _ _ hh h => h.of_heap hh) Tryd.own started (by kernel_rfl) Tryd.func11
    (ChangeSpec.witness_shaped (enc := enc) (C := Tryd.checked) (os := os) (X := fun w _ => laidMetH Tryd.prog laidE w) false (World.doorLaid Tryd.prog 200 os) #[.agg #[.int .u16 0, .int .u8 0, .int .u8 0, .int .u16 0, .slice none 0 0], .agg #[.int .u16 0, .int .u8 0, .int .u8 0, .int .u16 0, .slice none 0 0], .int .i64 0] 8 rfl (World.shaped_of_RefB (by kernel_rfl) (by kernel_rfl)) (by kernel_rfl) (by kernel_rfl) (by kernel_rfl) (door_metE os _)) ?_
  intro W base args ds gs before hval0 hW _ _ hL _
  have hval : ∀ (j : Nat) t v, Tryd.f11.params[j]? = some t → args[j]? = some v → Value.okWide Tryd.prog W .any base t v := hval0
  have hW' := hW
  obtain ⟨p, q, hA0, hV, rfl, hfz, hnd⟩ := hW
  have hA : DataW.TrodAll enc Tryd.prog W 0 (fun _ => true) true Tryd.f11.params.toList args.toList ds p := hA0
  have hA2 := hA
  rw [Tryd.params11] at hA hval
  obtain ⟨v0, v1, v2, d0, d1, d2, p0, p1, p2, rfl, rfl, rfl, h0, h1, h2⟩ := trodAll_three hA
  obtain ⟨rfl, rfl⟩ := trodVars_none hV
  obtain ⟨x, u0, rfl, hx, hu0⟩ := open_edns (hval 0 _ v0 rfl rfl) h0
  obtain ⟨y, u1, rfl, hy, hu1⟩ := open_edns (hval 1 _ v1 rfl rfl) h1
  obtain ⟨n2, rfl, rfl, _, wf2⟩ := open_int Tryd.underlying3 (hval 2 _ v2 rfl rfl) h2
  simp [Lit.wf, IntKind.min, IntKind.max, IntKind.signed, IntKind.bits] at wf2
  refine (Ed.behind_any W x y u0 u1 n2 hx hy hu0 hu1 (by omega) (laid_of_E hL)).mono fun e W' ⟨he, hC⟩ => ?_
  subst he
  have hC2 : Chg (fun k => W.heap.size ≤ k) W W' := hC.mono (fun _ _ h => h.elim)
  have hlt := DataW.TrodAll.lt hA0
  have hargs := trodAll_stays (sp' := fun b => decide (b < W.heap.size)) Tryd.laidOut (of_decide_eq_true (by kernel_rfl)) hA2 (fun p hp => hC2.same (hlt p hp)) (fun p hp => decide_eq_true (hlt p hp))
  exact ⟨_, rfl, _, _, _, [], _, [], hW', trodAll_mk1 (shut_bool Tryd.underlying4 true), hargs, rfl, hC2.kept _, fun h => by cases h⟩

theorem ednsBehind_row : Rows.EdnsBehindSaid :=
  OpenClaim.holds_of_wide 11 Tryd.f11 rfl rfl rfl rfl rfl rfl rfl ⟨rfl, rfl, rfl, rfl, rfl⟩ rfl rfl rfl rfl rfl (by kernel_rfl) Tryd.func11 (by kernel_rfl)
    (of_decide_eq_true (by kernel_rfl)) (by unfold Func.isWrapper; rw [if_neg (of_decide_eq_false (by kernel_rfl))]; exact ⟨rfl, rfl⟩)
    (fun os started H enc _ => ednsBehind_lifted os started H enc)

theorem ednsBehind_holds : Rows.EdnsBehindCardSaid :=
  Claim7.holds_tied_plain_at .later [] [.handle] true Rows.ednsBehindCard.stood.harness true
    ednsBehind_row (fun _ h => by cases h) (by kernel_rfl) (fun _ h => by cases h) ednsBehind_row_tie rfl ⟨rfl, rfl⟩ (by kernel_rfl) rfl
    (fun f fn hf hfn => by
      obtain rfl : f = 11 := Option.some.inj ((show Tryd.prog.funcNamed "hustings/hustingslaw06.EdnsBehind" = some 11 by kernel_rfl).symm.trans hf) |>.symm
      obtain rfl : fn = Tryd.f11 := (Option.some.inj (Tryd.func11.symm.trans hfn)).symm
      exact ⟨by kernel_rfl, fun j t ht => by
        have hm : t ∈ Tryd.f11.params.toList := by simpa using Array.mem_of_getElem? ht
        have hall : (Tryd.f11.params.toList.all fun u => !Tryd.prog.wantsStandIn u) = true := by kernel_rfl
        exact (show Tryd.prog.wantsStandIn t = false by simpa using List.all_eq_true.1 hall t hm)⟩)
    (by kernel_rfl)
end Go.Proofs.YtgfgmaiddmohaaaDoor
