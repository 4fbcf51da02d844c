/- The law of Read behind Write: its row and its tied card. -/
import Derived.Test.YtgfgmaiddmohaaaDoorHeadBack
import Derived.Test.YtgfgmaiddmohaaaDoorDoorB
import Derived.Test.YtgfgmaiddmohaaaDoorOpenHead
import Derived.Test.YtgfgmaiddmohaaaDoorCards
import Derived.ChangeMaps5
import Derived.Carry
namespace Go.Proofs.YtgfgmaiddmohaaaDoor
open Go.ChangeShapes Go.WideShapes Go.ChangeAt Go.RowKit

set_option maxRecDepth 100000 in
theorem headBack_lifted (os : Os) (started : os.Started) (H : Type) (enc : TypeId × Value → H) :
    ReturnsInHanded {} Tryd.checked os 9 .any (fun w args => (Rows.headBackSpec.pre enc Tryd.prog Tryd.f9 [] false w args ∧ laidMetH Tryd.prog laidB w) ∧ sizedMet enc Tryd.prog Tryd.f9 (OpenSpec.ofChange Rows.headBackSpec) false w args)
      (Rows.headBackSpec.post enc Tryd.prog Tryd.f9 false true false false) := by
  refine returnsInHanded_of_change_and (C := Tryd.checked) (X := fun w _ => laidMetH Tryd.prog laidB w) (fun _ _ _ hh h => h.of_heap hh) Tryd.own started (by kernel_rfl) Tryd.func9
    (ChangeSpec.witness_shaped (enc := enc) (C := Tryd.checked) (os := os) (X := fun w _ => laidMetH Tryd.prog laidB w) false (World.doorLaid Tryd.prog 200 os) #[.agg #[.int .u16 0, .bool false, .int .u8 0, .bool false, .bool false, .bool false, .bool false, .bool false, .bool false, .bool false, .int .u8 0], .agg #[.int .i64 0, .int .i64 0, .int .i64 0, .int .i64 0], .string ⟨#[]⟩, .int .u16 0] 8 rfl (World.shaped_of_RefB (by kernel_rfl) (by kernel_rfl)) (by kernel_rfl) (by kernel_rfl) (by kernel_rfl) (door_metB os _)) ?_
  intro W base args ds gs before hval0 hW _ hsz hL _
  have hval : ∀ (j : Nat) t v, Tryd.f9.params[j]? = some t → args[j]? = some v → Value.okWide Tryd.prog W .any base t v := hval0
  have hW' := hW
  obtain ⟨p, q, hA0, hV, rfl, hfz, hnd⟩ := hW
  have hA : DataW.TrodAll enc Tryd.prog W 0 (fun _ => true) true Tryd.f9.params.toList args.toList ds p := hA0
  have hA2 := hA
  rw [Tryd.params9] at hA hval
  obtain ⟨v0, v1, v2, v3, d0, d1, d2, d3, p0, p1, p2, p3, rfl, rfl, rfl, h0, h1, h2, h3⟩ := trodAll_four hA
  obtain ⟨rfl, rfl⟩ := trodVars_none hV
  obtain ⟨h, rfl, hid⟩ := open_head (hval 0 _ v0 rfl rfl) h0
  obtain ⟨x, y, z, u, rfl⟩ := open_four (hval 1 _ v1 rfl rfl) h1
  obtain ⟨s, rfl, rfl, _, _⟩ := Go.ChangeMaps.open_string Tryd.underlying9 (hval 2 _ v2 rfl rfl) h2
  obtain ⟨n3, rfl, rfl, _, wf3⟩ := open_int Tryd.underlying22 (hval 3 _ v3 rfl rfl) h3
  simp [Lit.wf, IntKind.min, IntKind.max, IntKind.signed, IntKind.bits] at wf3
  obtain ⟨f, rfl⟩ := Int.eq_ofNat_of_zero_le (show 0 ≤ n3 by omega)
  have hs : s.size ≤ 140737488351232 := reach_string (j := 2) hsz rfl rfl
  refine (Hd.back_any h x y z u s f W hid (by omega) (by omega) (laid_of_B hL).2).mono fun e W' ⟨he, hC⟩ => ?_
  subst he
  have hC2 : Chg (fun k => W.heap.size ≤ k) W W' := hC.mono (fun _ _ h => h.elim)
  have hlt := DataW.TrodAll.lt hA0
  have hargs := trodAll_stays (sp' := fun b => decide (b < W.heap.size)) Tryd.laidOut (of_decide_eq_true (by kernel_rfl)) hA2 (fun p hp => hC2.same (hlt p hp)) (fun p hp => decide_eq_true (hlt p hp))
  exact ⟨_, rfl, _, _, _, [], _, [], hW', trodAll_mk1 (shut_bool Tryd.underlying4 true), hargs, rfl, hC2.kept _, fun h => by cases h⟩

theorem headBack_row : Rows.HeadBackSaid :=
  OpenClaim.holds_of_wide 9 Tryd.f9 rfl rfl rfl rfl rfl rfl rfl ⟨rfl, rfl, rfl, rfl, rfl⟩ rfl rfl rfl rfl rfl (by kernel_rfl) Tryd.func9 (by kernel_rfl)
    (of_decide_eq_true (by kernel_rfl)) (by unfold Func.isWrapper; rw [if_neg (of_decide_eq_false (by kernel_rfl))]; exact ⟨rfl, rfl⟩)
    (fun os started H enc _ => headBack_lifted os started H enc)

theorem headBack_holds : Rows.HeadBackCardSaid :=
  Claim7.holds_tied_plain_at .later [] [.handle, .data] true Rows.headBackCard.stood.harness true
    headBack_row (fun _ h => by cases h) (by kernel_rfl) (fun _ h => by cases h) headBack_row_tie rfl ⟨rfl, rfl⟩ (by kernel_rfl) rfl
    (fun f fn hf hfn => by
      obtain rfl : f = 9 := Option.some.inj ((show Tryd.prog.funcNamed "hustings/hustingslaw03.HeadBack" = some 9 by kernel_rfl).symm.trans hf) |>.symm
      obtain rfl : fn = Tryd.f9 := (Option.some.inj (Tryd.func9.symm.trans hfn)).symm
      exact ⟨by kernel_rfl, fun j t ht => by
        have hm : t ∈ Tryd.f9.params.toList := by simpa using Array.mem_of_getElem? ht
        have hall : (Tryd.f9.params.toList.all fun u => !Tryd.prog.wantsStandIn u) = true := by kernel_rfl
        exact (show Tryd.prog.wantsStandIn t = false by simpa using List.all_eq_true.1 hall t hm)⟩)
    (by kernel_rfl)
end Go.Proofs.YtgfgmaiddmohaaaDoor
