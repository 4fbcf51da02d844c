/- The law EdnsBack: what is written is read as it was; what is read is written as it was: its row and its tied card. -/
import Derived.Test.YtgfgmaiddmohaaaDoorEdBack
import Derived.Test.YtgfgmaiddmohaaaDoorOpenEdns
import Derived.Test.YtgfgmaiddmohaaaDoorDoor
import Derived.Test.YtgfgmaiddmohaaaDoorCards
import Derived.ChangeMaps5
import Derived.Carry
namespace Go.Proofs.YtgfgmaiddmohaaaDoor
open Go.ChangeShapes Go.WideShapes Go.ChangeAt Go.RowKit

set_option maxRecDepth 100000 in
theorem ednsBack_lifted (os : Os) (started : os.Started) (H : Type) (enc : TypeId × Value → H) :
    ReturnsInHanded {} Tryd.checked os 14 .any (fun w args => (Rows.ednsBackSpec.pre enc Tryd.prog Tryd.f14 [] false w args ∧ laidMetH Tryd.prog laidE w) ∧ sizedMet enc Tryd.prog Tryd.f14 (OpenSpec.ofChange Rows.ednsBackSpec) false w args)
      (Rows.ednsBackSpec.post enc Tryd.prog Tryd.f14 false true false false) := by
  refine returnsInHanded_of_change_and (C := Tryd.checked) (X := fun w _ => laidMetH Tryd.prog laidE w) (fun _ _ _ hh h => h.of_heap hh) Tryd.own started (by kernel_rfl) Tryd.func14
    (ChangeSpec.witness_shaped (enc := enc) (C := Tryd.checked) (os := os) (X := fun w _ => laidMetH Tryd.prog laidE w) false (World.doorLaid Tryd.prog 200 os) #[.agg #[.int .u16 0, .int .u8 0, .int .u8 0, .int .u16 0, .slice none 0 0], .int .u16 0, .int .u32 0, .string ⟨#[]⟩] 8 rfl (World.shaped_of_RefB (by kernel_rfl) (by kernel_rfl)) (by kernel_rfl) (by kernel_rfl) (by kernel_rfl) (door_metE os _)) ?_
  intro W base args ds gs before hval0 hW _ hsz hL _
  have hval : ∀ (j : Nat) t v, Tryd.f14.params[j]? = some t → args[j]? = some v → Value.okWide Tryd.prog W .any base t v := hval0
  have hW' := hW
  obtain ⟨p, q, hA0, hV, rfl, hfz, hnd⟩ := hW
  have hA : DataW.TrodAll enc Tryd.prog W 0 (fun _ => true) true Tryd.f14.params.toList args.toList ds p := hA0
  have hA2 := hA
  rw [Tryd.params14] at hA hval
  obtain ⟨v0, v1, v2, v3, d0, d1, d2, d3, p0, p1, p2, p3, rfl, rfl, rfl, h0, h1, h2, h3⟩ := trodAll_four hA
  obtain ⟨rfl, rfl⟩ := trodVars_none hV
  obtain ⟨x, u0, rfl, hx, hu0⟩ := open_edns (hval 0 _ v0 rfl rfl) h0
  obtain ⟨n1, rfl, rfl, _, wf1⟩ := open_int Tryd.underlying22 (hval 1 _ v1 rfl rfl) h1
  obtain ⟨n2, rfl, rfl, _, wf2⟩ := open_int Tryd.underlying58 (hval 2 _ v2 rfl rfl) h2
  obtain ⟨s, rfl, rfl, _, _⟩ := Go.ChangeMaps.open_string Tryd.underlying9 (hval 3 _ v3 rfl rfl) h3
  simp [Lit.wf, IntKind.min, IntKind.max, IntKind.signed, IntKind.bits] at wf1 wf2
  obtain ⟨cl, rfl⟩ := Int.eq_ofNat_of_zero_le (show 0 ≤ n1 by omega)
  obtain ⟨ttl, rfl⟩ := Int.eq_ofNat_of_zero_le (show 0 ≤ n2 by omega)
  have hs : s.size ≤ 140737488351232 := reach_string (j := 3) hsz rfl rfl
  refine (Ed.back_any W x u0 cl ttl s hx hu0 (by omega) (by omega) (by omega) (laid_of_E hL)).mono fun e W' ⟨he, hC⟩ => ?_
  subst he
  have hC2 : Chg (fun k => W.heap.size ≤ k) W W' := hC.mono (fun _ _ h => h.elim)
  have hlt := DataW.TrodAll.lt hA0
  have hargs := trodAll_stays (sp' := fun b => decide (b < W.heap.size)) Tryd.laidOut (of_decide_eq_true (by kernel_rfl)) hA2 (fun p hp => hC2.same (hlt p hp)) (fun p hp => decide_eq_true (hlt p hp))
  exact ⟨_, rfl, _, _, _, [], _, [], hW', trodAll_mk1 (shut_bool Tryd.underlying4 true), hargs, rfl, hC2.kept _, fun h => by cases h⟩

theorem ednsBack_row : Rows.EdnsBackSaid :=
  OpenClaim.holds_of_wide 14 Tryd.f14 rfl rfl rfl rfl rfl rfl rfl ⟨rfl, rfl, rfl, rfl, rfl⟩ rfl rfl rfl rfl rfl (by kernel_rfl) Tryd.func14 (by kernel_rfl)
    (of_decide_eq_true (by kernel_rfl)) (by unfold Func.isWrapper; rw [if_neg (of_decide_eq_false (by kernel_rfl))]; exact ⟨rfl, rfl⟩)
    (fun os started H enc _ => ednsBack_lifted os started H enc)

theorem ednsBack_holds : Rows.EdnsBackCardSaid :=
  Claim7.holds_tied_plain_at .later [] [.handle] true Rows.ednsBackCard.stood.harness true
    ednsBack_row (fun _ h => by cases h) (by kernel_rfl) (fun _ h => by cases h) ednsBack_row_tie rfl ⟨rfl, rfl⟩ (by kernel_rfl) rfl
    (fun f fn hf hfn => by
      obtain rfl : f = 14 := Option.some.inj ((show Tryd.prog.funcNamed "hustings/hustingslaw06.EdnsBack" = some 14 by kernel_rfl).symm.trans hf) |>.symm
      obtain rfl : fn = Tryd.f14 := (Option.some.inj (Tryd.func14.symm.trans hfn)).symm
      exact ⟨by kernel_rfl, fun j t ht => by
        have hm : t ∈ Tryd.f14.params.toList := by simpa using Array.mem_of_getElem? ht
        have hall : (Tryd.f14.params.toList.all fun u => !Tryd.prog.wantsStandIn u) = true := by kernel_rfl
        exact (show Tryd.prog.wantsStandIn t = false by simpa using List.all_eq_true.1 hall t hm)⟩)
    (by kernel_rfl)
end Go.Proofs.YtgfgmaiddmohaaaDoor
