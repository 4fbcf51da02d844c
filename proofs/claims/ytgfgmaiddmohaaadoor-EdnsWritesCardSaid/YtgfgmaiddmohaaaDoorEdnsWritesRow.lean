/- The law EdnsWrites: what is written of any EDNS, whether two say the same, any code of 12 bits, and its parts, are the document's: its row and its tied card. -/
import Derived.Test.YtgfgmaiddmohaaaDoorEdWrites
import Derived.Test.YtgfgmaiddmohaaaDoorOpenFive
import Derived.Test.YtgfgmaiddmohaaaDoorOpenEdns
import Derived.Test.YtgfgmaiddmohaaaDoorDoor
import Derived.Test.YtgfgmaiddmohaaaDoorCards
import Derived.ChangeMaps5
import Derived.Carry
namespace Go.Proofs.YtgfgmaiddmohaaaDoor
open Go.ChangeShapes Go.WideShapes Go.ChangeAt Go.RowKit

set_option maxRecDepth 100000 in
theorem ednsWrites_lifted (os : Os) (started : os.Started) (H : Type) (enc : TypeId × Value → H) :
    ReturnsInHanded {} Tryd.checked os 13 .any (fun w args => (Rows.ednsWritesSpec.pre enc Tryd.prog Tryd.f13 [] false w args ∧ laidMetH Tryd.prog laidE w) ∧ sizedMet enc Tryd.prog Tryd.f13 (OpenSpec.ofChange Rows.ednsWritesSpec) false w args)
      (Rows.ednsWritesSpec.post enc Tryd.prog Tryd.f13 false true false false) := by
  refine returnsInHanded_of_change_and (C := Tryd.checked) (X := fun w _ => laidMetH Tryd.prog laidE w) (fun _ _ _ hh h => h.of_heap hh) Tryd.own started (by kernel_rfl) Tryd.func13
    (ChangeSpec.witness_shaped (enc := enc) (C := Tryd.checked) (os := os) (X := fun w _ => laidMetH Tryd.prog laidE w) false (World.doorLaid Tryd.prog 200 os) #[.agg #[.int .u16 0, .int .u8 0, .int .u8 0, .int .u16 0, .slice none 0 0], .agg #[.int .u16 0, .int .u8 0, .int .u8 0, .int .u16 0, .slice none 0 0], .int .u8 0, .int .u8 0, .int .i64 0] 8 rfl (World.shaped_of_RefB (by kernel_rfl) (by kernel_rfl)) (by kernel_rfl) (by kernel_rfl) (by kernel_rfl) (door_metE os _)) ?_
  intro W base args ds gs before hval0 hW _ _ hL _
  have hval : ∀ (j : Nat) t v, Tryd.f13.params[j]? = some t → args[j]? = some v → Value.okWide Tryd.prog W .any base t v := hval0
  have hW' := hW
  obtain ⟨p, q, hA0, hV, rfl, hfz, hnd⟩ := hW
  have hA : DataW.TrodAll enc Tryd.prog W 0 (fun _ => true) true Tryd.f13.params.toList args.toList ds p := hA0
  have hA2 := hA
  rw [Tryd.params13] at hA hval
  obtain ⟨v0, v1, v2, v3, v4, d0, d1, d2, d3, d4, p0, p1, p2, p3, p4, rfl, rfl, rfl, h0, h1, h2, h3, h4⟩ := trodAll_five hA
  obtain ⟨rfl, rfl⟩ := trodVars_none hV
  obtain ⟨x, u0, rfl, hx, hu0⟩ := open_edns (hval 0 _ v0 rfl rfl) h0
  obtain ⟨y, u1, rfl, hy, hu1⟩ := open_edns (hval 1 _ v1 rfl rfl) h1
  obtain ⟨n3, rfl, rfl, _, wf3⟩ := open_int Tryd.underlying5 (hval 2 _ v2 rfl rfl) h2
  obtain ⟨n4, rfl, rfl, _, wf4⟩ := open_int Tryd.underlying5 (hval 3 _ v3 rfl rfl) h3
  obtain ⟨n5, rfl, rfl, _, wf5⟩ := open_int Tryd.underlying3 (hval 4 _ v4 rfl rfl) h4
  simp [Lit.wf, IntKind.min, IntKind.max, IntKind.signed, IntKind.bits] at wf3 wf4 wf5
  obtain ⟨cd, rfl⟩ := Int.eq_ofNat_of_zero_le (show 0 ≤ n3 by omega)
  obtain ⟨ex, rfl⟩ := Int.eq_ofNat_of_zero_le (show 0 ≤ n4 by omega)
  refine (Ed.writes_any W x y u0 u1 cd ex n5 hx hy hu0 hu1 (by omega) (by omega) (by omega) (laid_of_E hL)).mono fun e W' ⟨he, hC⟩ => ?_
  subst he
  have hC2 : Chg (fun k => W.heap.size ≤ k) W W' := hC.mono (fun _ _ h => h.elim)
  have hlt := DataW.TrodAll.lt hA0
  have hargs := trodAll_stays (sp' := fun b => decide (b < W.heap.size)) Tryd.laidOut (of_decide_eq_true (by kernel_rfl)) hA2 (fun p hp => hC2.same (hlt p hp)) (fun p hp => decide_eq_true (hlt p hp))
  exact ⟨_, rfl, _, _, _, [], _, [], hW', trodAll_mk1 (shut_bool Tryd.underlying4 true), hargs, rfl, hC2.kept _, fun h => by cases h⟩

theorem ednsWrites_row : Rows.EdnsWritesSaid :=
  OpenClaim.holds_of_wide 13 Tryd.f13 rfl rfl rfl rfl rfl rfl rfl ⟨rfl, rfl, rfl, rfl, rfl⟩ rfl rfl rfl rfl rfl (by kernel_rfl) Tryd.func13 (by kernel_rfl)
    (of_decide_eq_true (by kernel_rfl)) (by unfold Func.isWrapper; rw [if_neg (of_decide_eq_false (by kernel_rfl))]; exact ⟨rfl, rfl⟩)
    (fun os started H enc _ => ednsWrites_lifted os started H enc)

theorem ednsWrites_holds : Rows.EdnsWritesCardSaid :=
  Claim7.holds_tied_plain_at .later [] [.handle] true Rows.ednsWritesCard.stood.harness true
    ednsWrites_row (fun _ h => by cases h) (by kernel_rfl) (fun _ h => by cases h) ednsWrites_row_tie rfl ⟨rfl, rfl⟩ (by kernel_rfl) rfl
    (fun f fn hf hfn => by
      obtain rfl : f = 13 := Option.some.inj ((show Tryd.prog.funcNamed "hustings/hustingslaw06.EdnsWrites" = some 13 by kernel_rfl).symm.trans hf) |>.symm
      obtain rfl : fn = Tryd.f13 := (Option.some.inj (Tryd.func13.symm.trans hfn)).symm
      exact ⟨by kernel_rfl, fun j t ht => by
        have hm : t ∈ Tryd.f13.params.toList := by simpa using Array.mem_of_getElem? ht
        have hall : (Tryd.f13.params.toList.all fun u => !Tryd.prog.wantsStandIn u) = true := by kernel_rfl
        exact (show Tryd.prog.wantsStandIn t = false by simpa using List.all_eq_true.1 hall t hm)⟩)
    (by kernel_rfl)
end Go.Proofs.YtgfgmaiddmohaaaDoor
