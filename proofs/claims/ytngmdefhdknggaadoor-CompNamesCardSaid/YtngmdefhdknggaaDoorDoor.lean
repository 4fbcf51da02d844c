/- What the condition on errors.errorType gives a walk; a start that meets it. -/
import Derived.Test.YtngmdefhdknggaaDoorLift
import Derived.Test.YtngmdefhdknggaaDoorAs
import Derived.Test.YtngmdefhdknggaaDoorTie
import Derived.LaidMore
import Derived.LaidHandle
import Derived.OpenShut
import Derived.SizedLaws
import Derived.Stop.Joined
namespace Go.Proofs.YtngmdefhdknggaaDoor
open Go.ChangeShapes Go.WideShapes Go.ChangeAt Go.RowKit

def laidE : List (String × DataW Unit) := [("errors.errorType", Rows.laid_errors_errorType)]

theorem reach_string {H : Type} {P : Program} {ts : List TypeId} {ds : List (DataW H)} (h : (DataW.weightsEach P ts ds).all (· ≤ reachBytes) = true) {j : Nat} {t : TypeId} {s : ByteArray} (ht : ts[j]? = some t) (hd : ds[j]? = some (.lit (.string s.data.toList))) : s.size ≤ 140737488351232 := by
  have h1 := sized_string h ht hd
  unfold reachBytes at h1
  simpa using h1

theorem gErr : Tryd.prog.globalNamed "errors.errorType" = some 1 := by kernel_rfl
theorem rtypeNo : (Tryd.prog.cutTypes.find? (·.1 == "internal/reflectlite.rtype")).map (·.2) = some 167 := by kernel_rfl
theorem typesNo : Tryd.prog.types.size = 205 := by kernel_rfl
theorem oneRow : ((List.range 205).filter fun t => Tryd.prog.rowNamed t [101, 114, 114, 111, 114]) = [111] := by kernel_rfl
theorem handleErr : typeHandle Tryd.prog 111 = .pointer (some ⟨2, 111, none⟩) := by kernel_rfl

theorem laid_of_handles {W : World} {hs : List (String × DataW Unit)} (h : handlesMet Tryd.prog hs W) (hm : ("errors.errorType", Rows.laid_errors_errorType) ∈ hs) : As.Laid W := by
  obtain ⟨name, u, ty, e1, e2, e3, e4, e5⟩ := h _ hm
  have en : name = [101, 114, 114, 111, 114] := (Option.some.inj e1).symm
  subst en
  obtain rfl := Option.some.inj (rtypeNo.symm.trans e2)
  have hm : ty ∈ (List.range 205).filter fun t => Tryd.prog.rowNamed t [101, 114, 114, 111, 114] := List.mem_filter.2 ⟨List.mem_range.2 (by rw [← typesNo]; exact e3), e4⟩
  rw [oneRow] at hm
  obtain rfl := List.mem_singleton.1 hm
  rw [handleErr] at e5
  unfold As.Laid
  simpa using World.var?_cell gErr e5 0

theorem laid_of_E {W : World} (h : laidMetH Tryd.prog laidE W) : As.Laid W := by
  have h' : laidMet Tryd.prog [] W ∧ handlesMet Tryd.prog laidE W := h
  exact laid_of_handles h'.2 (List.mem_singleton.2 rfl)

theorem door_metE (os : Os) (args : Array Value) : laidMetH Tryd.prog laidE ((World.doorLaid Tryd.prog 200 os).forCall (fun _ _ => 0) ⟨#[], args, []⟩).memory :=
  laidMetH_of_parts3 (fuel := 8) (laidMet_nil _ _) (by kernel_rfl) (by kernel_rfl)

/-- A laid array of integers, cell by cell. -/
theorem arr_of_laid {W : World} {name : String} {g n : Nat} {T E : TypeId} {ds : List (DataW Unit)} (h : laidMet Tryd.prog [(name, .agg ds)] W) (hg : Tryd.prog.globalNamed name = some g) (ht : (Tryd.prog.globals[g]?).map (·.type) = some T)
    (hT : Tryd.prog.underlying T = some (.array n E)) (hE : Tryd.prog.underlying E = some (.int .i64)) (hc : Tryd.prog.cellsOf E = 1) : ∀ (i : Nat) (k : Int), ds[i]? = some (.lit (.int .i64 k)) → W.cell? ⟨g, i, none⟩ = some (.int .i64 k) := by
  intro i k hi
  obtain ⟨ps, ⟨g0, t0, cs0, f0, p0, q0, hg0, ht0, hv0, hd0, _, _⟩, _, _⟩ := h
  obtain rfl := Option.some.inj (hg.symm.trans hg0)
  obtain rfl := Option.some.inj (ht.symm.trans ht0)
  obtain ⟨xs, m1, rfl, hx1, _, hn, hel⟩ := DataW.trod_array hT hd0
  simp only [Prod.mk.injEq, DataW.agg.injEq] at hx1
  have hxi : (xs.map (·.1))[i]? = some (.lit (.int .i64 k)) := by rw [← hx1.1]; exact hi
  rw [List.getElem?_map] at hxi
  cases hx : xs[i]? with
  | none => rw [hx] at hxi; cases hxi
  | some x =>
    rw [hx] at hxi
    have hin : i < n := by
      have := (List.getElem?_eq_some_iff.1 hx).1
      omega
    have h2 := hel i hin
    rw [hc, hx, Nat.mul_one] at h2
    obtain ⟨v, e1, e2, _⟩ := DataW.trod_int hE h2
    have hk : v = k := by
      rw [e2] at hxi
      simpa using hxi
    subst hk
    have h3 := World.var?_cell hg0 hv0 i
    rw [h3]
    have h4 : (cs0.toList.drop i)[0]? = some (.int .i64 v) := by
      have h5 : ((cs0.toList.drop i).take 1)[0]? = some (.int .i64 v) := by rw [e1]; rfl
      rwa [List.getElem?_take, if_pos (by omega)] at h5
    rw [List.getElem?_drop] at h4
    simpa using h4
end Go.Proofs.YtngmdefhdknggaaDoor
