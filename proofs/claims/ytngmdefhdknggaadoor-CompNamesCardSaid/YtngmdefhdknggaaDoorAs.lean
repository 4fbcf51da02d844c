/- errors.As at the target *wrong of package cursor, by its contracts, and what told makes of it. After the guide's worked example ToyasAs. -/
import Derived.Test.YtngmdefhdknggaaDoorHeap
import Derived.Test.YtngmdefhdknggaaDoorProg
import Derived.LaidEql
import Derived.Stop.Asserts
import Derived.RowKitTokens
namespace Go.Proofs.YtngmdefhdknggaaDoor.As
open Go.RowKit Go.Extern.Stop Go.Stop Go.Extern

/-- The variable errors.errorType, as the program's text lays it. -/
def Laid (w : World) : Prop := w.cell? ⟨1, 0, none⟩ = some (.iface 167 (.agg #[.pointer (some ⟨2, 111, none⟩)]))

theorem Laid.chg {w w' : World} {S : Nat → Prop} (h : Laid w) (hc : Chg S w w') (hs : ¬ S 1) : Laid w' := hc.cell h hs
theorem Laid.nob {w w' : World} (h : Laid w) (hc : Chg Nob w w') : Laid w' := hc.cell h (fun h => h)

theorem as_nil (t : Value) (w : World) :
    Calls Tryd.prog 75 #[.nilIface, t] w fun e w' => e = .returned (.bool false) ∧ w = w' := by
  go_enter Tryd.func75, Tryd.ntmps75
  go_wp2
  go_ret
  exact ⟨rfl, rfl⟩

theorem valueOfP (t : Addr) (w : World) : (ReflectliteValue.unpack (.iface 142 (.pointer (some t)))).run Tryd.prog w
    = .ok (.agg #[.pointer (some ⟨2, 142, none⟩), .pointer (some ⟨w.heap.size, 0, none⟩), .int .u64 150]) (w.alloc (.cells #[.pointer (some t)] 142)) := by kernel_rfl
theorem typeP (a : Addr) (w : World) : (ReflectliteValue.methodAny (ReflectliteValue.valueError "reflectlite.Value.Type" 0) (fun t _ _ _ => ReflectliteType.toType t) #[.agg #[.pointer (some ⟨2, 142, none⟩), .pointer (some a), .int .u64 150]]).run Tryd.prog w
    = .ok (.iface 167 (.agg #[.pointer (some ⟨2, 142, none⟩)])) w := by kernel_rfl
theorem methodKind (h : Value) (w : World) : (Go.method 305 167 (.agg #[h]) "Kind").run Tryd.prog w = .ok (113, h) w := by kernel_rfl
theorem kindP (w : World) : ((ReflectliteType.abiMethod fun t => (fun a : Nat => Value.int IntKind.u8 (a : Int)) <$> Rtype.kind t) #[.pointer (some ⟨2, 142, none⟩)]).run Tryd.prog w = .ok (.int .u8 22) w := by kernel_rfl
theorem kindW (w : World) : ((ReflectliteType.abiMethod fun t => (fun a : Nat => Value.int IntKind.u8 (a : Int)) <$> Rtype.kind t) #[.pointer (some ⟨2, 140, none⟩)]).run Tryd.prog w = .ok (.int .u8 25) w := by kernel_rfl
theorem rlm (z : Sem Value) (f : TypeId → Addr → Nat → Nat → Sem Value) (v : Value) :
    ReflectliteValue.method z f #[v] = (do match ← ReflectliteValue.parts v with | none => z | some (t, a, fl) => f t a fl (fl % 32)) := rfl
theorem partsP (a : Addr) (w : World) : (ReflectliteValue.parts (.agg #[.pointer (some ⟨2, 142, none⟩), .pointer (some a), .int .u64 150])).run Tryd.prog w = .ok (some (142, a, 150)) w := by kernel_rfl
theorem isNilP (a p : Addr) (W : World) (ha : W.cell? a = some (.pointer (some p))) :
    (ReflectliteValue.method (ReflectliteValue.valueError "reflectlite.Value.IsNil" 0) ReflectliteValue.isNil #[.agg #[.pointer (some ⟨2, 142, none⟩), .pointer (some a), .int .u64 150]]).run Tryd.prog W = .ok (.bool false) W := by
  rw [rlm]
  simp only [Sem.run_bind, partsP, Result.andThen]
  simp [ReflectliteValue.isNil, loadVar, isAgg, underlying, Tryd.underlying142, ha, Result.andThen]
theorem methodElem (h : Value) (w : World) : (Go.method 305 167 (.agg #[h]) "Elem").run Tryd.prog w = .ok (124, .agg #[h]) w := by kernel_rfl
theorem methodImplements (h : Value) (w : World) : (Go.method 305 167 (.agg #[h]) "Implements").run Tryd.prog w = .ok (125, .agg #[h]) w := by kernel_rfl
theorem methodAssignableTo (h : Value) (w : World) : (Go.method 305 167 (.agg #[h]) "AssignableTo").run Tryd.prog w = .ok (122, .agg #[h]) w := by kernel_rfl
theorem elemP (w : World) : (ReflectliteType.method ReflectliteType.elem #[.agg #[.pointer (some ⟨2, 142, none⟩)]]).run Tryd.prog w = .ok (.iface 167 (.agg #[.pointer (some ⟨2, 140, none⟩)])) w := by kernel_rfl
theorem implementsW (w : World) : (ReflectliteType.relation "Implements" ReflectliteType.implements_ #[.agg #[.pointer (some ⟨2, 140, none⟩)], .iface 167 (.agg #[.pointer (some ⟨2, 111, none⟩)])]).run Tryd.prog w = .ok (.bool true) w := by kernel_rfl
theorem typeOfW (v : Value) (w : World) : (ReflectliteType.typeOf #[.iface 140 v]).run Tryd.prog w = .ok (.iface 167 (.agg #[.pointer (some ⟨2, 140, none⟩)])) w := by kernel_rfl
theorem assignableW (w : World) : (ReflectliteType.relation "AssignableTo" ReflectliteType.assignableTo #[.agg #[.pointer (some ⟨2, 140, none⟩)], .iface 167 (.agg #[.pointer (some ⟨2, 140, none⟩)])]).run Tryd.prog w = .ok (.bool true) w := by kernel_rfl
theorem valueOfW (e : Int) (w : World) : (ReflectliteValue.unpack (.iface 140 (.agg #[.int .i64 e]))).run Tryd.prog w
    = .ok (.agg #[.pointer (some ⟨2, 140, none⟩), .pointer (some ⟨w.heap.size, 0, none⟩), .int .u64 153]) (w.alloc (.cells #[.int .i64 e] 140)) := by kernel_rfl
theorem elemOfP (w : World) : (Rtype.elem? 142).run Tryd.prog w = .ok (some 140) w := by kernel_rfl
theorem mkW (p : Addr) (w : World) : (ReflectliteValue.mk 140 p ReflectliteValue.flagAddr).run Tryd.prog w = .ok (.agg #[.pointer (some ⟨2, 140, none⟩), .pointer (some p), .int .u64 409]) w := by kernel_rfl
theorem elemVP (a p : Addr) (W : World) (ha : W.cell? a = some (.pointer (some p))) :
    (ReflectliteValue.method (ReflectliteValue.valueError "reflectlite.Value.Elem" 0) ReflectliteValue.elem #[.agg #[.pointer (some ⟨2, 142, none⟩), .pointer (some a), .int .u64 150]]).run Tryd.prog W
      = .ok (.agg #[.pointer (some ⟨2, 140, none⟩), .pointer (some p), .int .u64 409]) W := by
  rw [rlm]
  simp only [Sem.run_bind, partsP, Result.andThen]
  simp [ReflectliteValue.elem, loadVar, isAgg, underlying, Tryd.underlying142, ha, Result.andThen, elemOfP, mkW]
theorem rls (v x : Value) : ReflectliteValue.set #[v, x] = (do
    let (some (dst, a, fl), some (src, b, _)) := (← ReflectliteValue.parts v, ← ReflectliteValue.parts x)
      | unsupported (.noEntry "extern/(internal/reflectlite.Value).Set.zeroValue")
    if fl / ReflectliteValue.flagAddr % 2 == 0 then unsupported (.noEntry "extern/(internal/reflectlite.Value).Set.unaddressable")
    let val ← loadVar src b
    if ← Rtype.directlyAssignable dst src then storeVar dst a val
    else if ← Rtype.implements dst src then
      if (← Rtype.kind src) == 20 then
        match val with
        | .nilIface => unsupported (.noEntry "extern/reflectlite: a nil value of one interface type handed on as a value of another")
        | _ => storeVar dst a val
      else storeVar dst a (.iface src val)
    else panicString ("reflectlite.Set: value of type " ++ (← Rtype.spelt src) ++ " is not assignable to type " ++ (← Rtype.spelt dst))
    pure (.tuple #[])) := rfl
theorem partsWa (a : Addr) (w : World) : (ReflectliteValue.parts (.agg #[.pointer (some ⟨2, 140, none⟩), .pointer (some a), .int .u64 409])).run Tryd.prog w = .ok (some (140, a, 409)) w := by kernel_rfl
theorem partsW (a : Addr) (w : World) : (ReflectliteValue.parts (.agg #[.pointer (some ⟨2, 140, none⟩), .pointer (some a), .int .u64 153])).run Tryd.prog w = .ok (some (140, a, 153)) w := by kernel_rfl
theorem directW (w : World) : (Rtype.directlyAssignable 140 140).run Tryd.prog w = .ok true w := by kernel_rfl
theorem sizeW (w : World) : (sizeOf 140).run Tryd.prog w = .ok 1 w := by kernel_rfl
theorem setW (tb to_ bb : Nat) (e : Int) (old : Value) (W : World) (hb : W.cell? ⟨bb, 0, none⟩ = some (.int .i64 e)) (ht : W.cell? ⟨tb, to_, none⟩ = some old) (hf : W.frozen? ⟨tb, to_, none⟩ = false) :
    (ReflectliteValue.set #[.agg #[.pointer (some ⟨2, 140, none⟩), .pointer (some ⟨tb, to_, none⟩), .int .u64 409], .agg #[.pointer (some ⟨2, 140, none⟩), .pointer (some ⟨bb, 0, none⟩), .int .u64 153]]).run Tryd.prog W
      = .ok (.tuple #[]) (W.setCell ⟨tb, to_, none⟩ (.int .i64 e)) := by
  have hL : (loadCells ⟨bb, 0, none⟩ 1).run Tryd.prog W = .ok #[.int .i64 e] W := by
    refine run_loadCells_list (P := Tryd.prog) (w := W) ⟨bb, 0, none⟩ [.int .i64 e] ?_
    intro j v hj
    match j with
    | 0 => simp at hj; subst hj; simpa [Addr.add] using hb
    | j + 1 => simp at hj
  rw [rls]
  simp only [Sem.run_bind, partsWa, partsW, Result.andThen]
  simp [ReflectliteValue.flagAddr, loadVar, isAgg, underlying, Tryd.underlying140, Result.andThen, directW, storeVar, Value.cells, storeCells, Addr.add, hL]
  rw [run_store Tryd.prog W ⟨tb, to_, none⟩ _ _ (by rfl)]
  simp [ht, hf]

set_option maxHeartbeats 4000000 in
/-- errors.As at what cursor.wrong is: the target's variable gets it. -/
theorem as_hit (e : Int) (tb to_ : Nat) (old : Value) (w : World) (hg : Laid w) (ht0 : w.cell? ⟨tb, to_, none⟩ = some old) (hf0 : w.frozen? ⟨tb, to_, none⟩ = false) :
    Calls Tryd.prog 75 #[.iface 140 (.agg #[.int .i64 e]), .iface 142 (.pointer (some ⟨tb, to_, none⟩))] w fun ev w' => ev = .returned (.bool true) ∧ w' = ((((w.alloc (.cells #[.pointer (some ⟨tb, to_, none⟩)] 142)).alloc (.cells #[.pointer (some ⟨2, 142, none⟩), .pointer (some ⟨w.heap.size, 0, none⟩), .int .u64 150] 154)).alloc (.cells #[.pointer (some ⟨2, 142, none⟩), .pointer (some ⟨w.heap.size, 0, none⟩), .int .u64 150] 154)).alloc (.cells #[.int .i64 e] 140)).setCell ⟨tb, to_, none⟩ (.int .i64 e) := by
  have h6 := @run_callFunc_extern Tryd.prog 86 _ (fun args => ReflectliteValue.unpack (args.getD 0 (.tuple #[]))) Tryd.func86 (by kernel_rfl) (by kernel_rfl) (by kernel_rfl) (by kernel_rfl)
  have h7 := @run_callFunc_extern Tryd.prog 87 _ (ReflectliteValue.methodAny (ReflectliteValue.valueError "reflectlite.Value.Type" 0) (fun t _ _ _ => ReflectliteType.toType t)) Tryd.func87 (by kernel_rfl) (by kernel_rfl) (by kernel_rfl) (by kernel_rfl)
  have h8 := @run_callFunc_extern Tryd.prog 88 _ (ReflectliteValue.method (ReflectliteValue.valueError "reflectlite.Value.IsNil" 0) ReflectliteValue.isNil) Tryd.func88 (by kernel_rfl) (by kernel_rfl) (by kernel_rfl) (by kernel_rfl)
  have h27 := @run_callFunc_extern Tryd.prog 113 _ (ReflectliteType.abiMethod fun t => do pure (.int .u8 (← Rtype.kind t))) Tryd.func113 (by kernel_rfl) (by kernel_rfl) (by kernel_rfl) (by kernel_rfl)
  have h37 := @run_callFunc_extern Tryd.prog 124 _ (ReflectliteType.method ReflectliteType.elem) Tryd.func124 (by kernel_rfl) (by kernel_rfl) (by kernel_rfl) (by kernel_rfl)
  have h38 := @run_callFunc_extern Tryd.prog 125 _ (ReflectliteType.relation "Implements" ReflectliteType.implements_) Tryd.func125 (by kernel_rfl) (by kernel_rfl) (by kernel_rfl) (by kernel_rfl)
  have h10 := @run_callFunc_extern Tryd.prog 96 _ ReflectliteType.typeOf Tryd.func96 (by kernel_rfl) (by kernel_rfl) (by kernel_rfl) (by kernel_rfl)
  have h35 := @run_callFunc_extern Tryd.prog 122 _ (ReflectliteType.relation "AssignableTo" ReflectliteType.assignableTo) Tryd.func122 (by kernel_rfl) (by kernel_rfl) (by kernel_rfl) (by kernel_rfl)
  have h11 := @run_callFunc_extern Tryd.prog 97 _ (ReflectliteValue.method (ReflectliteValue.valueError "reflectlite.Value.Elem" 0) ReflectliteValue.elem) Tryd.func97 (by kernel_rfl) (by kernel_rfl) (by kernel_rfl) (by kernel_rfl)
  have h12 := @run_callFunc_extern Tryd.prog 98 _ ReflectliteValue.set Tryd.func98 (by kernel_rfl) (by kernel_rfl) (by kernel_rfl) (by kernel_rfl)
  have tO := typeOfW
  have mA := methodAssignableTo
  have aW := assignableW
  have vW := valueOfW
  have f6 := valueOfP
  have f7 := typeP
  have mK := methodKind
  have mE := methodElem
  have mI := methodImplements
  have kP := kindP
  have kW := kindW
  have eP := elemP
  have iW := implementsW
  have n8 := isNilP ⟨w.heap.size, 0, none⟩ ⟨tb, to_, none⟩ ((w.alloc (.cells #[.pointer (some ⟨tb, to_, none⟩)] 142)).alloc (.cells #[.pointer (some ⟨2, 142, none⟩), .pointer (some ⟨w.heap.size, 0, none⟩), .int .u64 150] 154)) (by simp)
  have hlt : 1 < w.heap.size := World.block_lt_of_cell? w ⟨1, 0, none⟩ hg
  have hg2 : ((w.alloc (.cells #[.pointer (some ⟨tb, to_, none⟩)] 142)).alloc (.cells #[.pointer (some ⟨2, 142, none⟩), .pointer (some ⟨w.heap.size, 0, none⟩), .int .u64 150] 154)).cell? ⟨1, 0, none⟩ = some (.iface 167 (.agg #[.pointer (some ⟨2, 111, none⟩)])) := by
    rw [World.cell?_alloc_lt _ _ ⟨1, 0, none⟩ (by first | (simp; done) | (simp; omega)), World.cell?_alloc_lt _ _ ⟨1, 0, none⟩ hlt]; exact hg
  have htl : tb < w.heap.size := World.block_lt_of_cell? w ⟨tb, to_, none⟩ ht0
  have el := elemVP ⟨w.heap.size, 0, none⟩ ⟨tb, to_, none⟩ (((w.alloc (.cells #[.pointer (some ⟨tb, to_, none⟩)] 142)).alloc (.cells #[.pointer (some ⟨2, 142, none⟩), .pointer (some ⟨w.heap.size, 0, none⟩), .int .u64 150] 154)).alloc (.cells #[.pointer (some ⟨2, 142, none⟩), .pointer (some ⟨w.heap.size, 0, none⟩), .int .u64 150] 154)) (by rw [World.cell?_alloc_lt _ _ ⟨w.heap.size, 0, none⟩ (by simp; omega)]; simp)
  have st := setW tb to_ (w.heap.size + 1 + 1 + 1) e old ((((w.alloc (.cells #[.pointer (some ⟨tb, to_, none⟩)] 142)).alloc (.cells #[.pointer (some ⟨2, 142, none⟩), .pointer (some ⟨w.heap.size, 0, none⟩), .int .u64 150] 154)).alloc (.cells #[.pointer (some ⟨2, 142, none⟩), .pointer (some ⟨w.heap.size, 0, none⟩), .int .u64 150] 154)).alloc (.cells #[.int .i64 e] 140))
    (by rw [World.cell?_alloc_at _ _ _ _ (by simp)]; rfl)
    (by rw [World.cell?_alloc_lt _ _ ⟨tb, to_, none⟩ (by simp; omega), World.cell?_alloc_lt _ _ ⟨tb, to_, none⟩ (by simp; omega), World.cell?_alloc_lt _ _ ⟨tb, to_, none⟩ (by simp; omega), World.cell?_alloc_lt _ _ ⟨tb, to_, none⟩ htl]; exact ht0)
    (by rw [World.frozen?_alloc_old _ _ ⟨tb, to_, none⟩ (by simp; omega), World.frozen?_alloc_old _ _ ⟨tb, to_, none⟩ (by simp; omega), World.frozen?_alloc_old _ _ ⟨tb, to_, none⟩ (by simp; omega), World.frozen?_alloc_old _ _ ⟨tb, to_, none⟩ (Nat.ne_of_lt htl)]; exact hf0)
  unfold Laid at hg
  go_enter Tryd.func75, Tryd.ntmps75
  go_wp2
  refine wp_loop_rounds 1 ?_
  rw [rounds_succ]
  go_wp2
  go_ret
  exact ⟨rfl, rfl⟩

theorem told_nil (w : World) : Calls Tryd.prog 58 #[.nilIface] w fun e w' => e = .returned (.int .i64 0) ∧ Chg Nob w w' := by
  go_enter Tryd.func58, Tryd.ntmps58
  go_wp2_with (go_at_call 75; refine (as_nil _ _).mono ?_; rintro e w' ⟨rfl, rfl⟩)
  go_ret
  exact ⟨rfl, (Chg.refl Nob w).alloc _⟩

theorem told_wrong (e : Int) (w : World) (hg : Laid w) : Calls Tryd.prog 58 #[.iface 140 (.agg #[.int .i64 e])] w fun r w' => r = .returned (.int .i64 e) ∧ Chg Nob w w' := by
  have hgA := hg.nob ((Chg.refl Nob w).alloc (.cells #[.int .i64 0] 140))
  go_enter Tryd.func58, Tryd.ntmps58
  go_wp2_with (go_at_call 75; refine (as_hit e w.heap.size 0 (.int .i64 0) _ hgA (by simp) (by simp)).mono ?_; rintro r w' ⟨rfl, rfl⟩)
  go_ret
  refine ⟨by simp, ?_⟩
  exact (((((Chg.refl Nob w).alloc _).alloc _).alloc _).alloc _).alloc _
end Go.Proofs.YtngmdefhdknggaaDoor.As
