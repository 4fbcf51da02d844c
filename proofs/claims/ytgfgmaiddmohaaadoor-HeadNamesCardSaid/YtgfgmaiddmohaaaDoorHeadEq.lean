/- Headers, and counts, held against themselves. -/
import Derived.Test.YtgfgmaiddmohaaaDoorHeadRef
import Derived.Laws.StructEq
namespace Go.Proofs.YtgfgmaiddmohaaaDoor.Hd
open Go.RowKit Go.Proofs.YtgfgmaiddmohaaaDoor.Cur

theorem eqH (h : H) (w : World) : (binOp .eql 24 (.agg h.cells) (.agg h.cells)).run Tryd.prog w = .ok (.bool true) w := by
  obtain ⟨id, qr, op, aa, tc, rd, ra, z, ad, cd, code⟩ := h
  have ht : Tryd.prog.underlying 24 = some (.struct (Tryd.prog.fieldsOf 24)) := by kernel_rfl
  have hp : Tryd.prog.stoodInHeld 24 = false := by kernel_rfl
  rw [run_eql_struct, run_equalIn_agg _ _ _ _ _ ht hp]
  unfold H.cells
  simp [go_sem, Tryd.underlying24]
  done
theorem eqInC (d : Nat) (x y z u : Int) (w : World) : (Op.equalIn (d + 1 + 1) 26 (.agg #[.int .i64 x, .int .i64 y, .int .i64 z, .int .i64 u]) (.agg #[.int .i64 x, .int .i64 y, .int .i64 z, .int .i64 u])).run Tryd.prog w = .ok true w := by
  have hu : Tryd.prog.underlying 26 = some (.array 4 3) := by kernel_rfl
  have hi := Tryd.underlying3
  have hq : ∀ (v : Int) (W : World), (Op.equalIn (d + 1) 3 (.int .i64 v) (.int .i64 v)).run Tryd.prog W = .ok true W := fun v W => by
    rw [run_equalIn_int W d _ _ _ _ _ hi]
    simp
  have hp0 : ∀ W : World, (part 3 #[.int .i64 x, .int .i64 y, .int .i64 z, .int .i64 u] 0).run Tryd.prog W = .ok (.int .i64 x) W := fun W => by kernel_rfl
  have hp1 : ∀ W : World, (part 3 #[.int .i64 x, .int .i64 y, .int .i64 z, .int .i64 u] 1).run Tryd.prog W = .ok (.int .i64 y) W := fun W => by kernel_rfl
  have hp2 : ∀ W : World, (part 3 #[.int .i64 x, .int .i64 y, .int .i64 z, .int .i64 u] 2).run Tryd.prog W = .ok (.int .i64 z) W := fun W => by kernel_rfl
  have hp3 : ∀ W : World, (part 3 #[.int .i64 x, .int .i64 y, .int .i64 z, .int .i64 u] 3).run Tryd.prog W = .ok (.int .i64 u) W := fun W => by kernel_rfl
  unfold Op.equalIn
  simp only [Sem.run_bind, run_underlying hu, Result.andThen_ok]
  simp [hq, hp0, hp1, hp2, hp3, List.range']
theorem eqC (x y z u : Int) (w : World) : (binOp .eql 26 (.agg #[.int .i64 x, .int .i64 y, .int .i64 z, .int .i64 u]) (.agg #[.int .i64 x, .int .i64 y, .int .i64 z, .int .i64 u])).run Tryd.prog w = .ok (.bool true) w := by
  have h := eqInC 9998 x y z u w
  simp only [binOp]
  simp [Op.equal, Op.maxDepth, h]
end Go.Proofs.YtgfgmaiddmohaaaDoor.Hd
