/-
  moves by contract.
-/
import Derived.Test.YtggpdbfkfcoejaaNetSpec
import Derived.Test.YtggpdbfkfcoejaaFr
namespace Go.Proofs.Ytggpdbfkfcoejaa
open Go.RowKit

def mvCells (t : TrD) : List Value := [.int .i64 t.b, .int .i64 t.s, .int .i64 0, .int .i64 t.c, .int .i64 t.p, .int .i64 t.s, .int .i64 t.b, .int .i64 1, .int .i64 t.a, .int .i64 t.q]
set_option maxHeartbeats 1000000 in
theorem moves_any (t : TrD) (w : World) : Calls Try.prog 17 #[.agg #[.int .i64 t.id, .int .i64 t.b, .int .i64 t.s, .int .i64 t.c, .int .i64 t.p, .int .i64 t.a, .int .i64 t.q]] w fun e w' => e = .returned (.agg (mvCells t).toArray) ∧ Below w.heap.size w w' := by
  go_enter Try.func17, Try.ntmps17
  go_wp2_with fail
  have r2 : Blk ((w.alloc (.cells #[.int .i64 t.id, .int .i64 t.b, .int .i64 t.s, .int .i64 t.c, .int .i64 t.p, .int .i64 t.a, .int .i64 t.q] 30)).alloc (.cells (mvCells t).toArray 41)) (w.heap.size + 1) 41 (mvCells t).toArray := by
    have := Blk.new (w.alloc (.cells #[.int .i64 t.id, .int .i64 t.b, .int .i64 t.s, .int .i64 t.c, .int .i64 t.p, .int .i64 t.a, .int .i64 t.q] 30)) 41 (mvCells t).toArray
    simpa using this
  refine bodyPost_ret (results_cell_row Try.results17 _ _ (w.heap.size + 1) _ _ (0, 0) _ rfl r2 Try.underlying41 rfl (by kernel_rfl)) rfl ?_
  exact ⟨rfl, ((Below.refl _ _).alloc (Nat.le_refl _) _).alloc (by simp) _⟩
end Go.Proofs.Ytggpdbfkfcoejaa
