/-
  An array of two nets, taken apart.
-/
import Derived.Test.YtggpdbfkfcoejaaNetSpec
namespace Go.Proofs.Ytggpdbfkfcoejaa
open Go.RowKit
theorem netCells : Try.prog.cellsOf 34 = 5 := by kernel_rfl
theorem index_net0 (x0 x1 x2 x3 x4 x5 x6 x7 x8 x9 : Value) (w : World) : (Instr.index 41 (.agg #[x0, x1, x2, x3, x4, x5, x6, x7, x8, x9]) (.int .i64 0)).run Try.prog w = .ok (.agg #[x0, x1, x2, x3, x4]) w := by
  kernel_rfl
theorem index_net1 (x0 x1 x2 x3 x4 x5 x6 x7 x8 x9 : Value) (w : World) : (Instr.index 41 (.agg #[x0, x1, x2, x3, x4, x5, x6, x7, x8, x9]) (.int .i64 1)).run Try.prog w = .ok (.agg #[x5, x6, x7, x8, x9]) w := by
  kernel_rfl
end Go.Proofs.Ytggpdbfkfcoejaa
