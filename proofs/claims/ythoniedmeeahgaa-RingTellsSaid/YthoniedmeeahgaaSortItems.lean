/-
  slices.insertionSortCmpFunc at items, laid (the text was printed by the kit's own laying command: wip/tools/lay_text.py).
-/
import Derived.Test.YthoniedmeeahgaaProg
import Derived.Shelf.SlSortCmp.NoneTotal
namespace Go.Proofs.Ythoniedmeeahgaa
open Go.Proofs

def Try.sortItems_ren : Go.Shelf.Ren := ⟨fun | 20 => 40 | n => n, fun | 24 => 35 | 22 => 33 | 3 => 3 | 25 => 49 | 4 => 4 | 0 => 0 | n => n, fun | n => n⟩
theorem Try.sortItems : Go.Proofs.SlLaysF0.n20 Try.prog Try.sortItems_ren := {
  mixed := by kernel_rfl
  f20 := ⟨Try.f40.name, by decide, Try.func40.trans (congrArg some (by kernel_rfl))⟩
  t0 := Try.underlying0
  a0 := Try.isAgg0
  z0 := Try.sizeOf0
  v0 := Try.zeroValue0
  t3 := Try.underlying3
  a3 := Try.isAgg3
  z3 := Try.sizeOf3
  v3 := Try.zeroValue3
  t4 := Try.underlying4
  a4 := Try.isAgg4
  z4 := Try.sizeOf4
  v4 := Try.zeroValue4
  t22 := Try.underlying33
  a22 := Try.isAgg33
  z22 := Try.sizeOf33
  v22 := Try.zeroValue33
  t25 := Try.underlying49
  a25 := Try.isAgg49
  z25 := Try.sizeOf49
  v25 := Try.zeroValue49 }

end Go.Proofs.Ythoniedmeeahgaa
