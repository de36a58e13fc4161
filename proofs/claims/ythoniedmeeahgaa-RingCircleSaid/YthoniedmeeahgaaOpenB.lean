/-
  A truth value that came in, opened.
-/
import Derived.Test.YthoniedmeeahgaaOpen
namespace Go.Proofs.Ythoniedmeeahgaa
open Go.ChangeShapes Go.WideShapes Go.ChangeAt Go.RowKit

set_option maxRecDepth 100000 in
theorem openBool {H : Type} {enc : TypeId × Value → H} {W : World} {base : Nat} {v : Value} {d : DataW H} {p : List MemPlace} (hv : Value.okWide Try.prog W .any base 4 v) (_h : DataW.Trod enc Try.prog W 0 (fun _ => true) true 4 v d p) : ∃ b : Bool, v = .bool b := okWide_bool Try.underlying4 hv
end Go.Proofs.Ythoniedmeeahgaa
