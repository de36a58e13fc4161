/-
  No cell of these rows narrows 'for every input' (looked for: loops, veiled, ifaces, maps, wideKeys, modest, calm, conditions, laid).
  DERIVED. THE GIVEN ROWS OF THIS SEAT. 5 by the template 'for every input the law returns true; each argument reads behind the call as it read before'; 0 by the template 'total and deterministic' (their statements: YthoniedmeeahgaaTotals.lean).
  GIVEN WITH THE SEED: the statements are not yours to turn. If you find one false, say at which input.
  Laid BY PROGRAM, IN A SANDBOX (cutbox-rows.mjs): the forced cells as the released guide's own fill.sh prints them over the translation 7035df5ce376c85c… (all of the seat's roots in one cut). By AI agents, Wed Nov 11 2026. No macro, syntax, notation, axiom, sorry.
-/
import Derived.Test.YthoniedmeeahgaaChecked
import GoSem.Claim
import GoSem.ClaimJoined
import GoSem.ClaimMapViews
import Derived.JoinedTies
import Derived.KernelRfl
namespace Go.Proofs.Ythoniedmeeahgaa
/- THE CELL 'sum', in the pinned program and in every row, IS THE sha256 OF THE DUMP (.gsa) THAT YthoniedmeeahgaaProg.lean LOADS. Nothing in Lean hashes anything: it is a label: what it is worth is what the hold of that sum in a sandbox is worth. -/
noncomputable def Try.pinned : Pinned := { name := "ythoniedmeeahgaa", sum := "7035df5ce376c85c0c4f5e8d74921b03cd388362afbfd489c5dc1985e9d0f393", checked := Try.checked }
namespace Rows
def none {H : Type} : Left H := { results := [], args := [] }

/-- 'cfllaw20.RingWhole': WHATEVER THE INPUT: true; the input reads as it did. -/
def ringWholeSpec : ChangeSpec := { name := "ringWhole", fn := fun _ => fun
  | [d] => { results := [.lit (.bool true)], args := [d] }
  | _ => none }
def ringWholeRow : OpenClaim := { program := "ythoniedmeeahgaa", sum := "7035df5ce376c85c0c4f5e8d74921b03cd388362afbfd489c5dc1985e9d0f393", func := "counterfoil/cfllaw20.RingWhole", spec := "ringWhole", unfollowed := true, recurses := true, plainKeys := false, apart := false }
def RingWholeSaid : Prop := ringWholeRow.holds Try.pinned (OpenSpec.ofChange ringWholeSpec)

/-- ITS FALSE NEIGHBOUR: 'it returns false'. Refute it at one input. -/
def ringWholeWrong : ChangeSpec := { name := "ringWhole", fn := fun _ => fun
  | [d] => { results := [.lit (.bool false)], args := [d] }
  | _ => none }
def RingWholeWrongFalsely : Prop := ringWholeRow.holds Try.pinned (OpenSpec.ofChange ringWholeWrong)

/-- 'cfllaw20.RingNone': WHATEVER THE INPUT: true; the input reads as it did. -/
def ringNoneSpec : ChangeSpec := { name := "ringNone", fn := fun _ => fun
  | [d] => { results := [.lit (.bool true)], args := [d] }
  | _ => none }
def ringNoneRow : OpenClaim := { program := "ythoniedmeeahgaa", sum := "7035df5ce376c85c0c4f5e8d74921b03cd388362afbfd489c5dc1985e9d0f393", func := "counterfoil/cfllaw20.RingNone", spec := "ringNone", unfollowed := true, recurses := true, plainKeys := false, apart := false }
def RingNoneSaid : Prop := ringNoneRow.holds Try.pinned (OpenSpec.ofChange ringNoneSpec)

/-- ITS FALSE NEIGHBOUR: 'it returns false'. Refute it at one input. -/
def ringNoneWrong : ChangeSpec := { name := "ringNone", fn := fun _ => fun
  | [d] => { results := [.lit (.bool false)], args := [d] }
  | _ => none }
def RingNoneWrongFalsely : Prop := ringNoneRow.holds Try.pinned (OpenSpec.ofChange ringNoneWrong)

/-- 'cfllaw20.RingCircle': WHATEVER THE INPUT: true; the input reads as it did. -/
def ringCircleSpec : ChangeSpec := { name := "ringCircle", fn := fun _ => fun
  | [d1, d2, d3] => { results := [.lit (.bool true)], args := [d1, d2, d3] }
  | _ => none }
def ringCircleRow : OpenClaim := { program := "ythoniedmeeahgaa", sum := "7035df5ce376c85c0c4f5e8d74921b03cd388362afbfd489c5dc1985e9d0f393", func := "counterfoil/cfllaw20.RingCircle", spec := "ringCircle", unfollowed := true, recurses := true, plainKeys := false, apart := false }
def RingCircleSaid : Prop := ringCircleRow.holds Try.pinned (OpenSpec.ofChange ringCircleSpec)

/-- ITS FALSE NEIGHBOUR: 'it returns false'. Refute it at one input. -/
def ringCircleWrong : ChangeSpec := { name := "ringCircle", fn := fun _ => fun
  | [d1, d2, d3] => { results := [.lit (.bool false)], args := [d1, d2, d3] }
  | _ => none }
def RingCircleWrongFalsely : Prop := ringCircleRow.holds Try.pinned (OpenSpec.ofChange ringCircleWrong)

/-- 'cfllaw20.RingTwo': WHATEVER THE INPUT: true; the input reads as it did. -/
def ringTwoSpec : ChangeSpec := { name := "ringTwo", fn := fun _ => fun
  | [d] => { results := [.lit (.bool true)], args := [d] }
  | _ => none }
def ringTwoRow : OpenClaim := { program := "ythoniedmeeahgaa", sum := "7035df5ce376c85c0c4f5e8d74921b03cd388362afbfd489c5dc1985e9d0f393", func := "counterfoil/cfllaw20.RingTwo", spec := "ringTwo", unfollowed := true, recurses := true, plainKeys := false, apart := false }
def RingTwoSaid : Prop := ringTwoRow.holds Try.pinned (OpenSpec.ofChange ringTwoSpec)

/-- ITS FALSE NEIGHBOUR: 'it returns false'. Refute it at one input. -/
def ringTwoWrong : ChangeSpec := { name := "ringTwo", fn := fun _ => fun
  | [d] => { results := [.lit (.bool false)], args := [d] }
  | _ => none }
def RingTwoWrongFalsely : Prop := ringTwoRow.holds Try.pinned (OpenSpec.ofChange ringTwoWrong)

/-- 'cfllaw20.RingTells': WHATEVER THE INPUT: true; the input reads as it did. -/
def ringTellsSpec : ChangeSpec := { name := "ringTells", fn := fun _ => fun
  | [d] => { results := [.lit (.bool true)], args := [d] }
  | _ => none }
def ringTellsRow : OpenClaim := { program := "ythoniedmeeahgaa", sum := "7035df5ce376c85c0c4f5e8d74921b03cd388362afbfd489c5dc1985e9d0f393", func := "counterfoil/cfllaw20.RingTells", spec := "ringTells", unfollowed := true, recurses := true, plainKeys := false, apart := false }
def RingTellsSaid : Prop := ringTellsRow.holds Try.pinned (OpenSpec.ofChange ringTellsSpec)

/-- ITS FALSE NEIGHBOUR: 'it returns false'. Refute it at one input. -/
def ringTellsWrong : ChangeSpec := { name := "ringTells", fn := fun _ => fun
  | [d] => { results := [.lit (.bool false)], args := [d] }
  | _ => none }
def RingTellsWrongFalsely : Prop := ringTellsRow.holds Try.pinned (OpenSpec.ofChange ringTellsWrong)

/- THE SECOND FORM. 'bulk': how many values and letters a reading holds, each counted each time it is reached (what is shared counts as often as it is met; a slice's spare places count too). A statement '..UptoSaid' is the law's where the arguments, and the package variables that the reading takes, are together of bulk at most 1048576: NARROWER than '..Said'. Prove '..Said' where nothing that the law and all that it calls make is longer than what came in: it says more and counts as full. Else prove '..UptoSaid'. A law counts once. -/
mutual
def uptoBulk {H : Type} : DataW H → Nat
  | .lit (.string bytes) => bytes.length + 1
  | .lit _ => 1
  | .nil => 1
  | .ptr d => uptoBulk d + 1
  | .slice elems spare => uptoBulkAll elems + uptoBulkAll spare + 1
  | .agg parts => uptoBulkAll parts + 1
  | .iface _ d => uptoBulk d + 1
  | .map entries => uptoBulkEntries entries + 1
  | .held _ => 1
def uptoBulkAll {H : Type} : List (DataW H) → Nat
  | [] => 0
  | d :: r => uptoBulk d + uptoBulkAll r
def uptoBulkEntries {H : Type} : List (Lit × DataW H) → Nat
  | [] => 0
  | x :: r => uptoBulkEntry x + uptoBulkEntries r
def uptoBulkEntry {H : Type} : Lit × DataW H → Nat
  | (.string bytes, d) => bytes.length + uptoBulk d + 1
  | (_, d) => uptoBulk d + 1
 end
def uptoSmall : (H : Type) → List (DataW H) → Bool := fun _ ds => decide (uptoBulkAll ds ≤ 1048576)
def OpenSpec.upto (s : _root_.Go.ChangeSpec) : _root_.Go.OpenSpec := { _root_.Go.OpenSpec.ofChange s with cond := some uptoSmall }

/-- 'cfllaw20.RingWhole', WHERE WHAT IT READS IS OF BULK AT MOST 1048576: true; the input reads as it did. -/
def ringWholeUptoRow : OpenClaim := { program := "ythoniedmeeahgaa", sum := "7035df5ce376c85c0c4f5e8d74921b03cd388362afbfd489c5dc1985e9d0f393", func := "counterfoil/cfllaw20.RingWhole", spec := "ringWhole", unfollowed := true, recurses := true, plainKeys := false, apart := false, narrowed := true }
def RingWholeUptoSaid : Prop := ringWholeUptoRow.holds Try.pinned (OpenSpec.upto ringWholeSpec)

/-- 'cfllaw20.RingNone', WHERE WHAT IT READS IS OF BULK AT MOST 1048576: true; the input reads as it did. -/
def ringNoneUptoRow : OpenClaim := { program := "ythoniedmeeahgaa", sum := "7035df5ce376c85c0c4f5e8d74921b03cd388362afbfd489c5dc1985e9d0f393", func := "counterfoil/cfllaw20.RingNone", spec := "ringNone", unfollowed := true, recurses := true, plainKeys := false, apart := false, narrowed := true }
def RingNoneUptoSaid : Prop := ringNoneUptoRow.holds Try.pinned (OpenSpec.upto ringNoneSpec)

/-- 'cfllaw20.RingCircle', WHERE WHAT IT READS IS OF BULK AT MOST 1048576: true; the input reads as it did. -/
def ringCircleUptoRow : OpenClaim := { program := "ythoniedmeeahgaa", sum := "7035df5ce376c85c0c4f5e8d74921b03cd388362afbfd489c5dc1985e9d0f393", func := "counterfoil/cfllaw20.RingCircle", spec := "ringCircle", unfollowed := true, recurses := true, plainKeys := false, apart := false, narrowed := true }
def RingCircleUptoSaid : Prop := ringCircleUptoRow.holds Try.pinned (OpenSpec.upto ringCircleSpec)

/-- 'cfllaw20.RingTwo', WHERE WHAT IT READS IS OF BULK AT MOST 1048576: true; the input reads as it did. -/
def ringTwoUptoRow : OpenClaim := { program := "ythoniedmeeahgaa", sum := "7035df5ce376c85c0c4f5e8d74921b03cd388362afbfd489c5dc1985e9d0f393", func := "counterfoil/cfllaw20.RingTwo", spec := "ringTwo", unfollowed := true, recurses := true, plainKeys := false, apart := false, narrowed := true }
def RingTwoUptoSaid : Prop := ringTwoUptoRow.holds Try.pinned (OpenSpec.upto ringTwoSpec)

/-- 'cfllaw20.RingTells', WHERE WHAT IT READS IS OF BULK AT MOST 1048576: true; the input reads as it did. -/
def ringTellsUptoRow : OpenClaim := { program := "ythoniedmeeahgaa", sum := "7035df5ce376c85c0c4f5e8d74921b03cd388362afbfd489c5dc1985e9d0f393", func := "counterfoil/cfllaw20.RingTells", spec := "ringTells", unfollowed := true, recurses := true, plainKeys := false, apart := false, narrowed := true }
def RingTellsUptoSaid : Prop := ringTellsUptoRow.holds Try.pinned (OpenSpec.upto ringTellsSpec)

end Rows
end Go.Proofs.Ythoniedmeeahgaa
