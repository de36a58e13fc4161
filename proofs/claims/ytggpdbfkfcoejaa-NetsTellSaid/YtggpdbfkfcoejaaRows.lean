/-
  No cell of these rows narrows 'for every input' (looked for: loops, veiled, ifaces, maps, wideKeys, modest, calm, conditions, laid).
  DERIVED. THE GIVEN ROWS OF THIS SEAT. 4 by the template 'for every input the law returns true; each argument reads behind the call as it read before'; 0 by the template 'total and deterministic' (their statements: YtggpdbfkfcoejaaTotals.lean).
  GIVEN WITH THE SEED: the statements are not yours to turn. If you find one false, say at which input.
  Laid BY PROGRAM, IN A SANDBOX (cutbox-rows.mjs): the forced cells as the released guide's own fill.sh prints them over the translation 2fb4c75b98fd9564… (all of the seat's roots in one cut). By AI agents, Wed Nov 11 2026. No macro, syntax, notation, axiom, sorry.
-/
import Derived.Test.YtggpdbfkfcoejaaChecked
import GoSem.Claim
import GoSem.ClaimJoined
import GoSem.ClaimMapViews
import Derived.JoinedTies
import Derived.KernelRfl
namespace Go.Proofs.Ytggpdbfkfcoejaa
/- THE CELL 'sum', in the pinned program and in every row, IS THE sha256 OF THE DUMP (.gsa) THAT YtggpdbfkfcoejaaProg.lean LOADS. Nothing in Lean hashes anything: it is a label: what it is worth is what the hold of that sum in a sandbox is worth. -/
noncomputable def Try.pinned : Pinned := { name := "ytggpdbfkfcoejaa", sum := "2fb4c75b98fd9564f1be45a6b1f097abef7d6ec10d7095984a68c43da0ba8b11", checked := Try.checked }
namespace Rows
def none {H : Type} : Left H := { results := [], args := [] }

/-- 'cfllaw19.NetsOrder': WHATEVER THE INPUT: true; the input reads as it did. -/
def netsOrderSpec : ChangeSpec := { name := "netsOrder", fn := fun _ => fun
  | [d1, d2] => { results := [.lit (.bool true)], args := [d1, d2] }
  | _ => none }
def netsOrderRow : OpenClaim := { program := "ytggpdbfkfcoejaa", sum := "2fb4c75b98fd9564f1be45a6b1f097abef7d6ec10d7095984a68c43da0ba8b11", func := "counterfoil/cfllaw19.NetsOrder", spec := "netsOrder", unfollowed := true, recurses := true, plainKeys := false, apart := false }
def NetsOrderSaid : Prop := netsOrderRow.holds Try.pinned (OpenSpec.ofChange netsOrderSpec)

/-- ITS FALSE NEIGHBOUR: 'it returns false'. Refute it at one input. -/
def netsOrderWrong : ChangeSpec := { name := "netsOrder", fn := fun _ => fun
  | [d1, d2] => { results := [.lit (.bool false)], args := [d1, d2] }
  | _ => none }
def NetsOrderWrongFalsely : Prop := netsOrderRow.holds Try.pinned (OpenSpec.ofChange netsOrderWrong)

/-- 'cfllaw19.NetsPair': WHATEVER THE INPUT: true; the input reads as it did. -/
def netsPairSpec : ChangeSpec := { name := "netsPair", fn := fun _ => fun
  | [d1, d2, d3, d4] => { results := [.lit (.bool true)], args := [d1, d2, d3, d4] }
  | _ => none }
def netsPairRow : OpenClaim := { program := "ytggpdbfkfcoejaa", sum := "2fb4c75b98fd9564f1be45a6b1f097abef7d6ec10d7095984a68c43da0ba8b11", func := "counterfoil/cfllaw19.NetsPair", spec := "netsPair", unfollowed := true, recurses := true, plainKeys := false, apart := false }
def NetsPairSaid : Prop := netsPairRow.holds Try.pinned (OpenSpec.ofChange netsPairSpec)

/-- ITS FALSE NEIGHBOUR: 'it returns false'. Refute it at one input. -/
def netsPairWrong : ChangeSpec := { name := "netsPair", fn := fun _ => fun
  | [d1, d2, d3, d4] => { results := [.lit (.bool false)], args := [d1, d2, d3, d4] }
  | _ => none }
def NetsPairWrongFalsely : Prop := netsPairRow.holds Try.pinned (OpenSpec.ofChange netsPairWrong)

/-- 'cfllaw19.NetsTell': WHATEVER THE INPUT: true; the input reads as it did. -/
def netsTellSpec : ChangeSpec := { name := "netsTell", fn := fun _ => fun
  | [d1, d2, d3, d4] => { results := [.lit (.bool true)], args := [d1, d2, d3, d4] }
  | _ => none }
def netsTellRow : OpenClaim := { program := "ytggpdbfkfcoejaa", sum := "2fb4c75b98fd9564f1be45a6b1f097abef7d6ec10d7095984a68c43da0ba8b11", func := "counterfoil/cfllaw19.NetsTell", spec := "netsTell", unfollowed := true, recurses := true, plainKeys := false, apart := false }
def NetsTellSaid : Prop := netsTellRow.holds Try.pinned (OpenSpec.ofChange netsTellSpec)

/-- ITS FALSE NEIGHBOUR: 'it returns false'. Refute it at one input. -/
def netsTellWrong : ChangeSpec := { name := "netsTell", fn := fun _ => fun
  | [d1, d2, d3, d4] => { results := [.lit (.bool false)], args := [d1, d2, d3, d4] }
  | _ => none }
def NetsTellWrongFalsely : Prop := netsTellRow.holds Try.pinned (OpenSpec.ofChange netsTellWrong)

/-- 'cfllaw19.NetsSum': WHATEVER THE INPUT: true; the input reads as it did. -/
def netsSumSpec : ChangeSpec := { name := "netsSum", fn := fun _ => fun
  | [d] => { results := [.lit (.bool true)], args := [d] }
  | _ => none }
def netsSumRow : OpenClaim := { program := "ytggpdbfkfcoejaa", sum := "2fb4c75b98fd9564f1be45a6b1f097abef7d6ec10d7095984a68c43da0ba8b11", func := "counterfoil/cfllaw19.NetsSum", spec := "netsSum", unfollowed := true, recurses := true, plainKeys := false, apart := false }
def NetsSumSaid : Prop := netsSumRow.holds Try.pinned (OpenSpec.ofChange netsSumSpec)

/-- ITS FALSE NEIGHBOUR: 'it returns false'. Refute it at one input. -/
def netsSumWrong : ChangeSpec := { name := "netsSum", fn := fun _ => fun
  | [d] => { results := [.lit (.bool false)], args := [d] }
  | _ => none }
def NetsSumWrongFalsely : Prop := netsSumRow.holds Try.pinned (OpenSpec.ofChange netsSumWrong)

/- THE SECOND FORM. 'bulk': how many values and letters a reading holds, each counted each time it is reached (what is shared counts as often as it is met; a slice's spare places count too). A statement '..UptoSaid' is the law's where the arguments, and the package variables that the reading takes, are together of bulk at most 1048576: NARROWER than '..Said'. Prove '..Said' where nothing that the law and all that it calls make is longer than what came in: it says more and counts as full. Else prove '..UptoSaid'. A law counts once. -/
mutual
def uptoBulk {H : Type} : DataW H → Nat
  | .lit (.string bytes) => bytes.length + 1
  | .lit _ => 1
  | .nil => 1
  | .ptr d => uptoBulk d + 1
  | .slice elems spare => uptoBulkAll elems + uptoBulkAll spare + 1
  | .agg parts => uptoBulkAll parts + 1
  | .iface _ d => uptoBulk d + 1
  | .map entries => uptoBulkEntries entries + 1
  | .held _ => 1
def uptoBulkAll {H : Type} : List (DataW H) → Nat
  | [] => 0
  | d :: r => uptoBulk d + uptoBulkAll r
def uptoBulkEntries {H : Type} : List (Lit × DataW H) → Nat
  | [] => 0
  | x :: r => uptoBulkEntry x + uptoBulkEntries r
def uptoBulkEntry {H : Type} : Lit × DataW H → Nat
  | (.string bytes, d) => bytes.length + uptoBulk d + 1
  | (_, d) => uptoBulk d + 1
 end
def uptoSmall : (H : Type) → List (DataW H) → Bool := fun _ ds => decide (uptoBulkAll ds ≤ 1048576)
def OpenSpec.upto (s : _root_.Go.ChangeSpec) : _root_.Go.OpenSpec := { _root_.Go.OpenSpec.ofChange s with cond := some uptoSmall }

/-- 'cfllaw19.NetsOrder', WHERE WHAT IT READS IS OF BULK AT MOST 1048576: true; the input reads as it did. -/
def netsOrderUptoRow : OpenClaim := { program := "ytggpdbfkfcoejaa", sum := "2fb4c75b98fd9564f1be45a6b1f097abef7d6ec10d7095984a68c43da0ba8b11", func := "counterfoil/cfllaw19.NetsOrder", spec := "netsOrder", unfollowed := true, recurses := true, plainKeys := false, apart := false, narrowed := true }
def NetsOrderUptoSaid : Prop := netsOrderUptoRow.holds Try.pinned (OpenSpec.upto netsOrderSpec)

/-- 'cfllaw19.NetsPair', WHERE WHAT IT READS IS OF BULK AT MOST 1048576: true; the input reads as it did. -/
def netsPairUptoRow : OpenClaim := { program := "ytggpdbfkfcoejaa", sum := "2fb4c75b98fd9564f1be45a6b1f097abef7d6ec10d7095984a68c43da0ba8b11", func := "counterfoil/cfllaw19.NetsPair", spec := "netsPair", unfollowed := true, recurses := true, plainKeys := false, apart := false, narrowed := true }
def NetsPairUptoSaid : Prop := netsPairUptoRow.holds Try.pinned (OpenSpec.upto netsPairSpec)

/-- 'cfllaw19.NetsTell', WHERE WHAT IT READS IS OF BULK AT MOST 1048576: true; the input reads as it did. -/
def netsTellUptoRow : OpenClaim := { program := "ytggpdbfkfcoejaa", sum := "2fb4c75b98fd9564f1be45a6b1f097abef7d6ec10d7095984a68c43da0ba8b11", func := "counterfoil/cfllaw19.NetsTell", spec := "netsTell", unfollowed := true, recurses := true, plainKeys := false, apart := false, narrowed := true }
def NetsTellUptoSaid : Prop := netsTellUptoRow.holds Try.pinned (OpenSpec.upto netsTellSpec)

/-- 'cfllaw19.NetsSum', WHERE WHAT IT READS IS OF BULK AT MOST 1048576: true; the input reads as it did. -/
def netsSumUptoRow : OpenClaim := { program := "ytggpdbfkfcoejaa", sum := "2fb4c75b98fd9564f1be45a6b1f097abef7d6ec10d7095984a68c43da0ba8b11", func := "counterfoil/cfllaw19.NetsSum", spec := "netsSum", unfollowed := true, recurses := true, plainKeys := false, apart := false, narrowed := true }
def NetsSumUptoSaid : Prop := netsSumUptoRow.holds Try.pinned (OpenSpec.upto netsSumSpec)

end Rows
end Go.Proofs.Ytggpdbfkfcoejaa
