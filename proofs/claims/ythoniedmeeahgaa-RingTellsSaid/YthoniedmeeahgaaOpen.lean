/-
  What an argument is, opened once for each type: the value's shape and how it lies in memory; the reading itself is left as it is.
-/
import Derived.Test.YthoniedmeeahgaaRows
import Derived.Test.YthoniedmeeahgaaMem
import Derived.Test.YthoniedmeeahgaaBytes
import Derived.WalkKit
import Derived.ProofKit
import Derived.OpenShut
import Derived.Deep.Slices
namespace Go.Proofs.Ythoniedmeeahgaa
open Go.ChangeShapes Go.WideShapes Go.ChangeAt Go.RowKit
set_option maxRecDepth 100000

section
variable {H : Type} {enc : TypeId × Value → H} {W : World} {base : Nat}

theorem openInt {v : Value} {d : DataW H} {p : List MemPlace} (hv : Value.okWide Try.prog W .any base 3 v) (h : DataW.Trod enc Try.prog W 0 (fun _ => true) true 3 v d p) : ∃ a : Int, v = .int .i64 a ∧ (Lit.int .i64 a).wf = true := by
  obtain ⟨a, rfl, _, _, wa⟩ := open_int Try.underlying3 hv h
  exact ⟨a, rfl, wa⟩
theorem list_of {α : Type} (n : Nat) (p : Nat → α → Prop) (h : ∀ k, k < n → ∃ x, p k x) : ∃ l : List α, l.length = n ∧ ∀ k (hk : k < l.length), p k l[k] := by
  induction n with
  | zero => exact ⟨[], rfl, fun k hk => absurd hk (by simp)⟩
  | succ n ih =>
    obtain ⟨l, hl, hp⟩ := ih fun k hk => h k (by omega)
    obtain ⟨x, hx⟩ := h n (by omega)
    refine ⟨l ++ [x], by simp [hl], fun k hk => ?_⟩
    by_cases hkn : k < l.length
    · rw [List.getElem_append_left hkn]
      exact hp k hkn
    · obtain rfl : k = n := by simp at hk; omega
      rw [List.getElem_append_right (by omega)]
      simpa [hl] using hx
theorem trod_field {P : Program} {spare : Nat → Bool} {held : Bool} {fuel : Nat} {t : TypeId} {cs : List Value} {x : DataW H × List MemPlace} {fs : Array Field} {b : Nat}
    (hs : P.underlying t = some (.struct fs)) (h : DataW.trod enc P W b spare held fuel t cs = some x) (i : Nat) (f : Field) (hf : fs[i]? = some f) :
    ∃ n y, DataW.trod enc P W b spare held n f.type ((cs.drop f.offset).take (P.cellsOf f.type)) = some y := by
  obtain ⟨xs, n, _, _, _, hl, hg⟩ := DataW.trod_struct hs h
  have hi : i < fs.size := (Array.getElem?_eq_some_iff.1 hf).1
  refine ⟨n, xs[i]'(by omega), ?_⟩
  rw [hg i f hf]
  exact List.getElem?_eq_getElem (by omega)
theorem trod_part {P : Program} {spare : Nat → Bool} {held : Bool} {fuel : Nat} {t : TypeId} {cs : List Value} {x : DataW H × List MemPlace} {fs : Array Field} {b : Nat}
    (hs : P.underlying t = some (.struct fs)) (h : DataW.trod enc P W b spare held fuel t cs = some x) (i tt off k : Nat) (hf : (fs[i]?).map (fun f => (f.type, f.offset)) = some (tt, off)) (hk : P.cellsOf tt = k) :
    ∃ n y, DataW.trod enc P W b spare held n tt ((cs.drop off).take k) = some y := by
  obtain ⟨f, hf1, hf2⟩ := Option.map_eq_some_iff.1 hf
  injection hf2 with e1 e2
  subst e1 e2 hk
  exact trod_field hs h i f hf1
end
end Go.Proofs.Ythoniedmeeahgaa
