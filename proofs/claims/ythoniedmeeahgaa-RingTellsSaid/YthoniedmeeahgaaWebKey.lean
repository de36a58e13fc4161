/-
  The keys of package ring's web, read.
-/
import Derived.Test.YthoniedmeeahgaaMem
import Derived.Test.YthoniedmeeahgaaProg
import Derived.Maps.RangeWalk
import Derived.Maps.OwnOps
import Derived.Maps.Keyed
import Derived.Maps.Ext
import Derived.DeepKeys4
namespace Go.Proofs.Ythoniedmeeahgaa
open Go.RowKit Go.Maps

structure EdD where
  f : Int
  t : Int
  deriving DecidableEq
def EdD.v (k : EdD) : Value := .agg #[.int .i64 k.f, .int .i64 k.t]
def wf64 (n : Int) : Prop := (Lit.int .i64 n).wf = true
def EdD.wf (k : EdD) : Prop := wf64 k.f ∧ wf64 k.t
def EdD.back (k : EdD) : EdD := ⟨k.t, k.f⟩

theorem laidOutN : laidOutB Try.prog = true := by kernel_rfl
theorem keyLawW : Go.WideMaps.KeyLaw Try.prog 47 := deep_law_laid laidOutN (m := 3) (by decide) (of_decide_eq_true (by kernel_rfl)) (by kernel_rfl) (by kernel_rfl)
theorem keyLaw : Keyed Try.prog 47 := Keyed.of_law keyLawW

theorem keyT : Try.prog.keyType 47 = true := by kernel_rfl
theorem keyCells : Try.prog.cellsOf 47 = 2 := by kernel_rfl
theorem intCells : Try.prog.cellsOf 3 = 1 := by kernel_rfl

theorem lits_int (d : Nat) (n : Int) : Try.prog.keyLits (d + 1) 3 [.int .i64 n] = if (Lit.int .i64 n).wf = true then some [.int .i64 n] else none := by
  unfold Program.keyLits
  rw [Try.underlying3]
  simp
theorem typesSize : ∃ d, Try.prog.types.size = d + 1 := ⟨Try.prog.types.size - 1, by have : 0 < Try.prog.types.size := of_decide_eq_true (by kernel_rfl); omega⟩
theorem lits_key (d : Nat) (x y : Value) : Try.prog.keyLits (d + 1 + 1) 47 [x, y] =
    (do let a ← Try.prog.keyLits (d + 1) 3 [x]; let b ← Try.prog.keyLits (d + 1) 3 [y]; some (a ++ b)) := by
  conv =>
    lhs
    unfold Program.keyLits
  rw [Try.underlying47]
  simp only [keyCells]
  rw [if_pos ⟨rfl, by simp⟩]
  simp [intCells, bind, Option.bind, pure]
  cases Try.prog.keyLits (d + 1) 3 [x] <;> cases Try.prog.keyLits (d + 1) 3 [y] <;> simp
theorem key_some {k : EdD} (h : k.wf) : ∃ s, keyOf Try.prog 47 k.v = some s := by
  obtain ⟨h1, h2⟩ := h
  unfold wf64 at h1 h2
  unfold keyOf
  rw [Try.underlying47]
  simp only
  obtain ⟨d, hd⟩ := typesSize
  have hf : Value.formed Try.prog 47 k.v = true := by
    unfold EdD.v Value.formed
    rw [Try.underlying47]
    simp only [keyCells]
    rfl
  rw [keyT, hf, hd]
  simp only [Bool.and_self, if_true]
  have : k.v.cells.toList = [.int .i64 k.f, .int .i64 k.t] := rfl
  rw [this, lits_key, lits_int, lits_int, if_pos h1, if_pos h2]
  exact ⟨_, rfl⟩
set_option maxRecDepth 100000 in
theorem lits_int_shape {d : Nat} {v : Value} {ls : List Lit} (h : Try.prog.keyLits (d + 1) 3 [v] = some ls) : ∃ n, v = .int .i64 n ∧ wf64 n := by
  unfold Program.keyLits at h
  rw [Try.underlying3] at h
  cases v <;> simp at h
  rename_i q n
  obtain ⟨⟨rfl, hw⟩, _⟩ := h
  exact ⟨n, rfl, hw⟩
set_option maxRecDepth 100000 in
theorem key_shape {v : Value} {kl : Lit} (h : keyOf Try.prog 47 v = some kl) : ∃ k : EdD, v = k.v ∧ k.wf := by
  unfold keyOf at h
  rw [Try.underlying47] at h
  simp only at h
  split at h
  · rename_i hc
    simp only [Bool.and_eq_true] at hc
    obtain ⟨d, hd⟩ := typesSize
    have hf := hc.2
    unfold Value.formed at hf
    rw [Try.underlying47] at hf
    cases v with
    | agg cs =>
      simp only [keyCells] at hf
      have hl : cs.toList.length = 2 := by simpa using hf
      obtain ⟨x, y, hxs⟩ : ∃ x y, cs.toList = [x, y] := by
        match hcs : cs.toList, hl with
        | [x, y], _ => exact ⟨x, y, rfl⟩
      have hcells : (Value.agg cs).cells.toList = [x, y] := hxs
      rw [hcells, hd, lits_key] at h
      cases hx : Try.prog.keyLits (d + 1) 3 [x] <;> rw [hx] at h <;> simp [bind, Option.bind] at h
      cases hy : Try.prog.keyLits (d + 1) 3 [y] <;> rw [hy] at h <;> simp at h
      obtain ⟨a, rfl, wa⟩ := lits_int_shape hx
      obtain ⟨b, rfl, wb⟩ := lits_int_shape hy
      refine ⟨⟨a, b⟩, ?_, wa, wb⟩
      unfold EdD.v
      congr 1
      apply Array.toList_inj.1
      rw [hxs]
    | _ => simp at hf
  · cases h
theorem key_inj {k k' : EdD} (h : k.v = k'.v) : k = k' := by
  cases k
  cases k'
  simp [EdD.v] at h
  simp [h]

/-- What a key reads as. -/
noncomputable def EdD.lit (k : EdD) : Lit := (keyOf Try.prog 47 k.v).getD .nil
theorem lit_of {k : EdD} (h : k.wf) : keyOf Try.prog 47 k.v = some k.lit := by
  obtain ⟨s, hs⟩ := key_some h
  unfold EdD.lit
  rw [hs]
  rfl
theorem lit_inj {k k' : EdD} (h : k.wf) (h' : k'.wf) (e : k.lit = k'.lit) : k = k' := key_inj (keyLaw.inj (lit_of h) (by rw [e]; exact lit_of h'))
end Go.Proofs.Ythoniedmeeahgaa
