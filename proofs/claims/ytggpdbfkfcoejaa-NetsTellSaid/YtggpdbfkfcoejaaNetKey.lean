/-
  The keys of package nets' map, read; the map's elements.
-/
import Derived.Test.YtggpdbfkfcoejaaMem
import Derived.Test.YtggpdbfkfcoejaaProg
import Derived.Maps.RangeWalk
import Derived.Maps.OwnOps
import Derived.Maps.Keyed
import Derived.Maps.Ext
import Derived.DeepKeys4
namespace Go.Proofs.Ytggpdbfkfcoejaa
open Go.RowKit Go.Maps

structure KeyD where
  f : Int
  t : Int
  l : Int
  a : Int
def KeyD.v (k : KeyD) : Value := .agg #[.int .i64 k.f, .int .i64 k.t, .int .i64 k.l, .int .i64 k.a]
def wf64 (n : Int) : Prop := (Lit.int .i64 n).wf = true
def KeyD.wf (k : KeyD) : Prop := wf64 k.f ∧ wf64 k.t ∧ wf64 k.l ∧ wf64 k.a
def KeyD.back (k : KeyD) : KeyD := ⟨k.t, k.f, k.l, k.a⟩

theorem laidOutN : laidOutB Try.prog = true := by kernel_rfl
theorem keyLaw : Keyed Try.prog 44 := Keyed.of_law (deep_law_laid laidOutN (m := 3) (by decide) (of_decide_eq_true (by kernel_rfl)) (by kernel_rfl) (by kernel_rfl))

theorem keyT : Try.prog.keyType 44 = true := by kernel_rfl
theorem keyCells : Try.prog.cellsOf 44 = 4 := by kernel_rfl
theorem intCells : Try.prog.cellsOf 3 = 1 := by kernel_rfl

theorem lits_int (d : Nat) (n : Int) : Try.prog.keyLits (d + 1) 3 [.int .i64 n] = if (Lit.int .i64 n).wf = true then some [.int .i64 n] else none := by
  unfold Program.keyLits
  rw [Try.underlying3]
  simp
theorem typesSize : ∃ d, Try.prog.types.size = d + 1 := ⟨Try.prog.types.size - 1, by have : 0 < Try.prog.types.size := of_decide_eq_true (by kernel_rfl); omega⟩
theorem lits_key (d : Nat) (x y z u : Value) : Try.prog.keyLits (d + 1 + 1) 44 [x, y, z, u] =
    (do let a ← Try.prog.keyLits (d + 1) 3 [x]; let b ← Try.prog.keyLits (d + 1) 3 [y]; let c ← Try.prog.keyLits (d + 1) 3 [z]; let e ← Try.prog.keyLits (d + 1) 3 [u]; some (a ++ (b ++ (c ++ e)))) := by
  conv =>
    lhs
    unfold Program.keyLits
  rw [Try.underlying44]
  simp only [keyCells]
  rw [if_pos ⟨rfl, by simp⟩]
  simp [intCells, bind, Option.bind, pure]
  cases Try.prog.keyLits (d + 1) 3 [x] <;> cases Try.prog.keyLits (d + 1) 3 [y] <;> cases Try.prog.keyLits (d + 1) 3 [z] <;> cases Try.prog.keyLits (d + 1) 3 [u] <;> simp
theorem key_some {k : KeyD} (h : k.wf) : ∃ s, keyOf Try.prog 44 k.v = some s := by
  obtain ⟨h1, h2, h3, h4⟩ := h
  unfold wf64 at h1 h2 h3 h4
  unfold keyOf
  rw [Try.underlying44]
  simp only
  obtain ⟨d, hd⟩ := typesSize
  have hf : Value.formed Try.prog 44 k.v = true := by
    unfold KeyD.v Value.formed
    rw [Try.underlying44]
    simp only [keyCells]
    rfl
  rw [keyT, hf, hd]
  simp only [Bool.and_self, if_true]
  have : k.v.cells.toList = [.int .i64 k.f, .int .i64 k.t, .int .i64 k.l, .int .i64 k.a] := rfl
  rw [this, lits_key, lits_int, lits_int, lits_int, lits_int, if_pos h1, if_pos h2, if_pos h3, if_pos h4]
  exact ⟨_, rfl⟩
theorem lits_int_shape {d : Nat} {v : Value} {ls : List Lit} (h : Try.prog.keyLits (d + 1) 3 [v] = some ls) : ∃ n, v = .int .i64 n ∧ wf64 n := by
  unfold Program.keyLits at h
  rw [Try.underlying3] at h
  cases v <;> simp at h
  rename_i q n
  obtain ⟨⟨rfl, hw⟩, _⟩ := h
  exact ⟨n, rfl, hw⟩
theorem key_shape {v : Value} {kl : Lit} (h : keyOf Try.prog 44 v = some kl) : ∃ k : KeyD, v = k.v ∧ k.wf := by
  unfold keyOf at h
  rw [Try.underlying44] at h
  simp only at h
  split at h
  · rename_i hc
    simp only [Bool.and_eq_true] at hc
    obtain ⟨d, hd⟩ := typesSize
    have hf := hc.2
    unfold Value.formed at hf
    rw [Try.underlying44] at hf
    cases v with
    | agg cs =>
      simp only [keyCells] at hf
      have hl : cs.toList.length = 4 := by simpa using hf
      obtain ⟨x, y, z, u, hxs⟩ : ∃ x y z u, cs.toList = [x, y, z, u] := by
        match hcs : cs.toList, hl with
        | [x, y, z, u], _ => exact ⟨x, y, z, u, rfl⟩
      have hcells : (Value.agg cs).cells.toList = [x, y, z, u] := hxs
      rw [hcells, hd, lits_key] at h
      cases hx : Try.prog.keyLits (d + 1) 3 [x] <;> rw [hx] at h <;> simp [bind, Option.bind] at h
      cases hy : Try.prog.keyLits (d + 1) 3 [y] <;> rw [hy] at h <;> simp at h
      cases hz : Try.prog.keyLits (d + 1) 3 [z] <;> rw [hz] at h <;> simp at h
      cases hu : Try.prog.keyLits (d + 1) 3 [u] <;> rw [hu] at h <;> simp at h
      obtain ⟨a, rfl, wa⟩ := lits_int_shape hx
      obtain ⟨b, rfl, wb⟩ := lits_int_shape hy
      obtain ⟨c, rfl, wc⟩ := lits_int_shape hz
      obtain ⟨e, rfl, we⟩ := lits_int_shape hu
      refine ⟨⟨a, b, c, e⟩, ?_, wa, wb, wc, we⟩
      unfold KeyD.v
      congr 1
      apply Array.toList_inj.1
      rw [hxs]
    | _ => simp at hf
  · cases h
theorem key_inj {k k' : KeyD} (h : k.v = k'.v) : k = k' := by
  cases k
  cases k'
  simp [KeyD.v] at h
  simp [h]

/-- What a key reads as. -/
noncomputable def KeyD.lit (k : KeyD) : Lit := (keyOf Try.prog 44 k.v).getD .nil
theorem lit_of {k : KeyD} (h : k.wf) : keyOf Try.prog 44 k.v = some k.lit := by
  obtain ⟨s, hs⟩ := key_some h
  unfold KeyD.lit
  rw [hs]
  rfl
theorem lit_inj {k k' : KeyD} (h : k.wf) (h' : k'.wf) (e : k.lit = k'.lit) : k = k' := key_inj (keyLaw.inj (lit_of h) (by rw [e]; exact lit_of h'))
end Go.Proofs.Ytggpdbfkfcoejaa
