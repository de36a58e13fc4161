/-
  What an argument is, opened once for each type: the value's shape and how it lies in memory; the reading itself is left as it is.
-/
import Derived.Test.YtoiopoebjchjeaaRows
import Derived.Test.YtoiopoebjchjeaaMem
import Derived.Test.YtoiopoebjchjeaaBytes
import Derived.WalkKit
import Derived.ProofKit
import Derived.OpenShut
import Derived.Deep.Slices
namespace Go.Proofs.Ytoiopoebjchjeaa
open Go.ChangeShapes Go.WideShapes Go.ChangeAt Go.RowKit

section
variable {H : Type} {enc : TypeId × Value → H} {W : World} {base : Nat}

theorem openInt {v : Value} {d : DataW H} {p : List MemPlace} (hv : Value.okWide Try.prog W .any base 3 v) (h : DataW.Trod enc Try.prog W 0 (fun _ => true) true 3 v d p) : ∃ a : Int, v = .int .i64 a ∧ (Lit.int .i64 a).wf = true := by
  obtain ⟨a, rfl, _, _, wa⟩ := open_int Try.underlying3 hv h
  exact ⟨a, rfl, wa⟩

theorem openBool {v : Value} {d : DataW H} {p : List MemPlace} (hv : Value.okWide Try.prog W .any base 4 v) (h : DataW.Trod enc Try.prog W 0 (fun _ => true) true 4 v d p) : ∃ a : Bool, v = .bool a := by
  obtain ⟨a, rfl, _, _⟩ := open_bool Try.underlying4 hv h
  exact ⟨a, rfl⟩

/-- A slice of bytes that came in. -/
structure TextD where
  A : Option Addr
  n : Nat
  c : Nat
  bs : List UInt8
def TextD.ok (t : TextD) (W : World) : Prop := Reads W W.heap.size 1 t.A t.n (bv t.bs) ∧ (t.A = none → t.n = 0 ∧ t.c = 0) ∧ t.n ≤ maxLen

/-- Bytes out of numbers that fit. -/
theorem bytes_of (zs : List Int) (h : ∀ n ∈ zs, (Lit.int .u8 n).wf = true) : ∃ bs : List UInt8, zs.map (Value.int .u8) = bv bs := by
  refine ⟨zs.map fun n => UInt8.ofNat n.toNat, ?_⟩
  unfold bv
  rw [List.map_map]
  apply List.map_congr_left
  intro n hn
  have hw := h n hn
  have hb := bounds_u8 hw
  simp only [Function.comp_apply]
  congr 1
  have : n.toNat < 256 := by omega
  simp [Nat.mod_eq_of_lt this]
  omega

theorem lt_of_cell {W : World} {a : Addr} {v : Value} (h : W.cell? a = some v) : a.block < W.heap.size := block_lt_of_cell h

theorem openBytesAt {m : Nat} {v : Value} {y : DataW H × List MemPlace} (h : DataW.trod enc Try.prog W 0 (fun _ => true) true m 32 [v] = some y) : ∃ t : TextD, v = .slice t.A t.n t.c ∧ t.ok W := by
  rcases open_ints Try.underlying32 Try.underlying5 (by kernel_rfl) h with ⟨hcs, _⟩ | ⟨x, l, c, zs, hcs, _, hl, hm, hz, _, hcell, hwz⟩
  · simp at hcs
    subst hcs
    exact ⟨⟨none, 0, 0, []⟩, rfl, Reads.none_, fun _ => ⟨rfl, rfl⟩, Nat.zero_le _⟩
  · simp at hcs hz
    subst hcs
    obtain ⟨bs, hbs⟩ := bytes_of (zs.take l) (fun n hn => hwz n (List.mem_of_mem_take hn))
    refine ⟨⟨some x, l, c, bs⟩, rfl, ⟨?_, fun hn => ⟨x, rfl, ?_, fun j u hu => ?_⟩⟩, (fun e => by cases e), by simp only; omega⟩
    · rw [← hbs]; simp; omega
    · have := block_lt_of_cell (hcell 0 (by simp only at hn; omega))
      rwa [block_of_add] at this
    · simp only at hu
      rw [← hbs] at hu
      have hj : j < (zs.take l).length := by
        have := (List.getElem?_eq_some_iff.1 hu).1
        simpa using this
      have hj' : j < zs.length := by simp at hj; omega
      rw [hcell j hj']
      simp only [List.getElem?_map, List.getElem?_eq_getElem hj, Option.map_some] at hu
      rw [← hu]
      simp [List.getD, hj']

theorem openBytes {v : Value} {d : DataW H} {p : List MemPlace} (hv : Value.okWide Try.prog W .any base 32 v) (h : DataW.Trod enc Try.prog W 0 (fun _ => true) true 32 v d p) : ∃ t : TextD, v = .slice t.A t.n t.c ∧ t.ok W := by
  obtain ⟨a, l, c, rfl⟩ := okWide_slice Try.underlying32 hv
  obtain ⟨fuel, hf⟩ := h
  exact openBytesAt (by simpa [Value.cells] using hf)

/-- Texts that came in. -/
structure TextsD where
  A : Option Addr
  n : Nat
  c : Nat
  ts : List TextD
def TextsD.ok (t : TextsD) (W : World) : Prop := t.ts.length = t.n ∧ t.n ≤ maxLen ∧ (0 < t.n → ∃ b o, t.A = some ⟨b, o, none⟩ ∧ b < W.heap.size ∧ ∀ k (h : k < t.ts.length), W.cell? ⟨b, o + k, none⟩ = some (.slice t.ts[k].A t.ts[k].n t.ts[k].c)) ∧ ∀ x ∈ t.ts, x.ok W

theorem TextD.ok.below {t : TextD} {W W' : World} (h : t.ok W) (hb : Below W.heap.size W W') : t.ok W' := ⟨(h.1.below hb).more hb.size, h.2⟩
theorem TextsD.ok.below {t : TextsD} {W W' : World} (h : t.ok W) (hb : Below W.heap.size W W') : t.ok W' := by
  refine ⟨h.1, h.2.1, fun hn => ?_, fun x hx => (h.2.2.2 x hx).below hb⟩
  obtain ⟨b, o, hA, hlt, hc⟩ := h.2.2.1 hn
  exact ⟨b, o, hA, Nat.lt_of_lt_of_le hlt hb.size, fun k hk => (hb.cell (p := ⟨b, o + k, none⟩) hlt).trans (hc k hk)⟩

/-- Of each index some value: a list. -/
theorem list_of {α : Type} (n : Nat) (p : Nat → α → Prop) (h : ∀ k, k < n → ∃ x, p k x) : ∃ l : List α, l.length = n ∧ ∀ k (hk : k < l.length), p k l[k] := by
  induction n with
  | zero => exact ⟨[], rfl, fun k hk => absurd hk (by simp)⟩
  | succ n ih =>
    obtain ⟨l, hl, hp⟩ := ih fun k hk => h k (by omega)
    obtain ⟨x, hx⟩ := h n (by omega)
    refine ⟨l ++ [x], by simp [hl], fun k hk => ?_⟩
    by_cases hkn : k < l.length
    · rw [List.getElem_append_left hkn]
      exact hp k hkn
    · obtain rfl : k = n := by simp at hk; omega
      rw [List.getElem_append_right (by omega)]
      simpa [hl] using hx


theorem trod_field {P : Program} {spare : Nat → Bool} {held : Bool} {fuel : Nat} {t : TypeId} {cs : List Value} {x : DataW H × List MemPlace} {fs : Array Field} {b : Nat}
    (hs : P.underlying t = some (.struct fs)) (h : DataW.trod enc P W b spare held fuel t cs = some x) (i : Nat) (f : Field) (hf : fs[i]? = some f) :
    ∃ n y, DataW.trod enc P W b spare held n f.type ((cs.drop f.offset).take (P.cellsOf f.type)) = some y := by
  obtain ⟨xs, n, _, _, _, hl, hg⟩ := DataW.trod_struct hs h
  have hi : i < fs.size := (Array.getElem?_eq_some_iff.1 hf).1
  refine ⟨n, xs[i]'(by omega), ?_⟩
  rw [hg i f hf]
  exact List.getElem?_eq_getElem (by omega)
/-- A field by its type, its place and its cells. -/
theorem trod_part {P : Program} {spare : Nat → Bool} {held : Bool} {fuel : Nat} {t : TypeId} {cs : List Value} {x : DataW H × List MemPlace} {fs : Array Field} {b : Nat}
    (hs : P.underlying t = some (.struct fs)) (h : DataW.trod enc P W b spare held fuel t cs = some x) (i tt off k : Nat) (hf : (fs[i]?).map (fun f => (f.type, f.offset)) = some (tt, off)) (hk : P.cellsOf tt = k) :
    ∃ n y, DataW.trod enc P W b spare held n tt ((cs.drop off).take k) = some y := by
  obtain ⟨f, hf1, hf2⟩ := Option.map_eq_some_iff.1 hf
  injection hf2 with e1 e2
  subst e1 e2 hk
  exact trod_field hs h i f hf1
end
end Go.Proofs.Ytoiopoebjchjeaa
