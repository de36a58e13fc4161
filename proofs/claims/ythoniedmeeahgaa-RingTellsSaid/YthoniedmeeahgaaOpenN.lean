/-
  The nets that came in, opened: where they lie, what they say.
-/
import Derived.Test.YthoniedmeeahgaaOpen
import Derived.Test.YthoniedmeeahgaaOfA
namespace Go.Proofs.Ythoniedmeeahgaa
open Go.ChangeShapes Go.WideShapes Go.ChangeAt Go.RowKit
set_option maxRecDepth 100000

def wfN (x : NetD) : Prop := wf64 x.f ∧ wf64 x.t ∧ wf64 x.l ∧ wf64 x.a ∧ wf64 x.n
section
variable {H : Type} {enc : TypeId × Value → H} {W : World} {base : Nat}
theorem fiveL {α : Type} (l : List α) (h : l.length = 5) : ∃ a b c d e, l = [a, b, c, d, e] := by
  match l, h with
  | [a, b, c, d, e], _ => exact ⟨a, b, c, d, e, rfl⟩
theorem openNetAt {m : Nat} {cs : List Value} {y : DataW H × List MemPlace} (hl : cs.length = 5) (h : DataW.trod enc Try.prog W 0 (fun _ => true) true m 38 cs = some y) : ∃ x : NetD, cs = encN x ∧ wfN x := by
  obtain ⟨v0, v1, v2, v3, v4, rfl⟩ := fiveL cs hl
  obtain ⟨n0, y0, h0⟩ : ∃ n y, DataW.trod enc Try.prog W 0 (fun _ => true) true n 3 [v0] = some y := trod_part Try.underlying38 h 0 3 0 1 rfl intCells
  obtain ⟨a0, e0, _, w0⟩ := DataW.trod_int Try.underlying3 h0
  obtain rfl := List.head_eq_of_cons_eq e0
  obtain ⟨n1, y1, h1⟩ : ∃ n y, DataW.trod enc Try.prog W 0 (fun _ => true) true n 3 [v1] = some y := trod_part Try.underlying38 h 1 3 1 1 rfl intCells
  obtain ⟨a1, e1, _, w1⟩ := DataW.trod_int Try.underlying3 h1
  obtain rfl := List.head_eq_of_cons_eq e1
  obtain ⟨n2, y2, h2⟩ : ∃ n y, DataW.trod enc Try.prog W 0 (fun _ => true) true n 3 [v2] = some y := trod_part Try.underlying38 h 2 3 2 1 rfl intCells
  obtain ⟨a2, e2, _, w2⟩ := DataW.trod_int Try.underlying3 h2
  obtain rfl := List.head_eq_of_cons_eq e2
  obtain ⟨n3, y3, h3⟩ : ∃ n y, DataW.trod enc Try.prog W 0 (fun _ => true) true n 3 [v3] = some y := trod_part Try.underlying38 h 3 3 3 1 rfl intCells
  obtain ⟨a3, e3, _, w3⟩ := DataW.trod_int Try.underlying3 h3
  obtain rfl := List.head_eq_of_cons_eq e3
  obtain ⟨n4, y4, h4⟩ : ∃ n y, DataW.trod enc Try.prog W 0 (fun _ => true) true n 3 [v4] = some y := trod_part Try.underlying38 h 4 3 4 1 rfl intCells
  obtain ⟨a4, e4, _, w4⟩ := DataW.trod_int Try.underlying3 h4
  obtain rfl := List.head_eq_of_cons_eq e4
  exact ⟨⟨a0, a1, a2, a3, a4⟩, rfl, w0, w1, w2, w3, w4⟩

theorem openNs {v : Value} {d : DataW H} {p : List MemPlace} (hv : Value.okWide Try.prog W .any base 22 v) (h : DataW.Trod enc Try.prog W 0 (fun _ => true) true 22 v d p) : ∃ t : NsD, v = .slice t.A t.n t.c ∧ t.ok W ∧ t.n ≤ 9223372036854775807 ∧ ∀ x ∈ t.xs, wfN x := by
  obtain ⟨a, l, c, rfl⟩ := okWide_slice Try.underlying22 hv
  obtain ⟨fuel, hf⟩ := h
  have c40 : Try.prog.cellsOf 38 = 5 := by kernel_rfl
  rcases Deep.open_slice Try.underlying22 hf with ⟨hcs, _⟩ | ⟨x, l', c', m, n, D, Pl, hcs, _, hl, hm, hmm, _, hx⟩
  · simp [Value.cells] at hcs
    obtain ⟨rfl, rfl, rfl⟩ := hcs
    exact ⟨⟨none, 0, 0, []⟩, rfl, ⟨rfl, Reads.none_⟩, Nat.zero_le _, by simp⟩
  · simp [Value.cells] at hcs
    obtain ⟨rfl, rfl, rfl⟩ := hcs
    simp at hmm
    subst hmm
    obtain ⟨os, hos, hp⟩ := list_of l (fun k (t : NetD) => (∀ (j : Nat) (v : Value), (encN t)[j]? = some v → W.cell? (x.add (k * 5 + j)) = some v) ∧ wfN t) (fun k hk => by
      obtain ⟨cs', h1, h2⟩ := hx k (by omega)
      rw [c40] at h1
      obtain ⟨_, hlen, hat⟩ := World.cells?_some h1
      obtain ⟨t, ht, hok⟩ := openNetAt hlen h2
      refine ⟨t, fun j v hv => ?_, hok⟩
      have hj : j < 5 := by
        rw [← ht] at hv
        have := (List.getElem?_eq_some_iff.1 hv).1
        omega
      rw [← add_of_add, hat j hj, ht, hv])
    refine ⟨⟨some x, l, m, os⟩, rfl, ⟨hos, ⟨by rw [nCells_length, hos], fun hn => ⟨x, rfl, ?_, fun j u hu => ?_⟩⟩⟩, by simp only; unfold maxLen at hm; omega, fun t ht => ?_⟩
    · have h0 := (hp 0 (by simp only at hn; omega)).1 0 _ rfl
      have hb := block_lt_of_cell h0
      rwa [block_of_add] at hb
    · simp only at hu
      have hjl := (List.getElem?_eq_some_iff.1 hu).1
      rw [nCells_length] at hjl
      have hk : j / 5 < os.length := by omega
      have hm5 : j % 5 < 5 := Nat.mod_lt _ (by omega)
      have hc : (encN os[j / 5])[j % 5]? = some ((encN os[j / 5])[j % 5]'(by simpa [encN] using hm5)) := List.getElem?_eq_getElem _
      have h1 := nCells_at os (j / 5) hk (j % 5) _ hc
      have h2 := (hp (j / 5) hk).1 (j % 5) _ hc
      have e : j / 5 * 5 + j % 5 = j := by omega
      rw [e] at h1 h2
      rw [hu] at h1
      injection h1 with h1
      rw [h2, h1]
    · obtain ⟨k, hk, rfl⟩ := List.getElem_of_mem ht
      exact (hp k hk).2
end
end Go.Proofs.Ythoniedmeeahgaa
