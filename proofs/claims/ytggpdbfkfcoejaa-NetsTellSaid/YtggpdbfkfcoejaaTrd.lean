/-
  The trades that came in, opened: where they lie, what they say.
-/
import Derived.Test.YtggpdbfkfcoejaaOpen
import Derived.Test.YtggpdbfkfcoejaaNetMap
namespace Go.Proofs.Ytggpdbfkfcoejaa
open Go.ChangeShapes Go.WideShapes Go.ChangeAt Go.RowKit

structure TrD where
  id : Int
  b : Int
  s : Int
  c : Int
  p : Int
  a : Int
  q : Int
def TrD.cells (x : TrD) : List Value := [.int .i64 x.id, .int .i64 x.b, .int .i64 x.s, .int .i64 x.c, .int .i64 x.p, .int .i64 x.a, .int .i64 x.q]
def TrD.wf (x : TrD) : Prop := wf64 x.id ∧ wf64 x.b ∧ wf64 x.s ∧ wf64 x.c ∧ wf64 x.p ∧ wf64 x.a ∧ wf64 x.q
def trCells (ts : List TrD) : List Value := ts.flatMap TrD.cells
theorem trCells_length (ts : List TrD) : (trCells ts).length = ts.length * 7 := by
  induction ts with
  | nil => rfl
  | cons p ps ih => simp [trCells, TrD.cells] at ih ⊢; omega
theorem trCells_at (ts : List TrD) (k : Nat) (h : k < ts.length) (j : Nat) (v : Value) (hv : ts[k].cells[j]? = some v) : (trCells ts)[k * 7 + j]? = some v := by
  induction ts generalizing k with
  | nil => exact absurd h (by simp)
  | cons p ps ih =>
    have hj : j < 7 := (List.getElem?_eq_some_iff.1 hv).1
    match k, h with
    | 0, _ =>
      have : trCells (p :: ps) = p.cells ++ trCells ps := rfl
      rw [this, Nat.zero_mul, Nat.zero_add, List.getElem?_append_left (by simpa [TrD.cells] using hj)]
      exact hv
    | k + 1, h =>
      have : trCells (p :: ps) = p.cells ++ trCells ps := rfl
      rw [this, List.getElem?_append_right (by simp [TrD.cells]; omega)]
      have := ih k (by simpa using h) hv
      rw [← this]
      congr 1
      simp [TrD.cells]
      omega
structure TrsD where
  A : Option Addr
  n : Nat
  c : Nat
  ts : List TrD
/-- The slice reads as these trades, whose numbers are numbers. -/
def TrsD.ok (t : TrsD) (W : World) : Prop := t.ts.length = t.n ∧ t.n ≤ maxLen ∧ Reads W W.heap.size 7 t.A t.n (trCells t.ts) ∧ ∀ x ∈ t.ts, x.wf
theorem TrsD.ok.below {t : TrsD} {W W' : World} (h : t.ok W) (hb : Below W.heap.size W W') : t.ok W' := ⟨h.1, h.2.1, (h.2.2.1.below hb).more hb.size, h.2.2.2⟩
theorem TrsD.ok.form {t : TrsD} {W : World} (h : t.ok W) (hn : 0 < t.n) : ∃ b o, t.A = some ⟨b, o, none⟩ ∧ b < W.heap.size ∧ ∀ k (hk : k < t.ts.length) (j : Nat) (v : Value), t.ts[k].cells[j]? = some v → W.cell? ⟨b, o + k * 7 + j, none⟩ = some v := by
  obtain ⟨h1, h2, h3, h4⟩ := h
  obtain ⟨ad, hA, hb, hc⟩ := h3.2 hn
  have h0 := hc 0 _ (trCells_at t.ts 0 (by omega) 0 _ rfl)
  have hsp := World.cell?_spot h0
  obtain ⟨b, o, s⟩ := ad
  have hs' : s = none := by simpa [Addr.add] using hsp
  subst hs'
  refine ⟨b, o, hA, hb, fun k hk j v hv => ?_⟩
  have := hc (k * 7 + j) v (trCells_at t.ts k hk j v hv)
  rw [Addr.add_lit] at this
  rwa [Nat.add_assoc]

section
variable {H : Type} {enc : TypeId × Value → H} {W : World} {base : Nat}
theorem seven {α : Type} (l : List α) (h : l.length = 7) : ∃ a b c d e f g, l = [a, b, c, d, e, f, g] := by
  match l, h with
  | [a, b, c, d, e, f, g], _ => exact ⟨a, b, c, d, e, f, g, rfl⟩
theorem openTrAt {m : Nat} {cs : List Value} {y : DataW H × List MemPlace} (hl : cs.length = 7) (h : DataW.trod enc Try.prog W 0 (fun _ => true) true m 30 cs = some y) : ∃ x : TrD, cs = x.cells ∧ x.wf := by
  obtain ⟨v0, v1, v2, v3, v4, v5, v6, rfl⟩ := seven cs hl
  obtain ⟨n0, y0, h0⟩ : ∃ n y, DataW.trod enc Try.prog W 0 (fun _ => true) true n 3 [v0] = some y := trod_part Try.underlying30 h 0 3 0 1 rfl intCells
  obtain ⟨a0, e0, _, w0⟩ := DataW.trod_int Try.underlying3 h0
  obtain rfl := List.head_eq_of_cons_eq e0
  obtain ⟨n1, y1, h1⟩ : ∃ n y, DataW.trod enc Try.prog W 0 (fun _ => true) true n 3 [v1] = some y := trod_part Try.underlying30 h 1 3 1 1 rfl intCells
  obtain ⟨a1, e1, _, w1⟩ := DataW.trod_int Try.underlying3 h1
  obtain rfl := List.head_eq_of_cons_eq e1
  obtain ⟨n2, y2, h2⟩ : ∃ n y, DataW.trod enc Try.prog W 0 (fun _ => true) true n 3 [v2] = some y := trod_part Try.underlying30 h 2 3 2 1 rfl intCells
  obtain ⟨a2, e2, _, w2⟩ := DataW.trod_int Try.underlying3 h2
  obtain rfl := List.head_eq_of_cons_eq e2
  obtain ⟨n3, y3, h3⟩ : ∃ n y, DataW.trod enc Try.prog W 0 (fun _ => true) true n 3 [v3] = some y := trod_part Try.underlying30 h 3 3 3 1 rfl intCells
  obtain ⟨a3, e3, _, w3⟩ := DataW.trod_int Try.underlying3 h3
  obtain rfl := List.head_eq_of_cons_eq e3
  obtain ⟨n4, y4, h4⟩ : ∃ n y, DataW.trod enc Try.prog W 0 (fun _ => true) true n 3 [v4] = some y := trod_part Try.underlying30 h 4 3 4 1 rfl intCells
  obtain ⟨a4, e4, _, w4⟩ := DataW.trod_int Try.underlying3 h4
  obtain rfl := List.head_eq_of_cons_eq e4
  obtain ⟨n5, y5, h5⟩ : ∃ n y, DataW.trod enc Try.prog W 0 (fun _ => true) true n 3 [v5] = some y := trod_part Try.underlying30 h 5 3 5 1 rfl intCells
  obtain ⟨a5, e5, _, w5⟩ := DataW.trod_int Try.underlying3 h5
  obtain rfl := List.head_eq_of_cons_eq e5
  obtain ⟨n6, y6, h6⟩ : ∃ n y, DataW.trod enc Try.prog W 0 (fun _ => true) true n 3 [v6] = some y := trod_part Try.underlying30 h 6 3 6 1 rfl intCells
  obtain ⟨a6, e6, _, w6⟩ := DataW.trod_int Try.underlying3 h6
  obtain rfl := List.head_eq_of_cons_eq e6
  exact ⟨⟨a0, a1, a2, a3, a4, a5, a6⟩, rfl, w0, w1, w2, w3, w4, w5, w6⟩

theorem openTrs {v : Value} {d : DataW H} {p : List MemPlace} (hv : Value.okWide Try.prog W .any base 22 v) (h : DataW.Trod enc Try.prog W 0 (fun _ => true) true 22 v d p) : ∃ t : TrsD, v = .slice t.A t.n t.c ∧ t.ok W := by
  obtain ⟨a, l, c, rfl⟩ := okWide_slice Try.underlying22 hv
  obtain ⟨fuel, hf⟩ := h
  have c40 : Try.prog.cellsOf 30 = 7 := by kernel_rfl
  rcases Deep.open_slice Try.underlying22 hf with ⟨hcs, _⟩ | ⟨x, l', c', m, n, D, Pl, hcs, _, hl, hm, hmm, _, hx⟩
  · simp [Value.cells] at hcs
    obtain ⟨rfl, rfl, rfl⟩ := hcs
    exact ⟨⟨none, 0, 0, []⟩, rfl, rfl, Nat.zero_le _, Reads.none_, by simp⟩
  · simp [Value.cells] at hcs
    obtain ⟨rfl, rfl, rfl⟩ := hcs
    simp at hmm
    subst hmm
    obtain ⟨os, hos, hp⟩ := list_of l (fun k (t : TrD) => (∀ (j : Nat) (v : Value), t.cells[j]? = some v → W.cell? (x.add (k * 7 + j)) = some v) ∧ t.wf) (fun k hk => by
      obtain ⟨cs', h1, h2⟩ := hx k (by omega)
      rw [c40] at h1
      obtain ⟨_, hlen, hat⟩ := World.cells?_some h1
      obtain ⟨t, ht, hok⟩ := openTrAt hlen h2
      refine ⟨t, fun j v hv => ?_, hok⟩
      have hj : j < 7 := by
        rw [← ht] at hv
        have := (List.getElem?_eq_some_iff.1 hv).1
        omega
      rw [← add_of_add, hat j hj, ht, hv])
    refine ⟨⟨some x, l, m, os⟩, rfl, hos, by simp only; omega, ⟨by rw [trCells_length, hos], fun hn => ⟨x, rfl, ?_, fun j u hu => ?_⟩⟩, fun t ht => ?_⟩
    · have h0 := (hp 0 (by simp only at hn; omega)).1 0 _ rfl
      have hb := block_lt_of_cell h0
      rwa [block_of_add] at hb
    · simp only at hu
      have hjl := (List.getElem?_eq_some_iff.1 hu).1
      rw [trCells_length] at hjl
      have hk : j / 7 < os.length := by omega
      have hm7 : j % 7 < 7 := Nat.mod_lt _ (by omega)
      have hc : os[j / 7].cells[j % 7]? = some (os[j / 7].cells[j % 7]'(by simpa [TrD.cells] using hm7)) := List.getElem?_eq_getElem _
      have h1 := trCells_at os (j / 7) hk (j % 7) _ hc
      have h2 := (hp (j / 7) hk).1 (j % 7) _ hc
      have e : j / 7 * 7 + j % 7 = j := by omega
      rw [e] at h1 h2
      rw [hu] at h1
      injection h1 with h1
      rw [h2, h1]
    · obtain ⟨k, hk, rfl⟩ := List.getElem_of_mem ht
      exact (hp k hk).2
end
end Go.Proofs.Ytggpdbfkfcoejaa
