/-
  Rings that are there, read cell by cell.
-/
import Derived.Test.YthoniedmeeahgaaOf
namespace Go.Proofs.Ythoniedmeeahgaa
open Go.RowKit Go.Maps

theorem rCells_at (cs : List (Value × Value)) (k : Nat) (h : k < cs.length) : (rCells cs)[k * 2]? = some cs[k].1 ∧ (rCells cs)[k * 2 + 1]? = some cs[k].2 := by
  induction cs generalizing k with
  | nil => exact absurd h (by simp)
  | cons c cs ih =>
    match k, h with
    | 0, _ => simp [rCells]
    | k + 1, h =>
      have := ih k (by simpa using h)
      have e : rCells (c :: cs) = [c.1, c.2] ++ rCells cs := by simp [rCells]
      rw [e, List.getElem_cons_succ, List.getElem?_append_right (by simp; omega), List.getElem?_append_right (by simp; omega)]
      have e1 : (k + 1) * 2 - [c.1, c.2].length = k * 2 := by simp; omega
      have e2 : (k + 1) * 2 + 1 - [c.1, c.2].length = k * 2 + 1 := by simp; omega
      rw [e1, e2]
      exact this
theorem rCells_length (cs : List (Value × Value)) : (rCells cs).length = cs.length * 2 := by
  induction cs with
  | nil => rfl
  | cons c cs ih => simp [rCells] at ih ⊢; omega
section
variable {w : World}
theorem rings_cells {base n c : Nat} {A : Option Addr} {cs : List (Value × Value)} (h : w.ownsRow base 32 2 (.slice A n c) n (rCells cs)) (hn : 0 < n) : ∃ g, A = some ⟨g, 0, none⟩ ∧ g < w.heap.size ∧ ∀ k (hk : k < cs.length), w.cell? ⟨g, k * 2, none⟩ = some cs[k].1 ∧ w.cell? ⟨g, k * 2 + 1, none⟩ = some cs[k].2 := by
  obtain ⟨g, cap, hv, _, hlt⟩ := h.form hn
  injection hv with hA _ _
  subst hA
  refine ⟨g, rfl, hlt, fun k hk => ?_⟩
  have h1 := h.cells (g := g) rfl (k * 2) _ (rCells_at cs k hk).1
  have h2 := h.cells (g := g) rfl (k * 2 + 1) _ (rCells_at cs k hk).2
  rw [Addr.add_lit, Nat.zero_add] at h1 h2
  exact ⟨h1, h2⟩
theorem RingsIn.get {cs : List (Value × Value)} {rs : List RingD} (h : RingsIn w cs rs) {k : Nat} (hk : k < cs.length) (hk' : k < rs.length) : RingAt w cs[k].1 cs[k].2 rs[k] := h.2 k _ (List.getElem?_eq_getElem hk) _ (List.getElem?_eq_getElem hk')
theorem legs_cells {v : Value} {ls : List (List ItD)} (h : LegsAt w v ls) (hn : 0 < ls.length) : ∃ b o c, v = .slice (some ⟨b, o, none⟩) ls.length c ∧ b < w.heap.size ∧ ∀ k (hk : k < ls.length), ∃ u, w.cell? ⟨b, o + k, none⟩ = some u ∧ LegAt w u ls[k] := by
  obtain ⟨vs, ⟨A, c, rfl, h1, h2, h3, h4⟩, h5⟩ := h
  obtain ⟨b, o, cur, fr, rfl, hb, hc⟩ := h4 hn
  refine ⟨b, o, c, rfl, (Array.getElem?_eq_some_iff.1 hb).1, fun k hk => ?_⟩
  have hk' : k < vs.length := by omega
  have e := List.getElem?_eq_getElem hk'
  exact ⟨vs[k], hc k _ e, h5 k _ e _ (List.getElem?_eq_getElem hk)⟩
theorem leg_cells {v : Value} {is : List ItD} (h : LegAt w v is) (hn : 0 < is.length) : ∃ b o c, v = .slice (some ⟨b, o, none⟩) is.length c ∧ b < w.heap.size ∧ ∀ k (hk : k < is.length), w.cell? ⟨b, o + k * 3, none⟩ = some (.int .i64 is[k].l) ∧ w.cell? ⟨b, o + k * 3 + 1, none⟩ = some (.int .i64 is[k].a) ∧ w.cell? ⟨b, o + k * 3 + 2, none⟩ = some (.int .i64 is[k].n) := by
  obtain ⟨A, c, rfl, h1, h2, h3, h4⟩ := h
  obtain ⟨b, o, cur, fr, rfl, hb, hc⟩ := h4 hn
  refine ⟨b, o, c, rfl, (Array.getElem?_eq_some_iff.1 hb).1, fun k hk => ?_⟩
  have e0 := hc (k * 3 + 0) _ ((itCells_at is k hk 0 (by omega)).trans rfl)
  have e1 := hc (k * 3 + 1) _ ((itCells_at is k hk 1 (by omega)).trans rfl)
  have e2 := hc (k * 3 + 2) _ ((itCells_at is k hk 2 (by omega)).trans rfl)
  rw [← Nat.add_assoc] at e0 e1 e2
  exact ⟨e0, e1, e2⟩
theorem leg_shape {v : Value} {is : List ItD} (h : LegAt w v is) : ∃ A c, v = .slice A is.length c := RdT.shape h
end
def exN : List NetD := [⟨1, 2, 0, 0, 5⟩, ⟨2, 3, 0, 0, 6⟩, ⟨3, 1, 0, 0, 7⟩]
theorem ex_rings : ringsOf exN = ([⟨[1, 2, 3], [[⟨0, 0, 5⟩], [⟨0, 0, 6⟩], [⟨0, 0, 7⟩]]⟩], []) := by decide +kernel
theorem ex_may : MayX exN := by
  refine ⟨fun x hx => ?_, ?_, by decide⟩
  · simp [exN] at hx
    rcases hx with rfl | rfl | rfl <;> exact ⟨by decide, by decide, by decide, by decide, by decide, by decide⟩
  · simp [exN, clash]
theorem ns_blk {w : World} {g : Nat} {xs : List NetD} (c : Nat) (h : Blk w g 38 (nCells xs).toArray) : NsD.ok ⟨some ⟨g, 0, none⟩, xs.length, c, xs⟩ w := by
  refine ⟨rfl, nCells_length xs, fun _ => ⟨_, rfl, h.lt, fun j u hu => ?_⟩⟩
  rw [Addr.add_lit, Nat.zero_add, h.cell, ← hu]
  simp
set_option maxRecDepth 100000 in
set_option maxHeartbeats 4000000 in
theorem first_any (w : World) : Calls Try.prog 8 #[] w fun e w' => e = .returned (.bool true) ∧ Below w.heap.size w w' := by
  go_enter Try.func8, Try.ntmps8
  go_wp2_with fail
  have hok : NsD.ok ⟨some ⟨w.heap.size, 0, none⟩, 3, 3, exN⟩ (w.alloc (.cells #[.int .i64 1, .int .i64 2, .int .i64 0, .int .i64 0, .int .i64 5, .int .i64 2, .int .i64 3, .int .i64 0, .int .i64 0, .int .i64 6, .int .i64 3, .int .i64 1, .int .i64 0, .int .i64 0, .int .i64 7] 38)) := ns_blk (xs := exN) 3 (Blk.new w _ _)
  refine (of_any ⟨some ⟨w.heap.size, 0, none⟩, 3, 3, exN⟩ _ hok ex_may).mono ?_
  rintro e w1 ⟨v1, v2, cs, rfl, ho1, hri, ho2, hb1⟩
  have hB := Lib.hid (((Below.refl w.heap.size w).alloc (Nat.le_refl _) (.cells #[.int .i64 1, .int .i64 2, .int .i64 0, .int .i64 0, .int .i64 5, .int .i64 2, .int .i64 3, .int .i64 0, .int .i64 0, .int .i64 6, .int .i64 3, .int .i64 1, .int .i64 0, .int .i64 0, .int .i64 7] 38)).trans (hb1.mono (by simp)))
  rw [ex_rings] at hri ho2
  obtain ⟨A2, c2, rfl⟩ := own_shape ho2
  have hl1 : cs.length = 1 := hri.1
  rw [hl1] at ho1
  obtain ⟨A1, c1, rfl⟩ := own_shape ho1
  obtain ⟨g1, rfl, hg1, hc1⟩ := rings_cells ho1 (by omega)
  have hra := hri.get (k := 0) (by omega) (by simp)
  obtain ⟨r0, r1⟩ := hc1 0 (by omega)
  simp only [List.getElem_cons_zero] at hra
  generalize cs[0].1 = vp at hra r0
  generalize cs[0].2 = vl at hra r1
  obtain ⟨bP, oP, cP, rfl, _, hzP, _, hcP⟩ := rdT_int hra.1 (by simp)
  obtain ⟨bL, oL, cL, rfl, hzL, hcL⟩ := legs_cells hra.2 (by simp)
  obtain ⟨u, hu, hlu⟩ := hcL 2 (by simp)
  obtain ⟨bI, oI, cI, rfl, hzI, hcI⟩ := leg_cells hlu (by simp)
  have p0 := hcP 0 (by simp)
  have i0 := (hcI 0 (by simp)).2.2
  simp at p0 i0 r0 r1 hu
  clear ho1 ho2 hri hb1 hok hl1 hc1 hra hcP hcL hlu hcI
  go_wp2_with fail
  go_ret
  exact ⟨rfl, hB.out⟩
end Go.Proofs.Ythoniedmeeahgaa
