/-
  Rings and nets that are there, read cell by cell in any later world.
-/
import Derived.Test.YthoniedmeeahgaaMayX
import Derived.Test.YthoniedmeeahgaaWholeLaw
namespace Go.Proofs.Ythoniedmeeahgaa
open Go.RowKit Go.Maps

/-- A slice of rings that is there. -/
def RgsAt (w : World) (v : Value) (rs : List RingD) : Prop := ∃ (base : Nat) (cs : List (Value × Value)), w.ownsRow base 32 2 v cs.length (rCells cs) ∧ RingsIn w cs rs
section
variable {w w' : World} {v : Value} {rs : List RingD}
theorem RgsAt.shape (h : RgsAt w v rs) : ∃ A c, v = .slice A rs.length c := by
  obtain ⟨base, cs, ho, hri⟩ := h
  rw [hri.1] at ho
  exact own_shape ho
theorem RgsAt.below (h : RgsAt w v rs) (hb : Below w.heap.size w w') : RgsAt w' v rs := by
  obtain ⟨base, cs, ho, hri⟩ := h
  exact ⟨base, cs, own_below ho hb, hri.kept (TK3.of_below hb)⟩
theorem RgsAt.get (h : RgsAt w v rs) (hn : 0 < rs.length) : ∃ g c, v = .slice (some ⟨g, 0, none⟩) rs.length c ∧ g < w.heap.size ∧ ∀ k (hk : k < rs.length), ∃ vp vl, w.cell? ⟨g, k * 2, none⟩ = some vp ∧ w.cell? ⟨g, k * 2 + 1, none⟩ = some vl ∧ RingAt w vp vl rs[k] := by
  obtain ⟨base, cs, ho, hri⟩ := h
  have hl := hri.1
  rw [hl] at ho
  obtain ⟨A, c, rfl⟩ := own_shape ho
  obtain ⟨g, rfl, hg, hc⟩ := rings_cells ho hn
  exact ⟨g, c, rfl, hg, fun k hk => ⟨_, _, (hc k (by omega)).1, (hc k (by omega)).2, hri.get (by omega) hk⟩⟩
end
theorem Blk.two' {w : World} {g : Nat} {t : TypeId} {a b : Value} (h : Blk w g t #[a, b]) : (w.cell? ⟨g, 0, none⟩ = some a ∧ w.cell? ⟨g, 1, none⟩ = some b) ∧ (w.frozen? ⟨g, 0, none⟩ = false ∧ w.frozen? ⟨g, 1, none⟩ = false) :=
  ⟨⟨by rw [h.cell]; rfl, by rw [h.cell]; rfl⟩, h.frozen 0, h.frozen 1⟩
/-- One ring, cell by cell. -/
structure RgRd (w : World) (r : RingD) (bP oP bL oL : Nat) : Prop where
  bp : bP < w.heap.size
  bl : bL < w.heap.size
  ps : ∀ k, k < r.ps.length → w.cell? ⟨bP, oP + k, none⟩ = some (.int .i64 (r.ps.getD k 0))
  legs : ∀ k, k < r.ps.length → ∃ bI oI cI, w.cell? ⟨bL, oL + k, none⟩ = some (.slice (some ⟨bI, oI, none⟩) (r.legs.getD k []).length cI) ∧ bI < w.heap.size ∧ ∀ j (hj : j < (r.legs.getD k []).length), w.cell? ⟨bI, oI + j * 3, none⟩ = some (.int .i64 (r.legs.getD k [])[j].l) ∧ w.cell? ⟨bI, oI + j * 3 + 1, none⟩ = some (.int .i64 (r.legs.getD k [])[j].a) ∧ w.cell? ⟨bI, oI + j * 3 + 2, none⟩ = some (.int .i64 (r.legs.getD k [])[j].n)
theorem ring_rd {w : World} {vp vl : Value} {r : RingD} (h : RingAt w vp vl r) (hg : GoodR r) : ∃ bP oP cP bL oL cL, vp = .slice (some ⟨bP, oP, none⟩) r.ps.length cP ∧ vl = .slice (some ⟨bL, oL, none⟩) r.ps.length cL ∧ RgRd w r bP oP bL oL := by
  have h2 := hg.two
  have hlg := hg.legs
  obtain ⟨bP, oP, cP, rfl, _, hzP, _, hcP⟩ := rdT_int h.1 (by omega)
  obtain ⟨bL, oL, cL, rfl, hzL, hcL⟩ := legs_cells h.2 (by omega)
  refine ⟨bP, oP, cP, bL, oL, cL, rfl, by rw [hlg], hzP, hzL, fun k hk => ?_, fun k hk => ?_⟩
  · rw [getD_eq hk]
    exact hcP k hk
  · obtain ⟨u, hu, hl⟩ := hcL k (by omega)
    have hne := hg.ne k hk
    have hk' : k < r.legs.length := by omega
    rw [← getD_eq hk' []] at hl
    obtain ⟨bI, oI, cI, rfl, hbI, hcI⟩ := leg_cells hl (List.length_pos_iff.2 hne)
    exact ⟨bI, oI, cI, hu, hbI, hcI⟩
theorem left_row {w : World} {base : Nat} {v : Value} {xs : List NetD} (h : w.ownsRow base 38 5 v xs.length (nCells xs)) : ∃ A c, v = .slice A xs.length c ∧ (0 < xs.length → ∃ b, A = some ⟨b, 0, none⟩ ∧ NetAt w xs b 0) := by
  obtain ⟨A, c, rfl⟩ := own_shape h
  refine ⟨A, c, rfl, fun hn => ?_⟩
  obtain ⟨g, cap, hv, _, hlt⟩ := h.form hn
  injection hv with hA _ _
  subst hA
  refine ⟨g, rfl, hlt, fun k hk => ?_⟩
  have hc : ∀ j u, (encN xs[k])[j]? = some u → w.cell? ⟨g, 0 + k * 5 + j, none⟩ = some u := fun j u e => by
    have h1 := h.cells (g := g) rfl (k * 5 + j) _ (nCells_at xs k hk j u e)
    rw [Addr.add_lit, ← Nat.add_assoc] at h1
    exact h1
  exact ⟨hc 0 _ rfl, hc 1 _ rfl, hc 2 _ rfl, hc 3 _ rfl, hc 4 _ rfl⟩
theorem nd_ne {L : List Int} (h : L.Nodup) {j k : Nat} (hjk : j < k) (hk : k < L.length) : ¬ L.getD j 0 = L.getD k 0 := by
  have hj : j < L.length := by omega
  rw [getD_eq hj, getD_eq hk]
  exact List.pairwise_iff_getElem.1 h j k hj hk hjk
theorem netsK_step {r : RingD} {k j : Nat} (hj : j < (r.legs.getD k []).length) : (netsK r k).drop j = mkN (r.ps.getD k 0) (nextOf r.ps k) (r.legs.getD k [])[j] :: (netsK r k).drop (j + 1) := by
  unfold netsK
  rw [List.drop_eq_getElem_cons (by simpa using hj), List.getElem_map]
theorem netsK_len (r : RingD) (k : Nat) : (netsK r k).length = (r.legs.getD k []).length := by simp [netsK]
theorem freeOf_len : ∀ (xs : List NetD) (us : List Bool), (freeOf xs us).length ≤ xs.length := by
  intro xs
  induction xs with
  | nil => intro us; simp [freeOf]
  | cons x xs ih =>
    intro us
    cases us with
    | nil => simp [freeOf]
    | cons u us =>
      have := ih us
      rw [freeOf]
      split
      · rw [List.length_cons]
        omega
      · rw [List.length_cons, List.length_cons]
        omega
theorem netsK_done (r : RingD) (k : Nat) : (netsK r k).drop (r.legs.getD k []).length = [] := by
  unfold netsK
  exact List.drop_eq_nil_of_le (by simp)
theorem netsR_pos' {r : RingD} (h : GoodR r) : 0 < (netsR r).length := by
  have h2 := h.two
  have hne := h.ne 0 (by omega)
  obtain ⟨i, is, e⟩ := List.exists_cons_of_ne_nil hne
  refine List.length_pos_of_mem (a := mkN (r.ps.getD 0 0) (nextOf r.ps 0) i) ?_
  unfold netsR
  rw [List.mem_flatMap]
  refine ⟨0, List.mem_range.2 (by omega), ?_⟩
  rw [e]
  simp
theorem flat_len' {α β : Type} {f : α → List β} : ∀ {rs : List α}, (∀ r ∈ rs, 0 < (f r).length) → rs.length ≤ (rs.flatMap f).length := by
  intro rs
  induction rs with
  | nil => intro _; simp
  | cons r rs ih =>
    intro h
    have h1 := h r (by simp)
    have h2 := ih (fun x hx => h x (by simp [hx]))
    rw [List.flatMap_cons, List.length_append, List.length_cons]
    omega
end Go.Proofs.Ythoniedmeeahgaa
