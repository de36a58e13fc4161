/-
  SameRings at rings that are one, by contract; how long rings are.
-/
import Derived.Test.YthoniedmeeahgaaEqRings
namespace Go.Proofs.Ythoniedmeeahgaa
open Go.RowKit Go.Maps

/-- No row is long. -/
def ShortR (r : RingD) : Prop := r.ps.length ≤ 1000000 ∧ r.legs.length ≤ 1000000 ∧ ∀ is ∈ r.legs, is.length ≤ 1000000
theorem mem_flat_len {α β : Type} {f : α → List β} {rs : List α} {r : α} (h : r ∈ rs) : (f r).length ≤ (rs.flatMap f).length := by
  induction rs with
  | nil => simp at h
  | cons x xs ih =>
    rw [List.flatMap_cons, List.length_append]
    rcases List.mem_cons.1 h with rfl | h
    · omega
    · have := ih h
      omega
theorem short_of {xs : List NetD} {rs : List RingD} {left : List NetD} (h : RingsOK xs rs left) (hm : MayX xs) : (∀ r ∈ rs, ShortR r) ∧ rs.length ≤ 100 ∧ left.length ≤ 100 := by
  have hl := h.perm.length_eq
  have hlen := hm.len
  rw [List.length_append] at hl
  refine ⟨fun r hr => ?_, ?_, by omega⟩
  · have hg := (h.good r hr).1
    have h16 := ps_le (fun x hx => ⟨(hm.each x hx).f, (hm.each x hx).t⟩) hg (h.good r hr).2
    have hrl := mem_flat_len (f := netsR) hr
    refine ⟨by omega, by rw [hg.legs]; omega, fun is his => ?_⟩
    obtain ⟨k, hk, rfl⟩ := List.getElem_of_mem his
    have hk' : k < r.ps.length := by rw [← hg.legs]; exact hk
    have h1 := mem_flat_len (f := netsK r) (List.mem_range.2 hk')
    rw [← netsR_eq, netsK, List.length_map, getD_eq hk] at h1
    omega
  · have := flat_len' (f := netsR) (rs := rs) (fun r hr => netsR_pos' (h.good r hr).1)
    omega
set_option maxRecDepth 100000 in
set_option maxHeartbeats 8000000 in
theorem samerings_eq {v1 v2 : Value} {rs : List RingD} {w : World} (h1 : RgsAt w v1 rs) (h2 : RgsAt w v2 rs) (hl : rs.length ≤ 1000000) (hs : ∀ r ∈ rs, ShortR r) : Calls Try.prog 14 #[v1, v2] w (EqP w true) := by
  obtain ⟨A1, c1, rfl⟩ := h1.shape
  obtain ⟨A2, c2, rfl⟩ := h2.shape
  have H1 := Lib.hid h1
  have H2 := Lib.hid h2
  have HS := Lib.hid hs
  clear h1 h2 hs
  go_enter Try.func14, Try.ntmps14
  go_wp2_with fail
  go_loopw [5] (fun i wr => ∃ k : Nat, k ≤ rs.length ∧ i = .int .i64 k ∧ Below w.heap.size w wr) (fun i _ => rs.length - (intOf i).toNat)
  case atStart => exact ⟨0, Nat.zero_le _, rfl, Below.refl _ _⟩
  case round =>
    obtain ⟨k, hk, rfl, hb⟩ := hrel
    have hk0 : (0 : Int) ≤ (k : Int) := Int.natCast_nonneg _
    by_cases hlt : k < rs.length
    · have hki : (k : Int) < (rs.length : Int) := by omega -- ARM round
      have ek : IntKind.i64.wrap ((k : Int) + 1) = (k : Int) + 1 := by rw [IntKind.wrap_i64]; omega
      obtain ⟨g1, e1, r1, hz1, hc1⟩ := H1.out.get (by omega)
      obtain ⟨g2, e2, r2, hz2, hc2⟩ := H2.out.get (by omega)
      injection r1 with r1 _ r1'
      injection r2 with r2 _ r2'
      subst r1 r1' r2 r2'
      obtain ⟨p1, l1, a0, a1, hr1⟩ := hc1 k hlt
      obtain ⟨p2, l2, b0, b1, hr2⟩ := hc2 k hlt
      have x0 := (hb.cell (p := ⟨g1, k * 2, none⟩) hz1).trans a0
      have x1 := (hb.cell (p := ⟨g1, k * 2 + 1, none⟩) hz1).trans a1
      have y0 := (hb.cell (p := ⟨g2, k * 2, none⟩) hz2).trans b0
      have y1 := (hb.cell (p := ⟨g2, k * 2 + 1, none⟩) hz2).trans b1
      have s1 := Nat.lt_of_lt_of_le hz1 hb.size
      have s2 := Nat.lt_of_lt_of_le hz2 hb.size
      have HR1 := Lib.hid (hr1.kept (TK3.of_below hb.drew))
      have HR2 := Lib.hid (hr2.kept (TK3.of_below hb.drew))
      have HSH := Lib.hid (HS.out _ (List.getElem_mem hlt))
      have HBD := Lib.hid hb.drew
      clear hc1 hc2 a0 a1 b0 b1 hr1 hr2 hb
      go_wp2_with fail
      refine wp_region_still_tail 8 (by kernel_rfl) (by kernel_rfl) ?_
      simp only [List.take_succ_cons, List.take_zero, List.drop_succ_cons, List.drop_zero]
      iterate 8 still_step
      refine wpStill_nil ?_
      change wpList _ _ _ _ _ (World.drew wr)
      clear x0 x1 y0 y1
      go_wp2_with fail
      refine (samering_any HR1.out HR2.out HSH.out.1 HSH.out.2.1 HSH.out.2.2 true (by simp)).mono ?_
      rintro e w4 ⟨rfl, hb4⟩
      have HB4 := Lib.hid (HBD.out.trans (hb4.mono HBD.out.size))
      clear hb4
      go_wp2_with fail
      exact ⟨⟨k + 1, hlt, rfl, HB4.out⟩, by simp only [intOf]; omega⟩
    · obtain rfl : k = rs.length := by omega -- ARM done
      have hki : ¬ ((rs.length : Int) < (rs.length : Int)) := by omega
      have HB := Lib.hid hb
      clear hb
      go_wp2_with fail
      go_ret
      exact ⟨rfl, HB.out⟩
end Go.Proofs.Ythoniedmeeahgaa
