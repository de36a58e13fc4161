/-
  Equal legs, equal rings, by contract: the reference's and the ring's own.
-/
import Derived.Test.YthoniedmeeahgaaEqs
import Derived.StillTailTactics
namespace Go.Proofs.Ythoniedmeeahgaa
open Go.RowKit Go.Maps

theorem LegsAt.shape' {w : World} {v : Value} {ls : List (List ItD)} (h : LegsAt w v ls) : ∃ A c, v = .slice A ls.length c := by
  obtain ⟨vs, h, _⟩ := h
  exact RdT.shape h
theorem EqP.of {w w1 w2 : World} {p : Bool} {e : Ending} (hb : Below w.heap.size w w1) (h : EqP w1 p e w2) : EqP w p e w2 := ⟨h.1, hb.trans (h.2.mono hb.size)⟩
set_option maxRecDepth 100000 in
set_option maxHeartbeats 8000000 in
theorem same1_any {v1 v2 : Value} {xs ys : List ItD} {w : World} (h1 : LegAt w v1 xs) (h2 : LegAt w v2 ys) (hm : xs.length ≤ 1000000) (p : Bool) (hp : p = decide (xs = ys)) : Calls Try.prog 28 #[v1, v2] w (EqP w p) := by
  have H := Lib.hid (eqitems_any h1 h2 hm p hp)
  clear h1 h2 hp
  go_enter Try.func28, Try.ntmps28
  go_wp2_with fail
  refine H.out.mono ?_
  rintro e w1 ⟨rfl, hb⟩
  go_wp2_with fail
  go_ret
  exact ⟨rfl, hb⟩
set_option maxRecDepth 100000 in
set_option maxHeartbeats 8000000 in
theorem samelegs_any {v1 v2 : Value} {xs ys : List (List ItD)} {w : World} (h1 : LegsAt w v1 xs) (h2 : LegsAt w v2 ys) (hm : xs.length ≤ 1000000) (hmi : ∀ is ∈ xs, is.length ≤ 1000000) (p : Bool) (hp : p = decide (xs = ys)) : Calls Try.prog 31 #[v1, v2] w (EqP w p) := by
  obtain ⟨A1, c1, rfl⟩ := h1.shape'
  obtain ⟨A2, c2, rfl⟩ := h2.shape'
  have H1 := Lib.hid h1
  have H2 := Lib.hid h2
  have HMI := Lib.hid hmi
  clear h1 h2 hmi
  by_cases hl : ys.length = xs.length
  case neg =>
    have HP := Lib.hid (show p = false from by rw [hp]; exact decide_eq_false (fun e => hl (by rw [e])))
    have q1 : ((xs.length : Int) == (ys.length : Int)) = false := by simp; omega
    have q2 : decide ((xs.length : Int) = (ys.length : Int)) = false := decide_eq_false (by omega)
    have q3 : (xs.length == ys.length) = false := by simp; omega
    have q4 : decide (xs.length = ys.length) = false := decide_eq_false (by omega)
    have q5 : ((xs.length : Int) != (ys.length : Int)) = true := by simp; omega
    have q6 : ¬ xs.length = ys.length := by omega
    clear hp hl
    go_enter Try.func31, Try.ntmps31
    go_wp2_with fail
    go_ret
    exact ⟨by rw [HP.out]; rfl, Below.refl _ _⟩
  case pos =>
    rw [hl]
    have HPP := Lib.hid hp
    have HL := Lib.hid hl
    clear hp hl
    go_enter Try.func31, Try.ntmps31
    go_wp2_with fail
    go_loopw [5] (fun i wr => ∃ k : Nat, k ≤ xs.length ∧ i = .int .i64 k ∧ xs.take k = ys.take k ∧ Below w.heap.size w wr) (fun i _ => xs.length - (intOf i).toNat)
    case atStart => exact ⟨0, Nat.zero_le _, rfl, rfl, Below.refl _ _⟩
    case round =>
      obtain ⟨k, hk, rfl, ht, hb⟩ := hrel
      have hk0 : (0 : Int) ≤ (k : Int) := Int.natCast_nonneg _
      by_cases hlt : k < xs.length
      · have hly : k < ys.length := by rw [HL.out]; exact hlt -- ARM samelegs_anyR
        have hki : (k : Int) < (xs.length : Int) := by omega
        have ek : IntKind.i64.wrap ((k : Int) + 1) = (k : Int) + 1 := by rw [IntKind.wrap_i64]; omega
        obtain ⟨b1, o1, e1, r1, hz1, hc1⟩ := legs_cells H1.out (by omega)
        obtain ⟨b2, o2, e2, r2, hz2, hc2⟩ := legs_cells H2.out (by omega)
        injection r1 with r1 _ r1'
        injection r2 with r2 _ r2'
        subst r1 r1' r2 r2'
        obtain ⟨u1, hu1, hl1⟩ := hc1 k hlt
        obtain ⟨u2, hu2, hl2⟩ := hc2 k hly
        have x0 := (hb.cell (p := ⟨b1, o1 + k, none⟩) hz1).trans hu1
        have y0 := (hb.cell (p := ⟨b2, o2 + k, none⟩) hz2).trans hu2
        have s1 := Nat.lt_of_lt_of_le hz1 hb.size
        have s2 := Nat.lt_of_lt_of_le hz2 hb.size
        have hmk := HMI.out _ (List.getElem_mem hlt)
        have HL1 := Lib.hid (hl1.kept (TK.of_below hb.drew))
        have HL2 := Lib.hid (hl2.kept (TK.of_below hb.drew))
        have HL3 := Lib.hid (hl1.kept (TK.of_below hb))
        have HL4 := Lib.hid (hl2.kept (TK.of_below hb))
        have HT := Lib.hid ht
        have HB := Lib.hid hb
        have HBD := Lib.hid hb.drew
        have HTS := Lib.hid (fun e => take_eq_succ hlt hly ht e)
        have HNE := Lib.hid (fun e => decide_eq_false (not_eq_at hlt hly e))
        clear hc1 hc2 hu1 hu2 hl1 hl2 ht hb
        obtain ⟨q, hq⟩ : ∃ q, q = decide (xs[k] = ys[k]) := ⟨_, rfl⟩
        have HQ := Lib.hid hq
        clear hq
        go_wp2_with fail
        refine wp_region_still_tail 8 (by kernel_rfl) (by kernel_rfl) ?_
        simp only [List.take_succ_cons, List.take_zero, List.drop_succ_cons, List.drop_zero]
        iterate 8 still_step
        refine wpStill_nil ?_
        change wpList _ _ _ _ _ (World.drew wr)
        clear x0 y0
        go_wp2_with fail
        refine (sameitems_any HL1.out HL2.out hmk q HQ.out).mono ?_
        rintro e w4 ⟨rfl, hb4⟩
        have HB4 := Lib.hid (HBD.out.trans (hb4.mono HBD.out.size))
        clear hb4
        cases q with
        | true =>
          have HS := Lib.hid (HTS.out (of_decide_eq_true HQ.out.symm))
          go_wp2_with fail
          exact ⟨⟨k + 1, hlt, rfl, HS.out, HB4.out⟩, by simp only [intOf]; omega⟩
        | false =>
          have HP := Lib.hid (show p = false from by rw [HPP.out]; exact HNE.out (of_decide_eq_false HQ.out.symm))
          go_wp2_with fail
          go_ret
          exact ⟨by rw [HP.out]; rfl, HB4.out⟩
      · obtain rfl : k = xs.length := by omega -- ARM samelegs_anyE
        have hki : ¬ ((xs.length : Int) < (xs.length : Int)) := by omega
        have HP := Lib.hid (show p = true from by
          rw [HPP.out]
          have h := ht
          rw [List.take_length, ← HL.out, List.take_length] at h
          exact decide_eq_true h)
        have HB := Lib.hid hb
        clear ht hb
        go_wp2_with fail
        go_ret
        exact ⟨by rw [HP.out]; rfl, HB.out⟩
set_option maxRecDepth 100000 in
set_option maxHeartbeats 8000000 in
theorem eqlegs_any {v1 v2 : Value} {xs ys : List (List ItD)} {w : World} (h1 : LegsAt w v1 xs) (h2 : LegsAt w v2 ys) (hm : xs.length ≤ 1000000) (hmi : ∀ is ∈ xs, is.length ≤ 1000000) (p : Bool) (hp : p = decide (xs = ys)) : Calls Try.prog 27 #[v1, v2, .func (.func 28) #[] #[]] w (EqP w p) := by
  obtain ⟨A1, c1, rfl⟩ := h1.shape'
  obtain ⟨A2, c2, rfl⟩ := h2.shape'
  have H1 := Lib.hid h1
  have H2 := Lib.hid h2
  have HMI := Lib.hid hmi
  clear h1 h2 hmi
  by_cases hl : ys.length = xs.length
  case neg =>
    have HP := Lib.hid (show p = false from by rw [hp]; exact decide_eq_false (fun e => hl (by rw [e])))
    have q1 : ((xs.length : Int) == (ys.length : Int)) = false := by simp; omega
    have q2 : decide ((xs.length : Int) = (ys.length : Int)) = false := decide_eq_false (by omega)
    have q3 : (xs.length == ys.length) = false := by simp; omega
    have q4 : decide (xs.length = ys.length) = false := decide_eq_false (by omega)
    have q5 : ((xs.length : Int) != (ys.length : Int)) = true := by simp; omega
    have q6 : ¬ xs.length = ys.length := by omega
    clear hp hl
    go_enter Try.func27, Try.ntmps27
    go_wp2_with fail
    go_ret
    exact ⟨by rw [HP.out]; rfl, Below.refl _ _⟩
  case pos =>
    rw [hl]
    have HPP := Lib.hid hp
    have HL := Lib.hid hl
    clear hp hl
    go_enter Try.func27, Try.ntmps27
    go_wp2_with fail
    go_loopw [17] (fun i wr => ∃ k : Nat, k ≤ xs.length ∧ i = .int .i64 k ∧ xs.take k = ys.take k ∧ Below w.heap.size w wr) (fun i _ => xs.length - (intOf i).toNat)
    case atStart => exact ⟨0, Nat.zero_le _, rfl, rfl, Below.refl _ _⟩
    case round =>
      obtain ⟨k, hk, rfl, ht, hb⟩ := hrel
      have hk0 : (0 : Int) ≤ (k : Int) := Int.natCast_nonneg _
      by_cases hlt : k < xs.length
      · have hly : k < ys.length := by rw [HL.out]; exact hlt -- ARM eqlegs_anyR
        have hki : (k : Int) < (xs.length : Int) := by omega
        have ek : IntKind.i64.wrap ((k : Int) + 1) = (k : Int) + 1 := by rw [IntKind.wrap_i64]; omega
        obtain ⟨b1, o1, e1, r1, hz1, hc1⟩ := legs_cells H1.out (by omega)
        obtain ⟨b2, o2, e2, r2, hz2, hc2⟩ := legs_cells H2.out (by omega)
        injection r1 with r1 _ r1'
        injection r2 with r2 _ r2'
        subst r1 r1' r2 r2'
        obtain ⟨u1, hu1, hl1⟩ := hc1 k hlt
        obtain ⟨u2, hu2, hl2⟩ := hc2 k hly
        have x0 := (hb.cell (p := ⟨b1, o1 + k, none⟩) hz1).trans hu1
        have y0 := (hb.cell (p := ⟨b2, o2 + k, none⟩) hz2).trans hu2
        have s1 := Nat.lt_of_lt_of_le hz1 hb.size
        have s2 := Nat.lt_of_lt_of_le hz2 hb.size
        have hmk := HMI.out _ (List.getElem_mem hlt)
        have HL1 := Lib.hid (hl1.kept (TK.of_below hb.drew))
        have HL2 := Lib.hid (hl2.kept (TK.of_below hb.drew))
        have HL3 := Lib.hid (hl1.kept (TK.of_below hb))
        have HL4 := Lib.hid (hl2.kept (TK.of_below hb))
        have HT := Lib.hid ht
        have HB := Lib.hid hb
        have HBD := Lib.hid hb.drew
        have HTS := Lib.hid (fun e => take_eq_succ hlt hly ht e)
        have HNE := Lib.hid (fun e => decide_eq_false (not_eq_at hlt hly e))
        clear hc1 hc2 hu1 hu2 hl1 hl2 ht hb
        obtain ⟨q, hq⟩ : ∃ q, q = decide (xs[k] = ys[k]) := ⟨_, rfl⟩
        have HQ := Lib.hid hq
        clear hq
        go_wp2_with fail
        refine (same1_any HL3.out HL4.out hmk q HQ.out).mono ?_
        rintro e w4 ⟨rfl, hb4⟩
        have HB4 := Lib.hid (HB.out.trans (hb4.mono HB.out.size))
        clear hb4
        cases q with
        | true =>
          have HS := Lib.hid (HTS.out (of_decide_eq_true HQ.out.symm))
          go_wp2_with fail
          exact ⟨⟨k + 1, hlt, rfl, HS.out, HB4.out⟩, by simp only [intOf]; omega⟩
        | false =>
          have HP := Lib.hid (show p = false from by rw [HPP.out]; exact HNE.out (of_decide_eq_false HQ.out.symm))
          go_wp2_with fail
          go_ret
          exact ⟨by rw [HP.out]; rfl, HB4.out⟩
      · obtain rfl : k = xs.length := by omega -- ARM eqlegs_anyE
        have hki : ¬ ((xs.length : Int) < (xs.length : Int)) := by omega
        have HP := Lib.hid (show p = true from by
          rw [HPP.out]
          have h := ht
          rw [List.take_length, ← HL.out, List.take_length] at h
          exact decide_eq_true h)
        have HB := Lib.hid hb
        clear ht hb
        go_wp2_with fail
        go_ret
        exact ⟨by rw [HP.out]; rfl, HB.out⟩
theorem LegsAt.below' {w w' : World} {v : Value} {ls : List (List ItD)} (h : LegsAt w v ls) (hb : Below w.heap.size w w') : LegsAt w' v ls := by
  obtain ⟨vs, h1, h2⟩ := h
  exact ⟨vs, h1.kept (TK.of_below hb), fun k u hu is his => (h2 k u hu is his).kept (TK.of_below hb)⟩
set_option maxRecDepth 100000 in
set_option maxHeartbeats 8000000 in
theorem samering_any {p1 l1 p2 l2 : Value} {r s : RingD} {w : World} (h1 : RingAt w p1 l1 r) (h2 : RingAt w p2 l2 s) (hm : r.ps.length ≤ 1000000) (hml : r.legs.length ≤ 1000000) (hmi : ∀ is ∈ r.legs, is.length ≤ 1000000) (p : Bool) (hp : p = decide (r = s)) : Calls Try.prog 16 #[.agg #[p1, l1], .agg #[p2, l2]] w (EqP w p) := by
  have HPP := Lib.hid hp
  have hb0 := (((Below.refl w.heap.size w).alloc (Nat.le_refl _) (.cells #[p1, l1] 32)).alloc (by simp) (.cells #[p2, l2] 32))
  have HB0 := Lib.hid hb0
  have HP1 := Lib.hid (h1.1.kept (TK.of_below hb0))
  have HP2 := Lib.hid (h2.1.kept (TK.of_below hb0))
  have HL := Lib.hid (And.intro h1.2 h2.2)
  have HMI := Lib.hid hmi
  clear h1 h2 hp hb0 hmi
  go_enter Try.func16, Try.ntmps16
  go_wp2_with fail
  obtain ⟨q, hq⟩ : ∃ q, q = decide (r.ps = s.ps) := ⟨_, rfl⟩
  have HQ := Lib.hid hq
  clear hq
  refine (ints_any HP1.out HP2.out hm q HQ.out).mono ?_
  rintro e w1 ⟨rfl, hb1⟩
  have hb2 := HB0.out.trans (hb1.mono HB0.out.size)
  have HB2 := Lib.hid hb2
  cases q with
  | false =>
    have HF := Lib.hid (show p = false from by rw [HPP.out]; exact decide_eq_false (fun e => of_decide_eq_false HQ.out.symm (by rw [e])))
    clear hb1 hb2
    go_wp2_with fail
    go_ret
    exact ⟨by rw [HF.out]; rfl, HB2.out⟩
  | true =>
    have hl1 := HL.out.1.below' hb2
    have hl2 := HL.out.2.below' hb2
    obtain ⟨q2, hq2⟩ : ∃ q, q = decide (r.legs = s.legs) := ⟨_, rfl⟩
    have HQ2 := Lib.hid hq2
    have HPE := Lib.hid (show p = q2 from by
      rw [HPP.out, hq2]
      have h1 : r.ps = s.ps := of_decide_eq_true HQ.out.symm
      apply decide_eq_decide.2
      constructor
      · rintro rfl
        rfl
      · intro h2
        cases r
        cases s
        simp only at h1 h2
        rw [h1, h2])
    have z1 : (w.heap.size : Nat) < w1.heap.size := Nat.lt_of_lt_of_le (by simp; omega) hb1.size
    have z2 : (w.heap.size + 1 : Nat) < w1.heap.size := Nat.lt_of_lt_of_le (by simp) hb1.size
    have c1 := (hb1.cell (p := ⟨w.heap.size, 1, none⟩) (by simp; omega)).trans (Blk.cell ((Blk.new w 32 #[p1, l1]).alloc (.cells #[p2, l2] 32)) 1)
    have c2 := (hb1.cell (p := ⟨w.heap.size + 1, 1, none⟩) (by simp)).trans (show ((w.alloc (.cells #[p1, l1] 32)).alloc (.cells #[p2, l2] 32)).cell? ⟨w.heap.size + 1, 1, none⟩ = some l2 from by
      have := Blk.cell (Blk.new (w.alloc (.cells #[p1, l1] 32)) 32 #[p2, l2]) 1
      simp only [World.size_alloc] at this
      exact this)
    have c1' : w1.cell? ⟨w.heap.size, 1, none⟩ = some l1 := c1
    have H := Lib.hid (samelegs_any hl1 hl2 hml HMI.out q2 hq2)
    clear hb1 hb2 hl1 hl2 hq2 c1
    go_wp2_with fail
    refine H.out.mono ?_
    rintro e w4 ⟨rfl, hb4⟩
    have HB4 := Lib.hid (HB2.out.trans (hb4.mono HB2.out.size))
    clear hb4
    go_wp2_with fail
    go_ret
    exact ⟨by rw [HPE.out]; rfl, HB4.out⟩
set_option maxRecDepth 100000 in
set_option maxHeartbeats 8000000 in
theorem same_any {p1 l1 p2 l2 : Value} {r s : RingD} {w : World} (h1 : RingAt w p1 l1 r) (h2 : RingAt w p2 l2 s) (hm : r.ps.length ≤ 1000000) (hml : r.legs.length ≤ 1000000) (hmi : ∀ is ∈ r.legs, is.length ≤ 1000000) (p : Bool) (hp : p = decide (r = s)) : Calls Try.prog 15 #[.agg #[p1, l1], .agg #[p2, l2]] w (EqP w p) := by
  have HPP := Lib.hid hp
  have hb0 := (((Below.refl w.heap.size w).alloc (Nat.le_refl _) (.cells #[p1, l1] 32)).alloc (by simp) (.cells #[p2, l2] 32))
  have HB0 := Lib.hid hb0
  have HP1 := Lib.hid (h1.1.kept (TK.of_below hb0))
  have HP2 := Lib.hid (h2.1.kept (TK.of_below hb0))
  have HL := Lib.hid (And.intro h1.2 h2.2)
  have HMI := Lib.hid hmi
  clear h1 h2 hp hb0 hmi
  go_enter Try.func15, Try.ntmps15
  go_wp2_with fail
  obtain ⟨q, hq⟩ : ∃ q, q = decide (r.ps = s.ps) := ⟨_, rfl⟩
  have HQ := Lib.hid hq
  clear hq
  refine (eqints_any HP1.out HP2.out hm q HQ.out).mono ?_
  rintro e w1 ⟨rfl, hb1⟩
  have hb2 := HB0.out.trans (hb1.mono HB0.out.size)
  have HB2 := Lib.hid hb2
  cases q with
  | false =>
    have HF := Lib.hid (show p = false from by rw [HPP.out]; exact decide_eq_false (fun e => of_decide_eq_false HQ.out.symm (by rw [e])))
    clear hb1 hb2
    go_wp2_with fail
    go_ret
    exact ⟨by rw [HF.out]; rfl, HB2.out⟩
  | true =>
    have hl1 := HL.out.1.below' hb2
    have hl2 := HL.out.2.below' hb2
    obtain ⟨q2, hq2⟩ : ∃ q, q = decide (r.legs = s.legs) := ⟨_, rfl⟩
    have HQ2 := Lib.hid hq2
    have HPE := Lib.hid (show p = q2 from by
      rw [HPP.out, hq2]
      have h1 : r.ps = s.ps := of_decide_eq_true HQ.out.symm
      apply decide_eq_decide.2
      constructor
      · rintro rfl
        rfl
      · intro h2
        cases r
        cases s
        simp only at h1 h2
        rw [h1, h2])
    have z1 : (w.heap.size : Nat) < w1.heap.size := Nat.lt_of_lt_of_le (by simp; omega) hb1.size
    have z2 : (w.heap.size + 1 : Nat) < w1.heap.size := Nat.lt_of_lt_of_le (by simp) hb1.size
    have c1 := (hb1.cell (p := ⟨w.heap.size, 1, none⟩) (by simp; omega)).trans (Blk.cell ((Blk.new w 32 #[p1, l1]).alloc (.cells #[p2, l2] 32)) 1)
    have c2 := (hb1.cell (p := ⟨w.heap.size + 1, 1, none⟩) (by simp)).trans (show ((w.alloc (.cells #[p1, l1] 32)).alloc (.cells #[p2, l2] 32)).cell? ⟨w.heap.size + 1, 1, none⟩ = some l2 from by
      have := Blk.cell (Blk.new (w.alloc (.cells #[p1, l1] 32)) 32 #[p2, l2]) 1
      simp only [World.size_alloc] at this
      exact this)
    have c1' : w1.cell? ⟨w.heap.size, 1, none⟩ = some l1 := c1
    have H := Lib.hid (eqlegs_any hl1 hl2 hml HMI.out q2 hq2)
    clear hb1 hb2 hl1 hl2 hq2 c1
    go_wp2_with fail
    refine H.out.mono ?_
    rintro e w4 ⟨rfl, hb4⟩
    have HB4 := Lib.hid (HB2.out.trans (hb4.mono HB2.out.size))
    clear hb4
    go_wp2_with fail
    go_ret
    exact ⟨by rw [HPE.out]; rfl, HB4.out⟩
end Go.Proofs.Ythoniedmeeahgaa
