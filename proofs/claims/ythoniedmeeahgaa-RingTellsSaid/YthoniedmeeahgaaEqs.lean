/-
  Equal numbers, equal items, by contract: the reference's and the library's.
-/
import Derived.Test.YthoniedmeeahgaaRingRd
namespace Go.Proofs.Ythoniedmeeahgaa
open Go.RowKit Go.Maps

def EqP (w : World) (p : Bool) (e : Ending) (w' : World) : Prop := e = .returned (.bool p) ∧ Below w.heap.size w w'
theorem take_eq_succ {α : Type} {xs ys : List α} {k : Nat} (h1 : k < xs.length) (h2 : k < ys.length) (h : xs.take k = ys.take k) (e : xs[k] = ys[k]) : xs.take (k + 1) = ys.take (k + 1) := by
  rw [List.take_succ_eq_append_getElem h1, List.take_succ_eq_append_getElem h2, h, e]
theorem not_eq_at {α : Type} {xs ys : List α} {k : Nat} (h1 : k < xs.length) (h2 : k < ys.length) (e : ¬ xs[k] = ys[k]) : ¬ xs = ys := by
  rintro rfl
  exact e rfl
set_option maxRecDepth 100000 in
set_option maxHeartbeats 8000000 in
theorem ints_any {v1 v2 : Value} {xs ys : List Int} {w : World} (h1 : PartsAt w v1 xs) (h2 : PartsAt w v2 ys) (hm : xs.length ≤ 1000000) (p : Bool) (hp : p = decide (xs = ys)) : Calls Try.prog 30 #[v1, v2] w (EqP w p) := by
  obtain ⟨A1, c1, rfl⟩ := RdT.shape h1
  obtain ⟨A2, c2, rfl⟩ := RdT.shape h2
  have H1 := Lib.hid h1
  have H2 := Lib.hid h2
  clear h1 h2
  by_cases hl : ys.length = xs.length
  case neg =>
    have HP := Lib.hid (show p = false from by rw [hp]; exact decide_eq_false (fun e => hl (by rw [e])))
    have q1 : ((xs.length : Int) == (ys.length : Int)) = false := by simp; omega
    have q2 : decide ((xs.length : Int) = (ys.length : Int)) = false := decide_eq_false (by omega)
    have q3 : (xs.length == ys.length) = false := by simp; omega
    have q4 : decide (xs.length = ys.length) = false := decide_eq_false (by omega)
    have q5 : ((xs.length : Int) != (ys.length : Int)) = true := by simp; omega
    have q6 : ¬ xs.length = ys.length := by omega
    clear hp hl
    go_enter Try.func30, Try.ntmps30
    go_wp2_with fail
    go_ret
    exact ⟨by rw [HP.out]; rfl, Below.refl _ _⟩
  case pos =>
    rw [hl]
    have HPP := Lib.hid hp
    have HL := Lib.hid hl
    clear hp hl
    go_enter Try.func30, Try.ntmps30
    go_wp2_with fail
    go_loopw [5] (fun i wr => ∃ k : Nat, k ≤ xs.length ∧ i = .int .i64 k ∧ xs.take k = ys.take k ∧ Below w.heap.size w wr) (fun i _ => xs.length - (intOf i).toNat)
    case atStart => exact ⟨0, Nat.zero_le _, rfl, rfl, Below.refl _ _⟩
    case round =>
      obtain ⟨k, hk, rfl, ht, hb⟩ := hrel
      have hk0 : (0 : Int) ≤ (k : Int) := Int.natCast_nonneg _
      by_cases hlt : k < xs.length
      · have hly : k < ys.length := by rw [HL.out]; exact hlt -- ARM ints_anyR
        have hki : (k : Int) < (xs.length : Int) := by omega
        have ek : IntKind.i64.wrap ((k : Int) + 1) = (k : Int) + 1 := by rw [IntKind.wrap_i64]; omega
        obtain ⟨b1, o1, e1, r1, _, hz1, _, hc1⟩ := rdT_int H1.out (by omega)
        obtain ⟨b2, o2, e2, r2, _, hz2, _, hc2⟩ := rdT_int H2.out (by omega)
        injection r1 with r1 _ r1'
        injection r2 with r2 _ r2'
        subst r1 r1' r2 r2'
        have x0 := (hb.cell (p := ⟨b1, o1 + k, none⟩) hz1).trans (hc1 k hlt)
        have y0 := (hb.cell (p := ⟨b2, o2 + k, none⟩) hz2).trans (hc2 k hly)
        have s1 := Nat.lt_of_lt_of_le hz1 hb.size
        have s2 := Nat.lt_of_lt_of_le hz2 hb.size
        clear hc1 hc2
        have HT := Lib.hid ht
        have HB := Lib.hid hb
        have HTS := Lib.hid (fun e => take_eq_succ hlt hly ht e)
        have HNE := Lib.hid (fun e => decide_eq_false (not_eq_at hlt hly e))
        obtain ⟨x, hx⟩ : ∃ x, x = xs[k] := ⟨_, rfl⟩
        obtain ⟨y, hy⟩ : ∃ y, y = ys[k] := ⟨_, rfl⟩
        rw [← hx] at x0
        rw [← hy] at y0
        have HX := Lib.hid hx
        have HY := Lib.hid hy
        clear hx hy ht hb
        by_cases m0 : x = y
        case neg =>
          have e0 : (x == y) = false := by simpa using m0
          have d0 : decide (x = y) = false := decide_eq_false m0
          have n0 : (x != y) = true := by simp [m0]
          have HP := Lib.hid (show p = false from by rw [HPP.out]; exact HNE.out (by rw [← HX.out, ← HY.out]; exact m0))
          clear m0
          go_wp2_with fail
          go_quiet (fail)
          go_wp2_with fail
          go_ret
          exact ⟨by rw [HP.out]; rfl, below_drewN HB.out _⟩
        case pos =>
          subst m0
          have HS := Lib.hid (HTS.out (by rw [← HX.out, ← HY.out]))
          go_wp2_with fail
          go_quiet (fail)
          go_wp2_with fail
          exact ⟨⟨k + 1, hlt, rfl, HS.out, below_drewN HB.out _⟩, by simp only [intOf]; omega⟩
      · obtain rfl : k = xs.length := by omega -- ARM ints_anyE
        have hki : ¬ ((xs.length : Int) < (xs.length : Int)) := by omega
        have HP := Lib.hid (show p = true from by
          rw [HPP.out]
          have h := ht
          rw [List.take_length, ← HL.out, List.take_length] at h
          exact decide_eq_true h)
        have HB := Lib.hid hb
        clear ht hb
        go_wp2_with fail
        go_ret
        exact ⟨by rw [HP.out]; rfl, HB.out⟩
set_option maxRecDepth 100000 in
set_option maxHeartbeats 8000000 in
theorem eqints_any {v1 v2 : Value} {xs ys : List Int} {w : World} (h1 : PartsAt w v1 xs) (h2 : PartsAt w v2 ys) (hm : xs.length ≤ 1000000) (p : Bool) (hp : p = decide (xs = ys)) : Calls Try.prog 26 #[v1, v2] w (EqP w p) := by
  obtain ⟨A1, c1, rfl⟩ := RdT.shape h1
  obtain ⟨A2, c2, rfl⟩ := RdT.shape h2
  have H1 := Lib.hid h1
  have H2 := Lib.hid h2
  clear h1 h2
  by_cases hl : ys.length = xs.length
  case neg =>
    have HP := Lib.hid (show p = false from by rw [hp]; exact decide_eq_false (fun e => hl (by rw [e])))
    have q1 : ((xs.length : Int) == (ys.length : Int)) = false := by simp; omega
    have q2 : decide ((xs.length : Int) = (ys.length : Int)) = false := decide_eq_false (by omega)
    have q3 : (xs.length == ys.length) = false := by simp; omega
    have q4 : decide (xs.length = ys.length) = false := decide_eq_false (by omega)
    have q5 : ((xs.length : Int) != (ys.length : Int)) = true := by simp; omega
    have q6 : ¬ xs.length = ys.length := by omega
    clear hp hl
    go_enter Try.func26, Try.ntmps26
    go_wp2_with fail
    go_ret
    exact ⟨by rw [HP.out]; rfl, Below.refl _ _⟩
  case pos =>
    rw [hl]
    have HPP := Lib.hid hp
    have HL := Lib.hid hl
    clear hp hl
    go_enter Try.func26, Try.ntmps26
    go_wp2_with fail
    go_loopw [13] (fun i wr => ∃ k : Nat, k ≤ xs.length ∧ i = .int .i64 k ∧ xs.take k = ys.take k ∧ Below w.heap.size w wr) (fun i _ => xs.length - (intOf i).toNat)
    case atStart => exact ⟨0, Nat.zero_le _, rfl, rfl, Below.refl _ _⟩
    case round =>
      obtain ⟨k, hk, rfl, ht, hb⟩ := hrel
      have hk0 : (0 : Int) ≤ (k : Int) := Int.natCast_nonneg _
      by_cases hlt : k < xs.length
      · have hly : k < ys.length := by rw [HL.out]; exact hlt -- ARM eqints_anyR
        have hki : (k : Int) < (xs.length : Int) := by omega
        have ek : IntKind.i64.wrap ((k : Int) + 1) = (k : Int) + 1 := by rw [IntKind.wrap_i64]; omega
        obtain ⟨b1, o1, e1, r1, _, hz1, _, hc1⟩ := rdT_int H1.out (by omega)
        obtain ⟨b2, o2, e2, r2, _, hz2, _, hc2⟩ := rdT_int H2.out (by omega)
        injection r1 with r1 _ r1'
        injection r2 with r2 _ r2'
        subst r1 r1' r2 r2'
        have x0 := (hb.cell (p := ⟨b1, o1 + k, none⟩) hz1).trans (hc1 k hlt)
        have y0 := (hb.cell (p := ⟨b2, o2 + k, none⟩) hz2).trans (hc2 k hly)
        have s1 := Nat.lt_of_lt_of_le hz1 hb.size
        have s2 := Nat.lt_of_lt_of_le hz2 hb.size
        clear hc1 hc2
        have HT := Lib.hid ht
        have HB := Lib.hid hb
        have HTS := Lib.hid (fun e => take_eq_succ hlt hly ht e)
        have HNE := Lib.hid (fun e => decide_eq_false (not_eq_at hlt hly e))
        obtain ⟨x, hx⟩ : ∃ x, x = xs[k] := ⟨_, rfl⟩
        obtain ⟨y, hy⟩ : ∃ y, y = ys[k] := ⟨_, rfl⟩
        rw [← hx] at x0
        rw [← hy] at y0
        have HX := Lib.hid hx
        have HY := Lib.hid hy
        clear hx hy ht hb
        by_cases m0 : x = y
        case neg =>
          have e0 : (x == y) = false := by simpa using m0
          have d0 : decide (x = y) = false := decide_eq_false m0
          have n0 : (x != y) = true := by simp [m0]
          have HP := Lib.hid (show p = false from by rw [HPP.out]; exact HNE.out (by rw [← HX.out, ← HY.out]; exact m0))
          clear m0
          go_wp2_with fail
          go_quiet (fail)
          go_wp2_with fail
          go_ret
          exact ⟨by rw [HP.out]; rfl, below_drewN HB.out _⟩
        case pos =>
          subst m0
          have HS := Lib.hid (HTS.out (by rw [← HX.out, ← HY.out]))
          go_wp2_with fail
          go_quiet (fail)
          go_wp2_with fail
          exact ⟨⟨k + 1, hlt, rfl, HS.out, below_drewN HB.out _⟩, by simp only [intOf]; omega⟩
      · obtain rfl : k = xs.length := by omega -- ARM eqints_anyE
        have hki : ¬ ((xs.length : Int) < (xs.length : Int)) := by omega
        have HP := Lib.hid (show p = true from by
          rw [HPP.out]
          have h := ht
          rw [List.take_length, ← HL.out, List.take_length] at h
          exact decide_eq_true h)
        have HB := Lib.hid hb
        clear ht hb
        go_wp2_with fail
        go_ret
        exact ⟨by rw [HP.out]; rfl, HB.out⟩
set_option maxRecDepth 100000 in
set_option maxHeartbeats 8000000 in
theorem sameitems_any {v1 v2 : Value} {xs ys : List ItD} {w : World} (h1 : LegAt w v1 xs) (h2 : LegAt w v2 ys) (hm : xs.length ≤ 1000000) (p : Bool) (hp : p = decide (xs = ys)) : Calls Try.prog 39 #[v1, v2] w (EqP w p) := by
  obtain ⟨A1, c1, rfl⟩ := leg_shape h1
  obtain ⟨A2, c2, rfl⟩ := leg_shape h2
  have H1 := Lib.hid h1
  have H2 := Lib.hid h2
  clear h1 h2
  by_cases hl : ys.length = xs.length
  case neg =>
    have HP := Lib.hid (show p = false from by rw [hp]; exact decide_eq_false (fun e => hl (by rw [e])))
    have q1 : ((xs.length : Int) == (ys.length : Int)) = false := by simp; omega
    have q2 : decide ((xs.length : Int) = (ys.length : Int)) = false := decide_eq_false (by omega)
    have q3 : (xs.length == ys.length) = false := by simp; omega
    have q4 : decide (xs.length = ys.length) = false := decide_eq_false (by omega)
    have q5 : ((xs.length : Int) != (ys.length : Int)) = true := by simp; omega
    have q6 : ¬ xs.length = ys.length := by omega
    clear hp hl
    go_enter Try.func39, Try.ntmps39
    go_wp2_with fail
    go_ret
    exact ⟨by rw [HP.out]; rfl, Below.refl _ _⟩
  case pos =>
    rw [hl]
    have HPP := Lib.hid hp
    have HL := Lib.hid hl
    clear hp hl
    go_enter Try.func39, Try.ntmps39
    go_wp2_with fail
    go_loopw [5] (fun i wr => ∃ k : Nat, k ≤ xs.length ∧ i = .int .i64 k ∧ xs.take k = ys.take k ∧ Below w.heap.size w wr) (fun i _ => xs.length - (intOf i).toNat)
    case atStart => exact ⟨0, Nat.zero_le _, rfl, rfl, Below.refl _ _⟩
    case round =>
      obtain ⟨k, hk, rfl, ht, hb⟩ := hrel
      have hk0 : (0 : Int) ≤ (k : Int) := Int.natCast_nonneg _
      by_cases hlt : k < xs.length
      · have hly : k < ys.length := by rw [HL.out]; exact hlt -- ARM sameitems_anyR
        have hki : (k : Int) < (xs.length : Int) := by omega
        have ek : IntKind.i64.wrap ((k : Int) + 1) = (k : Int) + 1 := by rw [IntKind.wrap_i64]; omega
        obtain ⟨b1, o1, e1, r1, hz1, hc1⟩ := leg_cells H1.out (by omega)
        obtain ⟨b2, o2, e2, r2, hz2, hc2⟩ := leg_cells H2.out (by omega)
        injection r1 with r1 _ r1'
        injection r2 with r2 _ r2'
        subst r1 r1' r2 r2'
        obtain ⟨p0, p1, p2⟩ := hc1 k hlt
        obtain ⟨q0, q1, q2⟩ := hc2 k hly
        have x0 := (hb.cell (p := ⟨b1, o1 + k * 3, none⟩) hz1).trans p0
        have x1 := (hb.cell (p := ⟨b1, o1 + k * 3 + 1, none⟩) hz1).trans p1
        have x2 := (hb.cell (p := ⟨b1, o1 + k * 3 + 2, none⟩) hz1).trans p2
        have y0 := (hb.cell (p := ⟨b2, o2 + k * 3, none⟩) hz2).trans q0
        have y1 := (hb.cell (p := ⟨b2, o2 + k * 3 + 1, none⟩) hz2).trans q1
        have y2 := (hb.cell (p := ⟨b2, o2 + k * 3 + 2, none⟩) hz2).trans q2
        have s1 := Nat.lt_of_lt_of_le hz1 hb.size
        have s2 := Nat.lt_of_lt_of_le hz2 hb.size
        clear hc1 hc2 p0 p1 p2 q0 q1 q2
        have HT := Lib.hid ht
        have HB := Lib.hid hb
        have HTS := Lib.hid (fun e => take_eq_succ hlt hly ht e)
        have HNE := Lib.hid (fun e => decide_eq_false (not_eq_at hlt hly e))
        obtain ⟨x, hx⟩ : ∃ x, x = xs[k] := ⟨_, rfl⟩
        obtain ⟨y, hy⟩ : ∃ y, y = ys[k] := ⟨_, rfl⟩
        rw [← hx] at x0 x1 x2
        rw [← hy] at y0 y1 y2
        obtain ⟨xl, xa, xn⟩ := x
        obtain ⟨yl, ya, yn⟩ := y
        simp only at x0 x1 x2 y0 y1 y2
        have HX := Lib.hid hx
        have HY := Lib.hid hy
        clear hx hy ht hb
        by_cases m0 : xl = yl
        case neg =>
          have e0 : (xl == yl) = false := by simpa using m0
          have d0 : decide (xl = yl) = false := decide_eq_false m0
          have n0 : (xl != yl) = true := by simp [m0]
          have HP := Lib.hid (show p = false from by rw [HPP.out]; exact HNE.out (by rw [← HX.out, ← HY.out]; exact fun h => m0 (by injection h)))
          clear m0
          go_wp2_with fail
          go_quiet (fail)
          go_wp2_with fail
          go_ret
          exact ⟨by rw [HP.out]; rfl, below_drewN HB.out _⟩
        by_cases m1 : xa = ya
        case neg =>
          have e0 : (xl == yl) = true := by simpa using m0
          have d0 : decide (xl = yl) = true := decide_eq_true m0
          have n0 : (xl != yl) = false := by simp [m0]
          have e1 : (xa == ya) = false := by simpa using m1
          have d1 : decide (xa = ya) = false := decide_eq_false m1
          have n1 : (xa != ya) = true := by simp [m1]
          have HP := Lib.hid (show p = false from by rw [HPP.out]; exact HNE.out (by rw [← HX.out, ← HY.out]; exact fun h => m1 (by injection h)))
          clear m0 m1
          go_wp2_with fail
          go_quiet (fail)
          go_wp2_with fail
          go_ret
          exact ⟨by rw [HP.out]; rfl, below_drewN HB.out _⟩
        by_cases m2 : xn = yn
        case neg =>
          have e0 : (xl == yl) = true := by simpa using m0
          have d0 : decide (xl = yl) = true := decide_eq_true m0
          have n0 : (xl != yl) = false := by simp [m0]
          have e1 : (xa == ya) = true := by simpa using m1
          have d1 : decide (xa = ya) = true := decide_eq_true m1
          have n1 : (xa != ya) = false := by simp [m1]
          have e2 : (xn == yn) = false := by simpa using m2
          have d2 : decide (xn = yn) = false := decide_eq_false m2
          have n2 : (xn != yn) = true := by simp [m2]
          have HP := Lib.hid (show p = false from by rw [HPP.out]; exact HNE.out (by rw [← HX.out, ← HY.out]; exact fun h => m2 (by injection h)))
          clear m0 m1 m2
          go_wp2_with fail
          go_quiet (fail)
          go_wp2_with fail
          go_ret
          exact ⟨by rw [HP.out]; rfl, below_drewN HB.out _⟩
        subst m0 m1 m2
        have HS := Lib.hid (HTS.out (by rw [← HX.out, ← HY.out]))
        go_wp2_with fail
        go_quiet (fail)
        go_wp2_with fail
        exact ⟨⟨k + 1, hlt, rfl, HS.out, below_drewN HB.out _⟩, by simp only [intOf]; omega⟩
      · obtain rfl : k = xs.length := by omega -- ARM sameitems_anyE
        have hki : ¬ ((xs.length : Int) < (xs.length : Int)) := by omega
        have HP := Lib.hid (show p = true from by
          rw [HPP.out]
          have h := ht
          rw [List.take_length, ← HL.out, List.take_length] at h
          exact decide_eq_true h)
        have HB := Lib.hid hb
        clear ht hb
        go_wp2_with fail
        go_ret
        exact ⟨by rw [HP.out]; rfl, HB.out⟩
set_option maxRecDepth 100000 in
set_option maxHeartbeats 8000000 in
theorem eqitems_any {v1 v2 : Value} {xs ys : List ItD} {w : World} (h1 : LegAt w v1 xs) (h2 : LegAt w v2 ys) (hm : xs.length ≤ 1000000) (p : Bool) (hp : p = decide (xs = ys)) : Calls Try.prog 29 #[v1, v2] w (EqP w p) := by
  obtain ⟨A1, c1, rfl⟩ := leg_shape h1
  obtain ⟨A2, c2, rfl⟩ := leg_shape h2
  have H1 := Lib.hid h1
  have H2 := Lib.hid h2
  clear h1 h2
  by_cases hl : ys.length = xs.length
  case neg =>
    have HP := Lib.hid (show p = false from by rw [hp]; exact decide_eq_false (fun e => hl (by rw [e])))
    have q1 : ((xs.length : Int) == (ys.length : Int)) = false := by simp; omega
    have q2 : decide ((xs.length : Int) = (ys.length : Int)) = false := decide_eq_false (by omega)
    have q3 : (xs.length == ys.length) = false := by simp; omega
    have q4 : decide (xs.length = ys.length) = false := decide_eq_false (by omega)
    have q5 : ((xs.length : Int) != (ys.length : Int)) = true := by simp; omega
    have q6 : ¬ xs.length = ys.length := by omega
    clear hp hl
    go_enter Try.func29, Try.ntmps29
    go_wp2_with fail
    go_ret
    exact ⟨by rw [HP.out]; rfl, Below.refl _ _⟩
  case pos =>
    rw [hl]
    have HPP := Lib.hid hp
    have HL := Lib.hid hl
    clear hp hl
    go_enter Try.func29, Try.ntmps29
    go_wp2_with fail
    go_loopw [13] (fun i wr => ∃ k : Nat, k ≤ xs.length ∧ i = .int .i64 k ∧ xs.take k = ys.take k ∧ Below w.heap.size w wr) (fun i _ => xs.length - (intOf i).toNat)
    case atStart => exact ⟨0, Nat.zero_le _, rfl, rfl, Below.refl _ _⟩
    case round =>
      obtain ⟨k, hk, rfl, ht, hb⟩ := hrel
      have hk0 : (0 : Int) ≤ (k : Int) := Int.natCast_nonneg _
      by_cases hlt : k < xs.length
      · have hly : k < ys.length := by rw [HL.out]; exact hlt -- ARM eqitems_anyR
        have hki : (k : Int) < (xs.length : Int) := by omega
        have ek : IntKind.i64.wrap ((k : Int) + 1) = (k : Int) + 1 := by rw [IntKind.wrap_i64]; omega
        obtain ⟨b1, o1, e1, r1, hz1, hc1⟩ := leg_cells H1.out (by omega)
        obtain ⟨b2, o2, e2, r2, hz2, hc2⟩ := leg_cells H2.out (by omega)
        injection r1 with r1 _ r1'
        injection r2 with r2 _ r2'
        subst r1 r1' r2 r2'
        obtain ⟨p0, p1, p2⟩ := hc1 k hlt
        obtain ⟨q0, q1, q2⟩ := hc2 k hly
        have x0 := (hb.cell (p := ⟨b1, o1 + k * 3, none⟩) hz1).trans p0
        have x1 := (hb.cell (p := ⟨b1, o1 + k * 3 + 1, none⟩) hz1).trans p1
        have x2 := (hb.cell (p := ⟨b1, o1 + k * 3 + 2, none⟩) hz1).trans p2
        have y0 := (hb.cell (p := ⟨b2, o2 + k * 3, none⟩) hz2).trans q0
        have y1 := (hb.cell (p := ⟨b2, o2 + k * 3 + 1, none⟩) hz2).trans q1
        have y2 := (hb.cell (p := ⟨b2, o2 + k * 3 + 2, none⟩) hz2).trans q2
        have s1 := Nat.lt_of_lt_of_le hz1 hb.size
        have s2 := Nat.lt_of_lt_of_le hz2 hb.size
        clear hc1 hc2 p0 p1 p2 q0 q1 q2
        have HT := Lib.hid ht
        have HB := Lib.hid hb
        have HTS := Lib.hid (fun e => take_eq_succ hlt hly ht e)
        have HNE := Lib.hid (fun e => decide_eq_false (not_eq_at hlt hly e))
        obtain ⟨x, hx⟩ : ∃ x, x = xs[k] := ⟨_, rfl⟩
        obtain ⟨y, hy⟩ : ∃ y, y = ys[k] := ⟨_, rfl⟩
        rw [← hx] at x0 x1 x2
        rw [← hy] at y0 y1 y2
        obtain ⟨xl, xa, xn⟩ := x
        obtain ⟨yl, ya, yn⟩ := y
        simp only at x0 x1 x2 y0 y1 y2
        have HX := Lib.hid hx
        have HY := Lib.hid hy
        clear hx hy ht hb
        by_cases m0 : xl = yl
        case neg =>
          have e0 : (xl == yl) = false := by simpa using m0
          have d0 : decide (xl = yl) = false := decide_eq_false m0
          have n0 : (xl != yl) = true := by simp [m0]
          have HP := Lib.hid (show p = false from by rw [HPP.out]; exact HNE.out (by rw [← HX.out, ← HY.out]; exact fun h => m0 (by injection h)))
          clear m0
          go_wp2_with fail
          go_quiet (fail)
          go_wp2_with fail
          go_ret
          exact ⟨by rw [HP.out]; rfl, below_drewN HB.out _⟩
        by_cases m1 : xa = ya
        case neg =>
          have e0 : (xl == yl) = true := by simpa using m0
          have d0 : decide (xl = yl) = true := decide_eq_true m0
          have n0 : (xl != yl) = false := by simp [m0]
          have e1 : (xa == ya) = false := by simpa using m1
          have d1 : decide (xa = ya) = false := decide_eq_false m1
          have n1 : (xa != ya) = true := by simp [m1]
          have HP := Lib.hid (show p = false from by rw [HPP.out]; exact HNE.out (by rw [← HX.out, ← HY.out]; exact fun h => m1 (by injection h)))
          clear m0 m1
          go_wp2_with fail
          go_quiet (fail)
          go_wp2_with fail
          go_ret
          exact ⟨by rw [HP.out]; rfl, below_drewN HB.out _⟩
        by_cases m2 : xn = yn
        case neg =>
          have e0 : (xl == yl) = true := by simpa using m0
          have d0 : decide (xl = yl) = true := decide_eq_true m0
          have n0 : (xl != yl) = false := by simp [m0]
          have e1 : (xa == ya) = true := by simpa using m1
          have d1 : decide (xa = ya) = true := decide_eq_true m1
          have n1 : (xa != ya) = false := by simp [m1]
          have e2 : (xn == yn) = false := by simpa using m2
          have d2 : decide (xn = yn) = false := decide_eq_false m2
          have n2 : (xn != yn) = true := by simp [m2]
          have HP := Lib.hid (show p = false from by rw [HPP.out]; exact HNE.out (by rw [← HX.out, ← HY.out]; exact fun h => m2 (by injection h)))
          clear m0 m1 m2
          go_wp2_with fail
          go_quiet (fail)
          go_wp2_with fail
          go_ret
          exact ⟨by rw [HP.out]; rfl, below_drewN HB.out _⟩
        subst m0 m1 m2
        have HS := Lib.hid (HTS.out (by rw [← HX.out, ← HY.out]))
        go_wp2_with fail
        go_quiet (fail)
        go_wp2_with fail
        exact ⟨⟨k + 1, hlt, rfl, HS.out, below_drewN HB.out _⟩, by simp only [intOf]; omega⟩
      · obtain rfl : k = xs.length := by omega -- ARM eqitems_anyE
        have hki : ¬ ((xs.length : Int) < (xs.length : Int)) := by omega
        have HP := Lib.hid (show p = true from by
          rw [HPP.out]
          have h := ht
          rw [List.take_length, ← HL.out, List.take_length] at h
          exact decide_eq_true h)
        have HB := Lib.hid hb
        clear ht hb
        go_wp2_with fail
        go_ret
        exact ⟨by rw [HP.out]; rfl, HB.out⟩
end Go.Proofs.Ythoniedmeeahgaa
