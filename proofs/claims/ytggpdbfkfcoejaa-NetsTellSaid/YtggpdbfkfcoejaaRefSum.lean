/-
  The reference's Sum and Gross by contract: the same sums.
-/
import Derived.Test.YtggpdbfkfcoejaaGrossN
namespace Go.Proofs.Ytggpdbfkfcoejaa
open Go.RowKit

theorem wrap_sub' (a b : Int) : IntKind.i64.wrap (IntKind.i64.wrap a - b) = IntKind.i64.wrap (a - b) := by
  rw [IntKind.wrap_i64, IntKind.wrap_i64, IntKind.wrap_i64]
  omega
set_option maxRecDepth 100000 in
set_option maxHeartbeats 4000000 in
theorem refsum_any (xs : List NetD) (A : Option Addr) (c : Nat) (p l a : Int) (w : World) (ha : Reads w w.heap.size 5 A xs.length (nCells xs)) (hmax : xs.length ≤ 9223372036854775807) (hne : ∀ x ∈ xs, x.f ≠ x.t) :
    Calls Try.prog 16 #[.slice A xs.length c, .int .i64 p, .int .i64 l, .int .i64 a] w fun e w' => e = .returned (.int .i64 (IntKind.i64.wrap (sumI xs p l a))) ∧ Below w.heap.size w w' := by
  have HA := Lib.hid (reads_form5 ha rfl)
  have HM := Lib.hid hne
  clear ha hne
  go_enter Try.func16, Try.ntmps16
  go_wp2_with fail
  go_loopw [9, 10] (fun s i wr => SumRel w xs p l a s i wr) (fun _ i _ => xs.length - (intOf i).toNat)
  case atStart => exact ⟨0, Nat.zero_le _, rfl, by show Value.int .i64 0 = .int .i64 (IntKind.i64.wrap 0); rw [wrap_zero], Below.refl _ _⟩
  case round =>
    obtain ⟨k, hk, rfl, rfl, hb⟩ := hrel
    have HB := Lib.hid hb
    clear hb
    by_cases hlt : k < xs.length
    · obtain ⟨b, o, rfl, hbo, hc⟩ := HA.out (by omega)
      have hz := Nat.lt_of_lt_of_le hbo HB.out.size
      have a0 := (HB.out.cell (p := ⟨b, o + k * 5, none⟩) hbo).trans (hc k hlt 0 _ (by omega) rfl)
      have a1 := (HB.out.cell (p := ⟨b, o + k * 5 + 1, none⟩) hbo).trans (hc k hlt 1 _ (by omega) rfl)
      have a2 := (HB.out.cell (p := ⟨b, o + k * 5 + 2, none⟩) hbo).trans (hc k hlt 2 _ (by omega) rfl)
      have a3 := (HB.out.cell (p := ⟨b, o + k * 5 + 3, none⟩) hbo).trans (hc k hlt 3 _ (by omega) rfl)
      have a4 := (HB.out.cell (p := ⟨b, o + k * 5 + 4, none⟩) hbo).trans (hc k hlt 4 _ (by omega) rfl)
      have hx := HM.out xs[k] (List.getElem_mem hlt)
      have htk : sumI (xs.take (k + 1)) p l a = sumI (xs.take k) p l a + getsI xs[k] p l a := by
        rw [List.take_succ_eq_append_getElem hlt, sumI_snoc]
      clear hc
      generalize xs[k] = x at a0 a1 a2 a3 a4 hx htk
      have hki : (k : Int) < (xs.length : Int) := by omega
      have hk0 : (0 : Int) ≤ (k : Int) := Int.natCast_nonneg _
      obtain ⟨S, hS⟩ : ∃ S, S = sumI (xs.take k) p l a := ⟨_, rfl⟩
      rw [← hS] at htk ⊢
      have hwa := wrap_add S
      have hws := wrap_sub' S
      obtain ⟨g, hg⟩ : ∃ g, g = IntKind.i64.wrap S := ⟨_, rfl⟩
      rw [← hg] at hwa hws ⊢
      have HW := Lib.hid hwa
      have HS' := Lib.hid hws
      have HG := Lib.hid hg
      have HST := Lib.hid htk
      have HX := Lib.hid hx
      clear hS hg hwa hws htk hx
      rcases (show x.l ≠ l ∨ (x.l = l ∧ x.a ≠ a) ∨ (x.l = l ∧ x.a = a ∧ x.t = p) ∨ (x.l = l ∧ x.a = a ∧ x.t ≠ p ∧ x.f = p) ∨ (x.l = l ∧ x.a = a ∧ x.t ≠ p ∧ x.f ≠ p) by omega) with m1 | ⟨m1, m2⟩ | ⟨m1, m2, m3⟩ | ⟨m1, m2, m3, m4⟩ | ⟨m1, m2, m3, m4⟩
      · have q1 : (x.l != l) = true := by simp [m1]
        have hval : sumI (xs.take (k + 1)) p l a = S := by
          have := HST.out
          unfold getsI at this
          rw [if_neg (fun h => m1 h.1)] at this
          omega
        have HV := Lib.hid hval
        clear m1 hval
        go_wp2_with fail
        go_roundw
        case rel => exact ⟨k + 1, by omega, by go_num, by rw [HV.out, ← HG.out], HB.out⟩
        case measure => simp [intOf]; omega
      · have q1 : (x.l != l) = false := by simp [m1]
        have q2 : (x.a != a) = true := by simp [m2]
        have hval : sumI (xs.take (k + 1)) p l a = S := by
          have := HST.out
          unfold getsI at this
          rw [if_neg (fun h => m2 h.2)] at this
          omega
        have HV := Lib.hid hval
        clear m1 m2 hval
        go_wp2_with fail
        go_roundw
        case rel => exact ⟨k + 1, by omega, by go_num, by rw [HV.out, ← HG.out], HB.out⟩
        case measure => simp [intOf]; omega
      · have q1 : (x.l != l) = false := by simp [m1]
        have q2 : (x.a != a) = false := by simp [m2]
        have q3 : (x.t == p) = true := by simp [m3]
        have q4 : (x.f == p) = false := by rw [beq_eq_false_iff_ne]; intro e; exact HX.out (e.trans m3.symm)
        have hval : sumI (xs.take (k + 1)) p l a = S + x.n := by
          have := HST.out
          unfold getsI at this
          rw [if_pos ⟨m1, m2⟩, if_pos m3, if_neg (fun e => HX.out (e.trans m3.symm))] at this
          omega
        have HV := Lib.hid hval
        have hw := HW.out x.n
        obtain ⟨g2, hg2⟩ : ∃ g2, g2 = IntKind.i64.wrap (S + x.n) := ⟨_, rfl⟩
        rw [← hg2] at hw
        have HG2 := Lib.hid hg2
        clear hg2
        clear m1 m2 m3 hval
        go_wp2_with fail
        go_roundw
        case rel => exact ⟨k + 1, by omega, by go_num, by rw [HV.out, ← HG2.out], HB.out⟩
        case measure => simp [intOf]; omega
      · have q1 : (x.l != l) = false := by simp [m1]
        have q2 : (x.a != a) = false := by simp [m2]
        have q3 : (x.t == p) = false := by simp [m3]
        have q4 : (x.f == p) = true := by simp [m4]
        have hval : sumI (xs.take (k + 1)) p l a = S - x.n := by
          have := HST.out
          unfold getsI at this
          rw [if_pos ⟨m1, m2⟩, if_neg m3, if_pos m4] at this
          omega
        have HV := Lib.hid hval
        have hw := HS'.out x.n
        obtain ⟨g2, hg2⟩ : ∃ g2, g2 = IntKind.i64.wrap (S - x.n) := ⟨_, rfl⟩
        rw [← hg2] at hw
        have HG2 := Lib.hid hg2
        clear hg2
        clear m1 m2 m3 m4 hval
        go_wp2_with fail
        go_roundw
        case rel => exact ⟨k + 1, by omega, by go_num, by rw [HV.out, ← HG2.out], HB.out⟩
        case measure => simp [intOf]; omega
      · have q1 : (x.l != l) = false := by simp [m1]
        have q2 : (x.a != a) = false := by simp [m2]
        have q3 : (x.t == p) = false := by simp [m3]
        have q4 : (x.f == p) = false := by simp [m4]
        have hval : sumI (xs.take (k + 1)) p l a = S := by
          have := HST.out
          unfold getsI at this
          rw [if_pos ⟨m1, m2⟩, if_neg m3, if_neg m4] at this
          omega
        have HV := Lib.hid hval
        clear m1 m2 m3 m4 hval
        go_wp2_with fail
        go_roundw
        case rel => exact ⟨k + 1, by omega, by go_num, by rw [HV.out, ← HG.out], HB.out⟩
        case measure => simp [intOf]; omega
    · obtain rfl : k = xs.length := by omega
      have e : sumI (xs.take xs.length) p l a = sumI xs p l a := by rw [List.take_length]
      rw [e]
      clear e
      go_wp2_with fail
      go_ret
      exact ⟨rfl, HB.out⟩

/-- One more trade's share, as the reference reckons it. -/
def shareR (x : TrD) (p l a : Int) : Int := if l = 0 then (if x.c = a then (if x.s = p then x.p else 0) - (if x.b = p then x.p else 0) else 0) else if l = 1 then (if x.a = a then (if x.b = p then x.q else 0) - (if x.s = p then x.q else 0) else 0) else 0
theorem shareR_eq (x : TrD) (p l a : Int) : sumI (mvN x) p l a = shareR x p l a := by
  unfold mvN sumI shareR getsI
  simp only [List.map_cons, List.map_nil, List.sum_cons, List.sum_nil]
  by_cases h0 : l = 0
  · subst h0
    simp
  · by_cases h1 : l = 1
    · subst h1
      simp
    · simp [h0, h1, Ne.symm h0, Ne.symm h1]
theorem sumR_take (ts : List TrD) (k : Nat) (h : k < ts.length) (p l a : Int) : sumI (mvsN (ts.take (k + 1))) p l a = sumI (mvsN (ts.take k)) p l a + shareR ts[k] p l a := by
  rw [mvsN_take ts k h, sumI_append, shareR_eq]
set_option maxRecDepth 100000 in
set_option maxHeartbeats 8000000 in
theorem refgross_any (t : TrsD) (p l a : Int) (w : World) (ht : t.ok w) (hbs : ∀ x ∈ t.ts, x.b ≠ x.s) :
    Calls Try.prog 14 #[.slice t.A t.n t.c, .int .i64 p, .int .i64 l, .int .i64 a] w fun e w' => e = .returned (.int .i64 (IntKind.i64.wrap (sumI (mvsN t.ts) p l a))) ∧ Below w.heap.size w w' := by
  have hform := ht.form
  obtain ⟨A, n, c, ts⟩ := t
  obtain ⟨hl, hmax, hread, hwf⟩ := ht
  simp only at hl hmax hform hwf hbs ⊢
  obtain rfl := hl
  unfold maxLen at hmax
  have Hf := Lib.hid hform
  have HA := Lib.hid hbs
  clear hform hread hwf hbs
  go_enter Try.func14, Try.ntmps14
  go_wp2_with fail
  go_loopw [9, 10] (fun s i wr => GrRel w ts p l a s i wr) (fun _ i _ => ts.length - (intOf i).toNat)
  case atStart => exact ⟨0, Nat.zero_le _, rfl, by show Value.int .i64 0 = .int .i64 (IntKind.i64.wrap 0); rw [wrap_zero], Below.refl _ _⟩
  case round =>
    obtain ⟨k, hk, rfl, rfl, hb⟩ := hrel
    have HB := Lib.hid hb
    clear hb
    by_cases hlt : k < ts.length
    · obtain ⟨b, o, rfl, hbo, hcell⟩ := Hf.out (by omega)
      have hsz := Nat.lt_of_lt_of_le hbo HB.out.size
      have hc0 := (HB.out.cell (p := ⟨b, o + k * 7, none⟩) hbo).trans (hcell k hlt 0 _ rfl)
      have hc1 := (HB.out.cell (p := ⟨b, o + k * 7 + 1, none⟩) hbo).trans (hcell k hlt 1 _ rfl)
      have hc2 := (HB.out.cell (p := ⟨b, o + k * 7 + 2, none⟩) hbo).trans (hcell k hlt 2 _ rfl)
      have hc3 := (HB.out.cell (p := ⟨b, o + k * 7 + 3, none⟩) hbo).trans (hcell k hlt 3 _ rfl)
      have hc4 := (HB.out.cell (p := ⟨b, o + k * 7 + 4, none⟩) hbo).trans (hcell k hlt 4 _ rfl)
      have hc5 := (HB.out.cell (p := ⟨b, o + k * 7 + 5, none⟩) hbo).trans (hcell k hlt 5 _ rfl)
      have hc6 := (HB.out.cell (p := ⟨b, o + k * 7 + 6, none⟩) hbo).trans (hcell k hlt 6 _ rfl)
      have hx := HA.out ts[k] (List.getElem_mem hlt)
      have htk := sumR_take ts k hlt p l a
      clear hcell
      generalize ts[k] = x at hc0 hc1 hc2 hc3 hc4 hc5 hc6 hx htk
      have hki : (k : Int) < (ts.length : Int) := by omega
      have hk0 : (0 : Int) ≤ (k : Int) := Int.natCast_nonneg _
      obtain ⟨S, hS⟩ : ∃ S, S = sumI (mvsN (ts.take k)) p l a := ⟨_, rfl⟩
      rw [← hS] at htk ⊢
      have hwa := wrap_add S
      have hws := wrap_sub' S
      obtain ⟨g, hg⟩ : ∃ g, g = IntKind.i64.wrap S := ⟨_, rfl⟩
      rw [← hg] at hwa hws ⊢
      have HW := Lib.hid hwa
      have HS' := Lib.hid hws
      have HG := Lib.hid hg
      have HST := Lib.hid htk
      have HX := Lib.hid hx
      clear hS hg hwa hws htk hx
      rcases (show (l ≠ 0 ∧ l ≠ 1) ∨ l = 0 ∨ l = 1 by omega) with ⟨m1, m2⟩ | rfl | rfl
      · have q1 : (l == 0) = false := by rw [beq_eq_false_iff_ne]; exact m1
        have q2 : (l == 1) = false := by rw [beq_eq_false_iff_ne]; exact m2
        have hval : sumI (mvsN (ts.take (k + 1))) p l a = S := by
          have := HST.out
          unfold shareR at this
          rw [if_neg m1, if_neg m2] at this
          omega
        have HV := Lib.hid hval
        clear m1 m2 hval
        go_wp2_with fail
        go_roundw
        case rel => exact ⟨k + 1, by omega, by go_num, by rw [HV.out, ← HG.out], HB.out.alloc HB.out.size _⟩
        case measure => simp [intOf]; omega
      · rcases (show x.c ≠ a ∨ (x.c = a ∧ x.s = p) ∨ (x.c = a ∧ x.s ≠ p ∧ x.b = p) ∨ (x.c = a ∧ x.s ≠ p ∧ x.b ≠ p) by omega) with m1 | ⟨m1, m2⟩ | ⟨m1, m2, m3⟩ | ⟨m1, m2, m3⟩
        · have q1 : (x.c == a) = false := by simp [m1]
          have hval : sumI (mvsN (ts.take (k + 1))) p 0 a = S := by
            have := HST.out
            unfold shareR at this
            rw [if_pos rfl] at this
            rw [if_neg m1] at this
            omega
          have HV := Lib.hid hval
          clear m1 hval
          go_wp2_with fail
          go_roundw
          case rel => exact ⟨k + 1, by omega, by go_num, by rw [HV.out, ← HG.out], HB.out.alloc HB.out.size _⟩
          case measure => simp [intOf]; omega
        · have q1 : (x.c == a) = true := by simp [m1]
          have q2 : (x.s == p) = true := by simp [m2]
          have q3 : (x.b == p) = false := by rw [beq_eq_false_iff_ne]; intro e; exact HX.out (by omega)
          have hval : sumI (mvsN (ts.take (k + 1))) p 0 a = S + x.p := by
            have := HST.out
            unfold shareR at this
            rw [if_pos rfl] at this
            rw [if_pos m1, if_pos m2, if_neg (fun e => HX.out (by omega))] at this
            omega
          have HV := Lib.hid hval
          have hw := HW.out x.p
          obtain ⟨g2, hg2⟩ : ∃ g2, g2 = IntKind.i64.wrap (S + x.p) := ⟨_, rfl⟩
          rw [← hg2] at hw
          have HG2 := Lib.hid hg2
          clear hg2
          clear m1 m2 hval
          go_wp2_with fail
          go_roundw
          case rel => exact ⟨k + 1, by omega, by go_num, by rw [HV.out, ← HG2.out], HB.out.alloc HB.out.size _⟩
          case measure => simp [intOf]; omega
        · have q1 : (x.c == a) = true := by simp [m1]
          have q2 : (x.s == p) = false := by simp [m2]
          have q3 : (x.b == p) = true := by simp [m3]
          have hval : sumI (mvsN (ts.take (k + 1))) p 0 a = S - x.p := by
            have := HST.out
            unfold shareR at this
            rw [if_pos rfl] at this
            rw [if_pos m1, if_neg m2, if_pos m3] at this
            omega
          have HV := Lib.hid hval
          have hw := HS'.out x.p
          obtain ⟨g2, hg2⟩ : ∃ g2, g2 = IntKind.i64.wrap (S - x.p) := ⟨_, rfl⟩
          rw [← hg2] at hw
          have HG2 := Lib.hid hg2
          clear hg2
          clear m1 m2 m3 hval
          go_wp2_with fail
          go_roundw
          case rel => exact ⟨k + 1, by omega, by go_num, by rw [HV.out, ← HG2.out], HB.out.alloc HB.out.size _⟩
          case measure => simp [intOf]; omega
        · have q1 : (x.c == a) = true := by simp [m1]
          have q2 : (x.s == p) = false := by simp [m2]
          have q3 : (x.b == p) = false := by simp [m3]
          have hval : sumI (mvsN (ts.take (k + 1))) p 0 a = S := by
            have := HST.out
            unfold shareR at this
            rw [if_pos rfl] at this
            rw [if_pos m1, if_neg m2, if_neg m3] at this
            omega
          have HV := Lib.hid hval
          clear m1 m2 m3 hval
          go_wp2_with fail
          go_roundw
          case rel => exact ⟨k + 1, by omega, by go_num, by rw [HV.out, ← HG.out], HB.out.alloc HB.out.size _⟩
          case measure => simp [intOf]; omega
      · rcases (show x.a ≠ a ∨ (x.a = a ∧ x.b = p) ∨ (x.a = a ∧ x.b ≠ p ∧ x.s = p) ∨ (x.a = a ∧ x.b ≠ p ∧ x.s ≠ p) by omega) with m1 | ⟨m1, m2⟩ | ⟨m1, m2, m3⟩ | ⟨m1, m2, m3⟩
        · have q1 : (x.a == a) = false := by simp [m1]
          have hval : sumI (mvsN (ts.take (k + 1))) p 1 a = S := by
            have := HST.out
            unfold shareR at this
            rw [if_neg (show ¬ (1 : Int) = 0 by decide), if_pos rfl] at this
            rw [if_neg m1] at this
            omega
          have HV := Lib.hid hval
          clear m1 hval
          go_wp2_with fail
          go_roundw
          case rel => exact ⟨k + 1, by omega, by go_num, by rw [HV.out, ← HG.out], HB.out.alloc HB.out.size _⟩
          case measure => simp [intOf]; omega
        · have q1 : (x.a == a) = true := by simp [m1]
          have q2 : (x.b == p) = true := by simp [m2]
          have q3 : (x.s == p) = false := by rw [beq_eq_false_iff_ne]; intro e; exact HX.out (by omega)
          have hval : sumI (mvsN (ts.take (k + 1))) p 1 a = S + x.q := by
            have := HST.out
            unfold shareR at this
            rw [if_neg (show ¬ (1 : Int) = 0 by decide), if_pos rfl] at this
            rw [if_pos m1, if_pos m2, if_neg (fun e => HX.out (by omega))] at this
            omega
          have HV := Lib.hid hval
          have hw := HW.out x.q
          obtain ⟨g2, hg2⟩ : ∃ g2, g2 = IntKind.i64.wrap (S + x.q) := ⟨_, rfl⟩
          rw [← hg2] at hw
          have HG2 := Lib.hid hg2
          clear hg2
          clear m1 m2 hval
          go_wp2_with fail
          go_roundw
          case rel => exact ⟨k + 1, by omega, by go_num, by rw [HV.out, ← HG2.out], HB.out.alloc HB.out.size _⟩
          case measure => simp [intOf]; omega
        · have q1 : (x.a == a) = true := by simp [m1]
          have q2 : (x.b == p) = false := by simp [m2]
          have q3 : (x.s == p) = true := by simp [m3]
          have hval : sumI (mvsN (ts.take (k + 1))) p 1 a = S - x.q := by
            have := HST.out
            unfold shareR at this
            rw [if_neg (show ¬ (1 : Int) = 0 by decide), if_pos rfl] at this
            rw [if_pos m1, if_neg m2, if_pos m3] at this
            omega
          have HV := Lib.hid hval
          have hw := HS'.out x.q
          obtain ⟨g2, hg2⟩ : ∃ g2, g2 = IntKind.i64.wrap (S - x.q) := ⟨_, rfl⟩
          rw [← hg2] at hw
          have HG2 := Lib.hid hg2
          clear hg2
          clear m1 m2 m3 hval
          go_wp2_with fail
          go_roundw
          case rel => exact ⟨k + 1, by omega, by go_num, by rw [HV.out, ← HG2.out], HB.out.alloc HB.out.size _⟩
          case measure => simp [intOf]; omega
        · have q1 : (x.a == a) = true := by simp [m1]
          have q2 : (x.b == p) = false := by simp [m2]
          have q3 : (x.s == p) = false := by simp [m3]
          have hval : sumI (mvsN (ts.take (k + 1))) p 1 a = S := by
            have := HST.out
            unfold shareR at this
            rw [if_neg (show ¬ (1 : Int) = 0 by decide), if_pos rfl] at this
            rw [if_pos m1, if_neg m2, if_neg m3] at this
            omega
          have HV := Lib.hid hval
          clear m1 m2 m3 hval
          go_wp2_with fail
          go_roundw
          case rel => exact ⟨k + 1, by omega, by go_num, by rw [HV.out, ← HG.out], HB.out.alloc HB.out.size _⟩
          case measure => simp [intOf]; omega
    · obtain rfl : k = ts.length := by omega
      have e : sumI (mvsN (ts.take ts.length)) p l a = sumI (mvsN ts) p l a := by rw [List.take_length]
      rw [e]
      clear e
      go_wp2_with fail
      go_ret
      exact ⟨rfl, HB.out⟩
end Go.Proofs.Ytggpdbfkfcoejaa
