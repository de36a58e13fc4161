/-
  in, below, May of the reference by contract.
-/
import Derived.Test.YtggpdbfkfcoejaaNetSpec
import Derived.Test.YtggpdbfkfcoejaaFr
namespace Go.Proofs.Ytggpdbfkfcoejaa
open Go.RowKit

set_option maxHeartbeats 1000000 in
theorem in_yes (n f t : Int) (w : World) (h : f ≤ n ∧ n ≤ t) : Calls Try.prog 21 #[.int .i64 n, .int .i64 f, .int .i64 t] w fun e w' => e = .returned (.bool true) ∧ w' = w := by
  have d1 : decide (f ≤ n) = true := decide_eq_true h.1
  have d2 : decide (n ≤ t) = true := decide_eq_true h.2
  clear h
  go_enter Try.func21, Try.ntmps21
  go_wp2
  go_ret
  exact ⟨rfl, rfl⟩
set_option maxHeartbeats 1000000 in
theorem in_no (n f t : Int) (w : World) (h : ¬ (f ≤ n ∧ n ≤ t)) : Calls Try.prog 21 #[.int .i64 n, .int .i64 f, .int .i64 t] w fun e w' => e = .returned (.bool false) ∧ w' = w := by
  by_cases h1 : f ≤ n
  · have d1 : decide (f ≤ n) = true := decide_eq_true h1
    have d2 : decide (n ≤ t) = false := decide_eq_false (fun h2 => h ⟨h1, h2⟩)
    clear h h1
    go_enter Try.func21, Try.ntmps21
    go_wp2
    go_ret
    exact ⟨rfl, rfl⟩
  · have d1 : decide (f ≤ n) = false := decide_eq_false h1
    clear h h1
    go_enter Try.func21, Try.ntmps21
    go_wp2
    go_ret
    exact ⟨rfl, rfl⟩
set_option maxHeartbeats 1000000 in
theorem below_yes (n t : Int) (w : World) (h : 0 ≤ n ∧ n < t) : Calls Try.prog 22 #[.int .i64 n, .int .i64 t] w fun e w' => e = .returned (.bool true) ∧ w' = w := by
  have d1 : decide (0 ≤ n) = true := decide_eq_true h.1
  have d2 : decide (n < t) = true := decide_eq_true h.2
  clear h
  go_enter Try.func22, Try.ntmps22
  go_wp2
  go_ret
  exact ⟨rfl, rfl⟩
set_option maxHeartbeats 1000000 in
theorem below_no (n t : Int) (w : World) (h : ¬ (0 ≤ n ∧ n < t)) : Calls Try.prog 22 #[.int .i64 n, .int .i64 t] w fun e w' => e = .returned (.bool false) ∧ w' = w := by
  by_cases h1 : 0 ≤ n
  · have d1 : decide (0 ≤ n) = true := decide_eq_true h1
    have d2 : decide (n < t) = false := decide_eq_false (fun h2 => h ⟨h1, h2⟩)
    clear h h1
    go_enter Try.func22, Try.ntmps22
    go_wp2
    go_ret
    exact ⟨rfl, rfl⟩
  · have d1 : decide (0 ≤ n) = false := decide_eq_false h1
    clear h h1
    go_enter Try.func22, Try.ntmps22
    go_wp2
    go_ret
    exact ⟨rfl, rfl⟩

/-- A trade that may be, of parties 0 to 15 and four assets a ledger. -/
def mayT (x : TrD) : Prop := (0 ≤ x.id ∧ x.id ≤ 65535) ∧ (0 ≤ x.b ∧ x.b < 16) ∧ (0 ≤ x.s ∧ x.s < 16) ∧ (0 ≤ x.c ∧ x.c < 4) ∧ (0 ≤ x.a ∧ x.a < 4) ∧ (1 ≤ x.p ∧ x.p ≤ 4611686018427387904) ∧ (1 ≤ x.q ∧ x.q ≤ 4611686018427387904) ∧ x.b ≠ x.s
set_option maxRecDepth 100000 in
set_option maxHeartbeats 8000000 in
theorem may_any (x : TrD) (w : World) : Calls Try.prog 11 #[.agg #[.int .i64 x.id, .int .i64 x.b, .int .i64 x.s, .int .i64 x.c, .int .i64 x.p, .int .i64 x.a, .int .i64 x.q], .int .i64 16, .int .i64 4, .int .i64 4] w fun e w' => (∃ r : Int, e = .returned (.int .i64 r) ∧ (mayT x → r = 0) ∧ (¬ mayT x → (r == 0) = false)) ∧ Below w.heap.size w w' := by
  by_cases m0 : (0 ≤ x.id ∧ x.id ≤ 65535)
  case neg =>
    have HM0 := Lib.hid m0
    clear m0
    go_enter Try.func11, Try.ntmps11
    go_wp2_with fail
    refine (in_no x.id 0 65535 _ HM0.out).mono ?_
    rintro e _ ⟨rfl, rfl⟩
    go_wp2_with fail
    go_ret
    exact ⟨⟨1, rfl, fun h => absurd (h.1) HM0.out, fun h => rfl⟩, (Below.refl _ _).alloc (Nat.le_refl _) _⟩
  by_cases m1 : (0 ≤ x.b ∧ x.b < 16)
  case neg =>
    have HM0 := Lib.hid m0
    have HM1 := Lib.hid m1
    clear m0 m1
    go_enter Try.func11, Try.ntmps11
    go_wp2_with fail
    refine (in_yes x.id 0 65535 _ HM0.out).mono ?_
    rintro e _ ⟨rfl, rfl⟩
    go_wp2_with fail
    refine (below_no x.b 16 _ HM1.out).mono ?_
    rintro e _ ⟨rfl, rfl⟩
    go_wp2_with fail
    go_ret
    exact ⟨⟨1, rfl, fun h => absurd (h.2.1) HM1.out, fun h => rfl⟩, (Below.refl _ _).alloc (Nat.le_refl _) _⟩
  by_cases m2 : (0 ≤ x.s ∧ x.s < 16)
  case neg =>
    have HM0 := Lib.hid m0
    have HM1 := Lib.hid m1
    have HM2 := Lib.hid m2
    clear m0 m1 m2
    go_enter Try.func11, Try.ntmps11
    go_wp2_with fail
    refine (in_yes x.id 0 65535 _ HM0.out).mono ?_
    rintro e _ ⟨rfl, rfl⟩
    go_wp2_with fail
    refine (below_yes x.b 16 _ HM1.out).mono ?_
    rintro e _ ⟨rfl, rfl⟩
    go_wp2_with fail
    refine (below_no x.s 16 _ HM2.out).mono ?_
    rintro e _ ⟨rfl, rfl⟩
    go_wp2_with fail
    go_ret
    exact ⟨⟨1, rfl, fun h => absurd (h.2.2.1) HM2.out, fun h => rfl⟩, (Below.refl _ _).alloc (Nat.le_refl _) _⟩
  by_cases m3 : (0 ≤ x.c ∧ x.c < 4)
  case neg =>
    have HM0 := Lib.hid m0
    have HM1 := Lib.hid m1
    have HM2 := Lib.hid m2
    have HM3 := Lib.hid m3
    clear m0 m1 m2 m3
    go_enter Try.func11, Try.ntmps11
    go_wp2_with fail
    refine (in_yes x.id 0 65535 _ HM0.out).mono ?_
    rintro e _ ⟨rfl, rfl⟩
    go_wp2_with fail
    refine (below_yes x.b 16 _ HM1.out).mono ?_
    rintro e _ ⟨rfl, rfl⟩
    go_wp2_with fail
    refine (below_yes x.s 16 _ HM2.out).mono ?_
    rintro e _ ⟨rfl, rfl⟩
    go_wp2_with fail
    refine (below_no x.c 4 _ HM3.out).mono ?_
    rintro e _ ⟨rfl, rfl⟩
    go_wp2_with fail
    go_ret
    exact ⟨⟨1, rfl, fun h => absurd (h.2.2.2.1) HM3.out, fun h => rfl⟩, (Below.refl _ _).alloc (Nat.le_refl _) _⟩
  by_cases m4 : (0 ≤ x.a ∧ x.a < 4)
  case neg =>
    have HM0 := Lib.hid m0
    have HM1 := Lib.hid m1
    have HM2 := Lib.hid m2
    have HM3 := Lib.hid m3
    have HM4 := Lib.hid m4
    clear m0 m1 m2 m3 m4
    go_enter Try.func11, Try.ntmps11
    go_wp2_with fail
    refine (in_yes x.id 0 65535 _ HM0.out).mono ?_
    rintro e _ ⟨rfl, rfl⟩
    go_wp2_with fail
    refine (below_yes x.b 16 _ HM1.out).mono ?_
    rintro e _ ⟨rfl, rfl⟩
    go_wp2_with fail
    refine (below_yes x.s 16 _ HM2.out).mono ?_
    rintro e _ ⟨rfl, rfl⟩
    go_wp2_with fail
    refine (below_yes x.c 4 _ HM3.out).mono ?_
    rintro e _ ⟨rfl, rfl⟩
    go_wp2_with fail
    refine (below_no x.a 4 _ HM4.out).mono ?_
    rintro e _ ⟨rfl, rfl⟩
    go_wp2_with fail
    go_ret
    exact ⟨⟨1, rfl, fun h => absurd (h.2.2.2.2.1) HM4.out, fun h => rfl⟩, (Below.refl _ _).alloc (Nat.le_refl _) _⟩
  by_cases m5 : (1 ≤ x.p ∧ x.p ≤ 4611686018427387904)
  case neg =>
    have HM0 := Lib.hid m0
    have HM1 := Lib.hid m1
    have HM2 := Lib.hid m2
    have HM3 := Lib.hid m3
    have HM4 := Lib.hid m4
    have HM5 := Lib.hid m5
    clear m0 m1 m2 m3 m4 m5
    go_enter Try.func11, Try.ntmps11
    go_wp2_with fail
    refine (in_yes x.id 0 65535 _ HM0.out).mono ?_
    rintro e _ ⟨rfl, rfl⟩
    go_wp2_with fail
    refine (below_yes x.b 16 _ HM1.out).mono ?_
    rintro e _ ⟨rfl, rfl⟩
    go_wp2_with fail
    refine (below_yes x.s 16 _ HM2.out).mono ?_
    rintro e _ ⟨rfl, rfl⟩
    go_wp2_with fail
    refine (below_yes x.c 4 _ HM3.out).mono ?_
    rintro e _ ⟨rfl, rfl⟩
    go_wp2_with fail
    refine (below_yes x.a 4 _ HM4.out).mono ?_
    rintro e _ ⟨rfl, rfl⟩
    go_wp2_with fail
    refine (in_no x.p 1 4611686018427387904 _ HM5.out).mono ?_
    rintro e _ ⟨rfl, rfl⟩
    go_wp2_with fail
    go_ret
    exact ⟨⟨1, rfl, fun h => absurd (h.2.2.2.2.2.1) HM5.out, fun h => rfl⟩, (Below.refl _ _).alloc (Nat.le_refl _) _⟩
  by_cases m6 : (1 ≤ x.q ∧ x.q ≤ 4611686018427387904)
  case neg =>
    have HM0 := Lib.hid m0
    have HM1 := Lib.hid m1
    have HM2 := Lib.hid m2
    have HM3 := Lib.hid m3
    have HM4 := Lib.hid m4
    have HM5 := Lib.hid m5
    have HM6 := Lib.hid m6
    clear m0 m1 m2 m3 m4 m5 m6
    go_enter Try.func11, Try.ntmps11
    go_wp2_with fail
    refine (in_yes x.id 0 65535 _ HM0.out).mono ?_
    rintro e _ ⟨rfl, rfl⟩
    go_wp2_with fail
    refine (below_yes x.b 16 _ HM1.out).mono ?_
    rintro e _ ⟨rfl, rfl⟩
    go_wp2_with fail
    refine (below_yes x.s 16 _ HM2.out).mono ?_
    rintro e _ ⟨rfl, rfl⟩
    go_wp2_with fail
    refine (below_yes x.c 4 _ HM3.out).mono ?_
    rintro e _ ⟨rfl, rfl⟩
    go_wp2_with fail
    refine (below_yes x.a 4 _ HM4.out).mono ?_
    rintro e _ ⟨rfl, rfl⟩
    go_wp2_with fail
    refine (in_yes x.p 1 4611686018427387904 _ HM5.out).mono ?_
    rintro e _ ⟨rfl, rfl⟩
    go_wp2_with fail
    refine (in_no x.q 1 4611686018427387904 _ HM6.out).mono ?_
    rintro e _ ⟨rfl, rfl⟩
    go_wp2_with fail
    go_ret
    exact ⟨⟨1, rfl, fun h => absurd (h.2.2.2.2.2.2.1) HM6.out, fun h => rfl⟩, (Below.refl _ _).alloc (Nat.le_refl _) _⟩
  by_cases m7 : x.b = x.s
  case pos =>
    have q : (x.b == x.s) = true := by simp [m7]
    have HM0 := Lib.hid m0
    have HM1 := Lib.hid m1
    have HM2 := Lib.hid m2
    have HM3 := Lib.hid m3
    have HM4 := Lib.hid m4
    have HM5 := Lib.hid m5
    have HM6 := Lib.hid m6
    have HM7 := Lib.hid m7
    clear m0 m1 m2 m3 m4 m5 m6 m7
    go_enter Try.func11, Try.ntmps11
    go_wp2_with fail
    refine (in_yes x.id 0 65535 _ HM0.out).mono ?_
    rintro e _ ⟨rfl, rfl⟩
    go_wp2_with fail
    refine (below_yes x.b 16 _ HM1.out).mono ?_
    rintro e _ ⟨rfl, rfl⟩
    go_wp2_with fail
    refine (below_yes x.s 16 _ HM2.out).mono ?_
    rintro e _ ⟨rfl, rfl⟩
    go_wp2_with fail
    refine (below_yes x.c 4 _ HM3.out).mono ?_
    rintro e _ ⟨rfl, rfl⟩
    go_wp2_with fail
    refine (below_yes x.a 4 _ HM4.out).mono ?_
    rintro e _ ⟨rfl, rfl⟩
    go_wp2_with fail
    refine (in_yes x.p 1 4611686018427387904 _ HM5.out).mono ?_
    rintro e _ ⟨rfl, rfl⟩
    go_wp2_with fail
    refine (in_yes x.q 1 4611686018427387904 _ HM6.out).mono ?_
    rintro e _ ⟨rfl, rfl⟩
    go_wp2_with fail
    go_ret
    exact ⟨⟨14, rfl, fun h => absurd HM7.out (h.2.2.2.2.2.2.2), fun h => rfl⟩, (Below.refl _ _).alloc (Nat.le_refl _) _⟩
  have q : (x.b == x.s) = false := by simp [m7]
  have HM0 := Lib.hid m0
  have HM1 := Lib.hid m1
  have HM2 := Lib.hid m2
  have HM3 := Lib.hid m3
  have HM4 := Lib.hid m4
  have HM5 := Lib.hid m5
  have HM6 := Lib.hid m6
  have HM7 := Lib.hid m7
  clear m0 m1 m2 m3 m4 m5 m6 m7
  go_enter Try.func11, Try.ntmps11
  go_wp2_with fail
  refine (in_yes x.id 0 65535 _ HM0.out).mono ?_
  rintro e _ ⟨rfl, rfl⟩
  go_wp2_with fail
  refine (below_yes x.b 16 _ HM1.out).mono ?_
  rintro e _ ⟨rfl, rfl⟩
  go_wp2_with fail
  refine (below_yes x.s 16 _ HM2.out).mono ?_
  rintro e _ ⟨rfl, rfl⟩
  go_wp2_with fail
  refine (below_yes x.c 4 _ HM3.out).mono ?_
  rintro e _ ⟨rfl, rfl⟩
  go_wp2_with fail
  refine (below_yes x.a 4 _ HM4.out).mono ?_
  rintro e _ ⟨rfl, rfl⟩
  go_wp2_with fail
  refine (in_yes x.p 1 4611686018427387904 _ HM5.out).mono ?_
  rintro e _ ⟨rfl, rfl⟩
  go_wp2_with fail
  refine (in_yes x.q 1 4611686018427387904 _ HM6.out).mono ?_
  rintro e _ ⟨rfl, rfl⟩
  go_wp2_with fail
  go_ret
  exact ⟨⟨0, rfl, fun h => rfl, fun h => absurd ⟨HM0.out, HM1.out, HM2.out, HM3.out, HM4.out, HM5.out, HM6.out, HM7.out⟩ h⟩, (Below.refl _ _).alloc (Nat.le_refl _) _⟩
end Go.Proofs.Ytggpdbfkfcoejaa
