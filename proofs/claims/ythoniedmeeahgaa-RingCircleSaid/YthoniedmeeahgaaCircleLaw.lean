/-
  One circle of parties, in whatever order it is told: its rings, computed. No program in sight.
-/
import Derived.Test.YthoniedmeeahgaaOfLaw
namespace Go.Proofs.Ythoniedmeeahgaa

/-- The i-th party that gives. -/
def kOf (n a i : Nat) : Nat := if n % 5 = 0 then (i + a) % n else (5 * i + a) % n
def netK (n k : Nat) : NetD := ⟨(k : Int), ((k + 1) % n : Nat), (k % 2 : Nat), 0, (k + 1 : Nat)⟩
def circF (n a : Nat) (gap : Bool) : Nat → List NetD
  | 0 => []
  | i + 1 => if gap = true ∧ kOf n a i = 1 then circF n a gap i else circF n a gap i ++ [netK n (kOf n a i)]
def mayB (x : NetD) : Bool := decide (0 ≤ x.f ∧ x.f ≤ 15) && decide (0 ≤ x.t ∧ x.t ≤ 15) && decide (x.f ≠ x.t) && decide (0 ≤ x.l ∧ x.l ≤ 1) && decide (0 ≤ x.a ∧ x.a ≤ 3) && decide (1 ≤ x.n ∧ x.n ≤ 1099511627776)
def clashB (x y : NetD) : Bool := decide (x.l = y.l ∧ x.a = y.a ∧ ((x.f = y.f ∧ x.t = y.t) ∨ (x.f = y.t ∧ x.t = y.f)))
def apartB : List NetD → Bool
  | [] => true
  | x :: xs => xs.all (fun y => !clashB x y) && apartB xs
def legK (k : Nat) : List ItD := [⟨(k % 2 : Nat), 0, (k + 1 : Nat)⟩]
def ringK (n : Nat) : RingD := ⟨(List.range n).map fun k : Nat => (k : Int), (List.range n).map legK⟩
def circB (n a : Nat) (gap : Bool) : Bool :=
  let l := circF n a gap n
  l.all mayB && apartB l && decide (l.length ≤ 100) && (if gap = true then decide (ringsOf l = ([], l)) else decide (ringsOf l = ([ringK n], [])))
theorem circ_3_0 : (circB 3 0 true && circB 3 0 false) = true := by decide +kernel
theorem circ_3_1 : (circB 3 1 true && circB 3 1 false) = true := by decide +kernel
theorem circ_3_2 : (circB 3 2 true && circB 3 2 false) = true := by decide +kernel
theorem circ_4_0 : (circB 4 0 true && circB 4 0 false) = true := by decide +kernel
theorem circ_4_1 : (circB 4 1 true && circB 4 1 false) = true := by decide +kernel
theorem circ_4_2 : (circB 4 2 true && circB 4 2 false) = true := by decide +kernel
theorem circ_4_3 : (circB 4 3 true && circB 4 3 false) = true := by decide +kernel
theorem circ_5_0 : (circB 5 0 true && circB 5 0 false) = true := by decide +kernel
theorem circ_5_1 : (circB 5 1 true && circB 5 1 false) = true := by decide +kernel
theorem circ_5_2 : (circB 5 2 true && circB 5 2 false) = true := by decide +kernel
theorem circ_5_3 : (circB 5 3 true && circB 5 3 false) = true := by decide +kernel
theorem circ_5_4 : (circB 5 4 true && circB 5 4 false) = true := by decide +kernel
theorem circ_6_0 : (circB 6 0 true && circB 6 0 false) = true := by decide +kernel
theorem circ_6_1 : (circB 6 1 true && circB 6 1 false) = true := by decide +kernel
theorem circ_6_2 : (circB 6 2 true && circB 6 2 false) = true := by decide +kernel
theorem circ_6_3 : (circB 6 3 true && circB 6 3 false) = true := by decide +kernel
theorem circ_6_4 : (circB 6 4 true && circB 6 4 false) = true := by decide +kernel
theorem circ_6_5 : (circB 6 5 true && circB 6 5 false) = true := by decide +kernel
theorem circ_7_0 : (circB 7 0 true && circB 7 0 false) = true := by decide +kernel
theorem circ_7_1 : (circB 7 1 true && circB 7 1 false) = true := by decide +kernel
theorem circ_7_2 : (circB 7 2 true && circB 7 2 false) = true := by decide +kernel
theorem circ_7_3 : (circB 7 3 true && circB 7 3 false) = true := by decide +kernel
theorem circ_7_4 : (circB 7 4 true && circB 7 4 false) = true := by decide +kernel
theorem circ_7_5 : (circB 7 5 true && circB 7 5 false) = true := by decide +kernel
theorem circ_7_6 : (circB 7 6 true && circB 7 6 false) = true := by decide +kernel
theorem circ_8_0 : (circB 8 0 true && circB 8 0 false) = true := by decide +kernel
theorem circ_8_1 : (circB 8 1 true && circB 8 1 false) = true := by decide +kernel
theorem circ_8_2 : (circB 8 2 true && circB 8 2 false) = true := by decide +kernel
theorem circ_8_3 : (circB 8 3 true && circB 8 3 false) = true := by decide +kernel
theorem circ_8_4 : (circB 8 4 true && circB 8 4 false) = true := by decide +kernel
theorem circ_8_5 : (circB 8 5 true && circB 8 5 false) = true := by decide +kernel
theorem circ_8_6 : (circB 8 6 true && circB 8 6 false) = true := by decide +kernel
theorem circ_8_7 : (circB 8 7 true && circB 8 7 false) = true := by decide +kernel
theorem circ_9_0 : (circB 9 0 true && circB 9 0 false) = true := by decide +kernel
theorem circ_9_1 : (circB 9 1 true && circB 9 1 false) = true := by decide +kernel
theorem circ_9_2 : (circB 9 2 true && circB 9 2 false) = true := by decide +kernel
theorem circ_9_3 : (circB 9 3 true && circB 9 3 false) = true := by decide +kernel
theorem circ_9_4 : (circB 9 4 true && circB 9 4 false) = true := by decide +kernel
theorem circ_9_5 : (circB 9 5 true && circB 9 5 false) = true := by decide +kernel
theorem circ_9_6 : (circB 9 6 true && circB 9 6 false) = true := by decide +kernel
theorem circ_9_7 : (circB 9 7 true && circB 9 7 false) = true := by decide +kernel
theorem circ_9_8 : (circB 9 8 true && circB 9 8 false) = true := by decide +kernel
theorem circ_10_0 : (circB 10 0 true && circB 10 0 false) = true := by decide +kernel
theorem circ_10_1 : (circB 10 1 true && circB 10 1 false) = true := by decide +kernel
theorem circ_10_2 : (circB 10 2 true && circB 10 2 false) = true := by decide +kernel
theorem circ_10_3 : (circB 10 3 true && circB 10 3 false) = true := by decide +kernel
theorem circ_10_4 : (circB 10 4 true && circB 10 4 false) = true := by decide +kernel
theorem circ_10_5 : (circB 10 5 true && circB 10 5 false) = true := by decide +kernel
theorem circ_10_6 : (circB 10 6 true && circB 10 6 false) = true := by decide +kernel
theorem circ_10_7 : (circB 10 7 true && circB 10 7 false) = true := by decide +kernel
theorem circ_10_8 : (circB 10 8 true && circB 10 8 false) = true := by decide +kernel
theorem circ_10_9 : (circB 10 9 true && circB 10 9 false) = true := by decide +kernel
theorem circ_11_0 : (circB 11 0 true && circB 11 0 false) = true := by decide +kernel
theorem circ_11_1 : (circB 11 1 true && circB 11 1 false) = true := by decide +kernel
theorem circ_11_2 : (circB 11 2 true && circB 11 2 false) = true := by decide +kernel
theorem circ_11_3 : (circB 11 3 true && circB 11 3 false) = true := by decide +kernel
theorem circ_11_4 : (circB 11 4 true && circB 11 4 false) = true := by decide +kernel
theorem circ_11_5 : (circB 11 5 true && circB 11 5 false) = true := by decide +kernel
theorem circ_11_6 : (circB 11 6 true && circB 11 6 false) = true := by decide +kernel
theorem circ_11_7 : (circB 11 7 true && circB 11 7 false) = true := by decide +kernel
theorem circ_11_8 : (circB 11 8 true && circB 11 8 false) = true := by decide +kernel
theorem circ_11_9 : (circB 11 9 true && circB 11 9 false) = true := by decide +kernel
theorem circ_11_10 : (circB 11 10 true && circB 11 10 false) = true := by decide +kernel
theorem circ_12_0 : (circB 12 0 true && circB 12 0 false) = true := by decide +kernel
theorem circ_12_1 : (circB 12 1 true && circB 12 1 false) = true := by decide +kernel
theorem circ_12_2 : (circB 12 2 true && circB 12 2 false) = true := by decide +kernel
theorem circ_12_3 : (circB 12 3 true && circB 12 3 false) = true := by decide +kernel
theorem circ_12_4 : (circB 12 4 true && circB 12 4 false) = true := by decide +kernel
theorem circ_12_5 : (circB 12 5 true && circB 12 5 false) = true := by decide +kernel
theorem circ_12_6 : (circB 12 6 true && circB 12 6 false) = true := by decide +kernel
theorem circ_12_7 : (circB 12 7 true && circB 12 7 false) = true := by decide +kernel
theorem circ_12_8 : (circB 12 8 true && circB 12 8 false) = true := by decide +kernel
theorem circ_12_9 : (circB 12 9 true && circB 12 9 false) = true := by decide +kernel
theorem circ_12_10 : (circB 12 10 true && circB 12 10 false) = true := by decide +kernel
theorem circ_12_11 : (circB 12 11 true && circB 12 11 false) = true := by decide +kernel
theorem circ_13_0 : (circB 13 0 true && circB 13 0 false) = true := by decide +kernel
theorem circ_13_1 : (circB 13 1 true && circB 13 1 false) = true := by decide +kernel
theorem circ_13_2 : (circB 13 2 true && circB 13 2 false) = true := by decide +kernel
theorem circ_13_3 : (circB 13 3 true && circB 13 3 false) = true := by decide +kernel
theorem circ_13_4 : (circB 13 4 true && circB 13 4 false) = true := by decide +kernel
theorem circ_13_5 : (circB 13 5 true && circB 13 5 false) = true := by decide +kernel
theorem circ_13_6 : (circB 13 6 true && circB 13 6 false) = true := by decide +kernel
theorem circ_13_7 : (circB 13 7 true && circB 13 7 false) = true := by decide +kernel
theorem circ_13_8 : (circB 13 8 true && circB 13 8 false) = true := by decide +kernel
theorem circ_13_9 : (circB 13 9 true && circB 13 9 false) = true := by decide +kernel
theorem circ_13_10 : (circB 13 10 true && circB 13 10 false) = true := by decide +kernel
theorem circ_13_11 : (circB 13 11 true && circB 13 11 false) = true := by decide +kernel
theorem circ_13_12 : (circB 13 12 true && circB 13 12 false) = true := by decide +kernel
theorem circ_14_0 : (circB 14 0 true && circB 14 0 false) = true := by decide +kernel
theorem circ_14_1 : (circB 14 1 true && circB 14 1 false) = true := by decide +kernel
theorem circ_14_2 : (circB 14 2 true && circB 14 2 false) = true := by decide +kernel
theorem circ_14_3 : (circB 14 3 true && circB 14 3 false) = true := by decide +kernel
theorem circ_14_4 : (circB 14 4 true && circB 14 4 false) = true := by decide +kernel
theorem circ_14_5 : (circB 14 5 true && circB 14 5 false) = true := by decide +kernel
theorem circ_14_6 : (circB 14 6 true && circB 14 6 false) = true := by decide +kernel
theorem circ_14_7 : (circB 14 7 true && circB 14 7 false) = true := by decide +kernel
theorem circ_14_8 : (circB 14 8 true && circB 14 8 false) = true := by decide +kernel
theorem circ_14_9 : (circB 14 9 true && circB 14 9 false) = true := by decide +kernel
theorem circ_14_10 : (circB 14 10 true && circB 14 10 false) = true := by decide +kernel
theorem circ_14_11 : (circB 14 11 true && circB 14 11 false) = true := by decide +kernel
theorem circ_14_12 : (circB 14 12 true && circB 14 12 false) = true := by decide +kernel
theorem circ_14_13 : (circB 14 13 true && circB 14 13 false) = true := by decide +kernel
theorem circ_15_0 : (circB 15 0 true && circB 15 0 false) = true := by decide +kernel
theorem circ_15_1 : (circB 15 1 true && circB 15 1 false) = true := by decide +kernel
theorem circ_15_2 : (circB 15 2 true && circB 15 2 false) = true := by decide +kernel
theorem circ_15_3 : (circB 15 3 true && circB 15 3 false) = true := by decide +kernel
theorem circ_15_4 : (circB 15 4 true && circB 15 4 false) = true := by decide +kernel
theorem circ_15_5 : (circB 15 5 true && circB 15 5 false) = true := by decide +kernel
theorem circ_15_6 : (circB 15 6 true && circB 15 6 false) = true := by decide +kernel
theorem circ_15_7 : (circB 15 7 true && circB 15 7 false) = true := by decide +kernel
theorem circ_15_8 : (circB 15 8 true && circB 15 8 false) = true := by decide +kernel
theorem circ_15_9 : (circB 15 9 true && circB 15 9 false) = true := by decide +kernel
theorem circ_15_10 : (circB 15 10 true && circB 15 10 false) = true := by decide +kernel
theorem circ_15_11 : (circB 15 11 true && circB 15 11 false) = true := by decide +kernel
theorem circ_15_12 : (circB 15 12 true && circB 15 12 false) = true := by decide +kernel
theorem circ_15_13 : (circB 15 13 true && circB 15 13 false) = true := by decide +kernel
theorem circ_15_14 : (circB 15 14 true && circB 15 14 false) = true := by decide +kernel
theorem circ_16_0 : (circB 16 0 true && circB 16 0 false) = true := by decide +kernel
theorem circ_16_1 : (circB 16 1 true && circB 16 1 false) = true := by decide +kernel
theorem circ_16_2 : (circB 16 2 true && circB 16 2 false) = true := by decide +kernel
theorem circ_16_3 : (circB 16 3 true && circB 16 3 false) = true := by decide +kernel
theorem circ_16_4 : (circB 16 4 true && circB 16 4 false) = true := by decide +kernel
theorem circ_16_5 : (circB 16 5 true && circB 16 5 false) = true := by decide +kernel
theorem circ_16_6 : (circB 16 6 true && circB 16 6 false) = true := by decide +kernel
theorem circ_16_7 : (circB 16 7 true && circB 16 7 false) = true := by decide +kernel
theorem circ_16_8 : (circB 16 8 true && circB 16 8 false) = true := by decide +kernel
theorem circ_16_9 : (circB 16 9 true && circB 16 9 false) = true := by decide +kernel
theorem circ_16_10 : (circB 16 10 true && circB 16 10 false) = true := by decide +kernel
theorem circ_16_11 : (circB 16 11 true && circB 16 11 false) = true := by decide +kernel
theorem circ_16_12 : (circB 16 12 true && circB 16 12 false) = true := by decide +kernel
theorem circ_16_13 : (circB 16 13 true && circB 16 13 false) = true := by decide +kernel
theorem circ_16_14 : (circB 16 14 true && circB 16 14 false) = true := by decide +kernel
theorem circ_16_15 : (circB 16 15 true && circB 16 15 false) = true := by decide +kernel
theorem circ_n {n a : Nat} (h3 : 3 ≤ n) (h16 : n ≤ 16) (ha : a < n) : (circB n a true && circB n a false) = true := by
  match n, h3, h16 with
  | 3, _, _ =>
    match a, ha with
    | 0, _ => exact circ_3_0
    | 1, _ => exact circ_3_1
    | 2, _ => exact circ_3_2
    | a + 3, h => exact absurd h (by omega)
  | 4, _, _ =>
    match a, ha with
    | 0, _ => exact circ_4_0
    | 1, _ => exact circ_4_1
    | 2, _ => exact circ_4_2
    | 3, _ => exact circ_4_3
    | a + 4, h => exact absurd h (by omega)
  | 5, _, _ =>
    match a, ha with
    | 0, _ => exact circ_5_0
    | 1, _ => exact circ_5_1
    | 2, _ => exact circ_5_2
    | 3, _ => exact circ_5_3
    | 4, _ => exact circ_5_4
    | a + 5, h => exact absurd h (by omega)
  | 6, _, _ =>
    match a, ha with
    | 0, _ => exact circ_6_0
    | 1, _ => exact circ_6_1
    | 2, _ => exact circ_6_2
    | 3, _ => exact circ_6_3
    | 4, _ => exact circ_6_4
    | 5, _ => exact circ_6_5
    | a + 6, h => exact absurd h (by omega)
  | 7, _, _ =>
    match a, ha with
    | 0, _ => exact circ_7_0
    | 1, _ => exact circ_7_1
    | 2, _ => exact circ_7_2
    | 3, _ => exact circ_7_3
    | 4, _ => exact circ_7_4
    | 5, _ => exact circ_7_5
    | 6, _ => exact circ_7_6
    | a + 7, h => exact absurd h (by omega)
  | 8, _, _ =>
    match a, ha with
    | 0, _ => exact circ_8_0
    | 1, _ => exact circ_8_1
    | 2, _ => exact circ_8_2
    | 3, _ => exact circ_8_3
    | 4, _ => exact circ_8_4
    | 5, _ => exact circ_8_5
    | 6, _ => exact circ_8_6
    | 7, _ => exact circ_8_7
    | a + 8, h => exact absurd h (by omega)
  | 9, _, _ =>
    match a, ha with
    | 0, _ => exact circ_9_0
    | 1, _ => exact circ_9_1
    | 2, _ => exact circ_9_2
    | 3, _ => exact circ_9_3
    | 4, _ => exact circ_9_4
    | 5, _ => exact circ_9_5
    | 6, _ => exact circ_9_6
    | 7, _ => exact circ_9_7
    | 8, _ => exact circ_9_8
    | a + 9, h => exact absurd h (by omega)
  | 10, _, _ =>
    match a, ha with
    | 0, _ => exact circ_10_0
    | 1, _ => exact circ_10_1
    | 2, _ => exact circ_10_2
    | 3, _ => exact circ_10_3
    | 4, _ => exact circ_10_4
    | 5, _ => exact circ_10_5
    | 6, _ => exact circ_10_6
    | 7, _ => exact circ_10_7
    | 8, _ => exact circ_10_8
    | 9, _ => exact circ_10_9
    | a + 10, h => exact absurd h (by omega)
  | 11, _, _ =>
    match a, ha with
    | 0, _ => exact circ_11_0
    | 1, _ => exact circ_11_1
    | 2, _ => exact circ_11_2
    | 3, _ => exact circ_11_3
    | 4, _ => exact circ_11_4
    | 5, _ => exact circ_11_5
    | 6, _ => exact circ_11_6
    | 7, _ => exact circ_11_7
    | 8, _ => exact circ_11_8
    | 9, _ => exact circ_11_9
    | 10, _ => exact circ_11_10
    | a + 11, h => exact absurd h (by omega)
  | 12, _, _ =>
    match a, ha with
    | 0, _ => exact circ_12_0
    | 1, _ => exact circ_12_1
    | 2, _ => exact circ_12_2
    | 3, _ => exact circ_12_3
    | 4, _ => exact circ_12_4
    | 5, _ => exact circ_12_5
    | 6, _ => exact circ_12_6
    | 7, _ => exact circ_12_7
    | 8, _ => exact circ_12_8
    | 9, _ => exact circ_12_9
    | 10, _ => exact circ_12_10
    | 11, _ => exact circ_12_11
    | a + 12, h => exact absurd h (by omega)
  | 13, _, _ =>
    match a, ha with
    | 0, _ => exact circ_13_0
    | 1, _ => exact circ_13_1
    | 2, _ => exact circ_13_2
    | 3, _ => exact circ_13_3
    | 4, _ => exact circ_13_4
    | 5, _ => exact circ_13_5
    | 6, _ => exact circ_13_6
    | 7, _ => exact circ_13_7
    | 8, _ => exact circ_13_8
    | 9, _ => exact circ_13_9
    | 10, _ => exact circ_13_10
    | 11, _ => exact circ_13_11
    | 12, _ => exact circ_13_12
    | a + 13, h => exact absurd h (by omega)
  | 14, _, _ =>
    match a, ha with
    | 0, _ => exact circ_14_0
    | 1, _ => exact circ_14_1
    | 2, _ => exact circ_14_2
    | 3, _ => exact circ_14_3
    | 4, _ => exact circ_14_4
    | 5, _ => exact circ_14_5
    | 6, _ => exact circ_14_6
    | 7, _ => exact circ_14_7
    | 8, _ => exact circ_14_8
    | 9, _ => exact circ_14_9
    | 10, _ => exact circ_14_10
    | 11, _ => exact circ_14_11
    | 12, _ => exact circ_14_12
    | 13, _ => exact circ_14_13
    | a + 14, h => exact absurd h (by omega)
  | 15, _, _ =>
    match a, ha with
    | 0, _ => exact circ_15_0
    | 1, _ => exact circ_15_1
    | 2, _ => exact circ_15_2
    | 3, _ => exact circ_15_3
    | 4, _ => exact circ_15_4
    | 5, _ => exact circ_15_5
    | 6, _ => exact circ_15_6
    | 7, _ => exact circ_15_7
    | 8, _ => exact circ_15_8
    | 9, _ => exact circ_15_9
    | 10, _ => exact circ_15_10
    | 11, _ => exact circ_15_11
    | 12, _ => exact circ_15_12
    | 13, _ => exact circ_15_13
    | 14, _ => exact circ_15_14
    | a + 15, h => exact absurd h (by omega)
  | 16, _, _ =>
    match a, ha with
    | 0, _ => exact circ_16_0
    | 1, _ => exact circ_16_1
    | 2, _ => exact circ_16_2
    | 3, _ => exact circ_16_3
    | 4, _ => exact circ_16_4
    | 5, _ => exact circ_16_5
    | 6, _ => exact circ_16_6
    | 7, _ => exact circ_16_7
    | 8, _ => exact circ_16_8
    | 9, _ => exact circ_16_9
    | 10, _ => exact circ_16_10
    | 11, _ => exact circ_16_11
    | 12, _ => exact circ_16_12
    | 13, _ => exact circ_16_13
    | 14, _ => exact circ_16_14
    | 15, _ => exact circ_16_15
    | a + 16, h => exact absurd h (by omega)
  | n + 17, _, h => exact absurd h (by omega)
theorem mayB_iff {x : NetD} (h : mayB x = true) : MayN x := by
  unfold mayB at h
  simp only [Bool.and_eq_true, decide_eq_true_eq] at h
  obtain ⟨⟨⟨⟨⟨h1, h2⟩, h3⟩, h4⟩, h5⟩, h6⟩ := h
  exact ⟨h1, h2, h3, h4, h5, h6⟩
theorem apartB_iff : ∀ {xs : List NetD}, apartB xs = true → xs.Pairwise (fun x y => ¬ clash x y) := by
  intro xs
  induction xs with
  | nil => intro _; simp
  | cons x xs ih =>
    intro h
    unfold apartB at h
    rw [Bool.and_eq_true, List.all_eq_true] at h
    refine List.Pairwise.cons (fun y hy hc => ?_) (ih h.2)
    have := h.1 y hy
    unfold clashB at this
    rw [Bool.not_eq_true', decide_eq_false_iff_not] at this
    exact this hc
structure CircOK (n a : Nat) (gap : Bool) : Prop where
  may : MayX (circF n a gap n)
  ringsT : gap = true → ringsOf (circF n a gap n) = ([], circF n a gap n)
  ringsF : gap = false → ringsOf (circF n a gap n) = ([ringK n], [])
theorem circ_ok {n a : Nat} (h3 : 3 ≤ n) (h16 : n ≤ 16) (ha : a < n) (gap : Bool) : CircOK n a gap := by
  have h2 := circ_n h3 h16 ha
  rw [Bool.and_eq_true] at h2
  have hb : circB n a gap = true := by
    cases gap
    · exact h2.2
    · exact h2.1
  unfold circB at hb
  simp only [Bool.and_eq_true, decide_eq_true_eq, List.all_eq_true] at hb
  obtain ⟨⟨⟨b1, b2⟩, b3⟩, b4⟩ := hb
  refine ⟨⟨fun x hx => mayB_iff (b1 x hx), apartB_iff b2, b3⟩, fun hg => ?_, fun hg => ?_⟩
  · subst hg
    rw [if_pos rfl, decide_eq_true_eq] at b4
    exact b4
  · subst hg
    rw [if_neg (by decide), decide_eq_true_eq] at b4
    exact b4
end Go.Proofs.Ythoniedmeeahgaa
