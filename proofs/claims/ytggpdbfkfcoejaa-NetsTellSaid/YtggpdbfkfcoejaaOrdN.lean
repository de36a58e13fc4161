/-
  package nets' order, by contract.
-/
import Derived.Test.YtggpdbfkfcoejaaSortNets
import Derived.Test.YtggpdbfkfcoejaaIdx
import Derived.Test.YtggpdbfkfcoejaaFr
import Derived.Deep.RegionHeld3
import Derived.BigRegion
import Derived.StillTailTactics
import Derived.Lib.MinMax
import Derived.LoopTactic
namespace Go.Proofs.Ytggpdbfkfcoejaa
open Go.RowKit Go.Shelf Go.Lib Go.Sort

structure NetD where
  f : Int
  t : Int
  l : Int
  a : Int
  n : Int
instance : Inhabited NetD := ⟨⟨0, 0, 0, 0, 0⟩⟩
def encN (x : NetD) : List Value := [.int .i64 x.f, .int .i64 x.t, .int .i64 x.l, .int .i64 x.a, .int .i64 x.n]
def or4 (a b c d : Int) : Int := if a ≠ 0 then a else if b ≠ 0 then b else if c ≠ 0 then c else d
def ordN (x y : NetD) : Int := or4 (compareInt (min x.f x.t) (min y.f y.t)) (compareInt (max x.f x.t) (max y.f y.t)) (compareInt x.l y.l) (compareInt x.a y.a)

set_option maxHeartbeats 1000000 in
theorem cmpc_any (x y : Int) (w : World) : Calls Try.prog 32 #[.int .i64 x, .int .i64 y] w fun e w' => e = .returned (.int .i64 (compareInt x y)) ∧ w = w' := by
  unfold compareInt
  have h0 : (x != x) = false := bne_self_eq_false x
  have h1 : (y != y) = false := bne_self_eq_false y
  by_cases hlt : x < y
  · have d1 : decide (x < y) = true := decide_eq_true hlt
    have Hl := Lib.hid hlt
    clear hlt
    rw [if_pos Hl.out]
    go_enter Try.func32, Try.ntmps32
    go_wp2
    go_ret
    exact ⟨rfl, rfl⟩
  · have d1 : decide (x < y) = false := decide_eq_false hlt
    by_cases hgt : y < x
    · have d2 : decide (y < x) = true := decide_eq_true hgt
      have Hl := Lib.hid hlt
      have Hg := Lib.hid hgt
      clear hlt hgt
      rw [if_neg Hl.out, if_pos Hg.out]
      go_enter Try.func32, Try.ntmps32
      go_wp2
      go_ret
      exact ⟨rfl, rfl⟩
    · have d2 : decide (y < x) = false := decide_eq_false hgt
      have Hl := Lib.hid hlt
      have Hg := Lib.hid hgt
      clear hlt hgt
      rw [if_neg Hl.out, if_neg Hg.out]
      go_enter Try.func32, Try.ntmps32
      go_wp2
      go_ret
      exact ⟨rfl, rfl⟩

def OrRel (w : World) (a b c d : Int) (i : Value) (wr : World) : Prop :=
  ∃ k : Nat, k ≤ 4 ∧ i = .int .i64 k ∧ wr = w ∧ (0 < k → a = 0) ∧ (1 < k → b = 0) ∧ (2 < k → c = 0) ∧ (3 < k → d = 0)
set_option maxHeartbeats 1000000 in
theorem or_any (a b c d : Int) (g : Nat) (w : World) (h0 : w.cell? ⟨g, 0, none⟩ = some (.int .i64 a)) (h1 : w.cell? ⟨g, 1, none⟩ = some (.int .i64 b)) (h2 : w.cell? ⟨g, 2, none⟩ = some (.int .i64 c)) (h3 : w.cell? ⟨g, 3, none⟩ = some (.int .i64 d)) :
    Calls Try.prog 31 #[.slice (some ⟨g, 0, none⟩) 4 4] w fun e w' => e = .returned (.int .i64 (or4 a b c d)) ∧ w = w' := by
  go_enter Try.func31, Try.ntmps31
  go_wp2_with fail
  go_loopw [8] (fun i wr => OrRel w a b c d i wr) (fun i _ => 4 - (intOf i).toNat)
  case atStart => exact ⟨0, by omega, rfl, rfl, by simp, by simp, by simp, by simp⟩
  case round =>
    obtain ⟨k, hk, rfl, rfl, z0, z1, z2, z3⟩ := hrel
    rcases (show k = 0 ∨ k = 1 ∨ k = 2 ∨ k = 3 ∨ k = 4 by omega) with rfl | rfl | rfl | rfl | rfl
    · clear z0 z1 z2 z3
      by_cases h : a = 0
      · have hd : (a != 0) = false := by simp [h]
        have H := Lib.hid h
        clear h
        go_wp2_with fail
        go_roundw
        case rel => exact ⟨1, by omega, by go_num, rfl, fun _ => H.out, by simp, by simp, by simp⟩
        case measure => simp [intOf]
      · have hd : (a != 0) = true := by simp [h]
        have H := Lib.hid h
        clear h
        go_wp2_with fail
        go_ret
        exact ⟨by unfold or4; rw [if_pos H.out]; rfl, rfl⟩
    · have Z0 := Lib.hid (z0 (by omega))
      clear z0 z1 z2 z3
      by_cases h : b = 0
      · have hd : (b != 0) = false := by simp [h]
        have H := Lib.hid h
        clear h
        go_wp2_with fail
        go_roundw
        case rel => exact ⟨2, by omega, by go_num, rfl, fun _ => Z0.out, fun _ => H.out, by simp, by simp⟩
        case measure => simp [intOf]
      · have hd : (b != 0) = true := by simp [h]
        have H := Lib.hid h
        clear h
        go_wp2_with fail
        go_ret
        exact ⟨by unfold or4; rw [if_neg (by simp [Z0.out]), if_pos H.out]; rfl, rfl⟩
    · have Z0 := Lib.hid (z0 (by omega))
      have Z1 := Lib.hid (z1 (by omega))
      clear z0 z1 z2 z3
      by_cases h : c = 0
      · have hd : (c != 0) = false := by simp [h]
        have H := Lib.hid h
        clear h
        go_wp2_with fail
        go_roundw
        case rel => exact ⟨3, by omega, by go_num, rfl, fun _ => Z0.out, fun _ => Z1.out, fun _ => H.out, by simp⟩
        case measure => simp [intOf]
      · have hd : (c != 0) = true := by simp [h]
        have H := Lib.hid h
        clear h
        go_wp2_with fail
        go_ret
        exact ⟨by unfold or4; rw [if_neg (by simp [Z0.out]), if_neg (by simp [Z1.out]), if_pos H.out]; rfl, rfl⟩
    · have Z0 := Lib.hid (z0 (by omega))
      have Z1 := Lib.hid (z1 (by omega))
      have Z2 := Lib.hid (z2 (by omega))
      clear z0 z1 z2 z3
      by_cases h : d = 0
      · have hd : (d != 0) = false := by simp [h]
        have H := Lib.hid h
        clear h
        go_wp2_with fail
        go_roundw
        case rel => exact ⟨4, by omega, by go_num, rfl, fun _ => Z0.out, fun _ => Z1.out, fun _ => Z2.out, fun _ => H.out⟩
        case measure => simp [intOf]
      · have hd : (d != 0) = true := by simp [h]
        have H := Lib.hid h
        clear h
        go_wp2_with fail
        go_ret
        exact ⟨by unfold or4; rw [if_neg (by simp [Z0.out]), if_neg (by simp [Z1.out]), if_neg (by simp [Z2.out])]; rfl, rfl⟩
    · have Z0 := Lib.hid (z0 (by omega))
      have Z1 := Lib.hid (z1 (by omega))
      have Z2 := Lib.hid (z2 (by omega))
      have Z3 := Lib.hid (z3 (by omega))
      clear z0 z1 z2 z3
      go_wp2_with fail
      go_ret
      exact ⟨by unfold or4; rw [if_neg (by simp [Z0.out]), if_neg (by simp [Z1.out]), if_neg (by simp [Z2.out]), Z3.out]; rfl, rfl⟩

set_option maxRecDepth 100000 in
set_option maxHeartbeats 4000000 in
theorem order_any (x y : NetD) (w : World) : Calls Try.prog 20 #[.agg #[.int .i64 x.f, .int .i64 x.t, .int .i64 x.l, .int .i64 x.a, .int .i64 x.n], .agg #[.int .i64 y.f, .int .i64 y.t, .int .i64 y.l, .int .i64 y.a, .int .i64 y.n]] w
    fun e w' => e = .returned (.int .i64 (ordN x y)) ∧ ∃ q os', w' = grow (w.drewN q) os' := by
  unfold ordN
  obtain ⟨xf, xt, xl, xa, xn⟩ := x
  obtain ⟨yf, yt, yl, ya, yn⟩ := y
  simp only
  obtain ⟨m1, hm1⟩ : ∃ m, min xf xt = m := ⟨_, rfl⟩
  obtain ⟨m2, hm2⟩ : ∃ m, min yf yt = m := ⟨_, rfl⟩
  obtain ⟨m3, hm3⟩ : ∃ m, max xf xt = m := ⟨_, rfl⟩
  obtain ⟨m4, hm4⟩ : ∃ m, max yf yt = m := ⟨_, rfl⟩
  rw [hm1, hm2, hm3, hm4]
  generalize hA : compareInt m1 m2 = A
  generalize hB : compareInt m3 m4 = B
  generalize hC : compareInt xl yl = C
  generalize hD : compareInt xa ya = D
  have cA : ∀ w', Calls Try.prog 32 #[.int .i64 m1, .int .i64 m2] w' fun e w'' => e = .returned (.int .i64 A) ∧ w'' = w' := fun w' => hA ▸ (cmpc_any _ _ w').mono fun _ _ ⟨a, b⟩ => ⟨a, b.symm⟩
  have cB : ∀ w', Calls Try.prog 32 #[.int .i64 m3, .int .i64 m4] w' fun e w'' => e = .returned (.int .i64 B) ∧ w'' = w' := fun w' => hB ▸ (cmpc_any _ _ w').mono fun _ _ ⟨a, b⟩ => ⟨a, b.symm⟩
  have cC : ∀ w', Calls Try.prog 32 #[.int .i64 xl, .int .i64 yl] w' fun e w'' => e = .returned (.int .i64 C) ∧ w'' = w' := fun w' => hC ▸ (cmpc_any _ _ w').mono fun _ _ ⟨a, b⟩ => ⟨a, b.symm⟩
  have cD : ∀ w', Calls Try.prog 32 #[.int .i64 xa, .int .i64 ya] w' fun e w'' => e = .returned (.int .i64 D) ∧ w'' = w' := fun w' => hD ▸ (cmpc_any _ _ w').mono fun _ _ ⟨a, b⟩ => ⟨a, b.symm⟩
  have CA := Lib.hid cA
  have CB := Lib.hid cB
  have CC := Lib.hid cC
  have CD := Lib.hid cD
  clear cA cB cC cD hA hB hC hD
  go_enter Try.func20, Try.ntmps20
  go_wp2_with fail
  obtain ⟨W, hW⟩ : ∃ W, W = (w.alloc (.cells #[.int .i64 xf, .int .i64 xt, .int .i64 xl, .int .i64 xa, .int .i64 xn] 34)).alloc (.cells #[.int .i64 yf, .int .i64 yt, .int .i64 yl, .int .i64 ya, .int .i64 yn] 34) := ⟨_, rfl⟩
  have bx := (Blk.new w 34 #[.int .i64 xf, .int .i64 xt, .int .i64 xl, .int .i64 xa, .int .i64 xn]).alloc (.cells #[.int .i64 yf, .int .i64 yt, .int .i64 yl, .int .i64 ya, .int .i64 yn] 34)
  have by' : Blk ((w.alloc (.cells #[.int .i64 xf, .int .i64 xt, .int .i64 xl, .int .i64 xa, .int .i64 xn] 34)).alloc (.cells #[.int .i64 yf, .int .i64 yt, .int .i64 yl, .int .i64 ya, .int .i64 yn] 34)) (w.heap.size + 1) 34 #[.int .i64 yf, .int .i64 yt, .int .i64 yl, .int .i64 ya, .int .i64 yn] := by
    have := Blk.new (w.alloc (.cells #[.int .i64 xf, .int .i64 xt, .int .i64 xl, .int .i64 xa, .int .i64 xn] 34)) 34 #[.int .i64 yf, .int .i64 yt, .int .i64 yl, .int .i64 ya, .int .i64 yn]
    simpa using this
  rw [← hW] at bx by' ⊢
  obtain ⟨⟨x0, x1, x2, x3, x4⟩, _⟩ := Blk.five bx
  obtain ⟨⟨y0, y1, y2, y3, y4⟩, _⟩ := Blk.five by'
  have HW := Lib.hid hW
  clear hW bx by' x4 y4
  refine wp_region_still_tail 32 (by kernel_rfl) (by kernel_rfl) ?_
  simp only [List.take_succ_cons, List.take_zero, List.drop_succ_cons, List.drop_zero]
  iterate 10 still_step
  still_call (CA.out _)
  iterate 10 still_step
  still_call (CB.out _)
  iterate 4 still_step
  still_call (CC.out _)
  iterate 4 still_step
  still_call (CD.out _)
  refine wpStill_nil ?_
  change wpList _ _ _ _ _ W.drew
  clear hm1 hm2 hm3 hm4 x0 x1 x2 x3 y0 y1 y2 y3 CA CB CC CD
  go_wp2_with fail
  refine (or_any A B C D W.heap.size _ (Blk.cell ((Blk.new W 3 #[.int .i64 A, .int .i64 B, .int .i64 C, .int .i64 D]).drew) 0) (Blk.cell ((Blk.new W 3 #[.int .i64 A, .int .i64 B, .int .i64 C, .int .i64 D]).drew) 1) (Blk.cell ((Blk.new W 3 #[.int .i64 A, .int .i64 B, .int .i64 C, .int .i64 D]).drew) 2) (Blk.cell ((Blk.new W 3 #[.int .i64 A, .int .i64 B, .int .i64 C, .int .i64 D]).drew) 3)).mono ?_
  rintro e w1 ⟨rfl, rfl⟩
  go_wp2_with fail
  go_ret
  refine ⟨rfl, 1, #[.cells #[.int .i64 xf, .int .i64 xt, .int .i64 xl, .int .i64 xa, .int .i64 xn] 34, .cells #[.int .i64 yf, .int .i64 yt, .int .i64 yl, .int .i64 ya, .int .i64 yn] 34, .cells #[.int .i64 A, .int .i64 B, .int .i64 C, .int .i64 D] 3], ?_⟩
  have e := HW.out
  clear HW
  subst e
  simp only [alloc_eq_grow, grow_grow]
  rfl
end Go.Proofs.Ytggpdbfkfcoejaa
