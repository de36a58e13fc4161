/-
  The order of edges by contract; slices.SortFunc at edges: a sorted permutation.
-/
import Derived.Test.YthoniedmeeahgaaCollectE
import Derived.Test.YthoniedmeeahgaaSortEdges
import Derived.Test.YthoniedmeeahgaaFr
import Derived.BigRegion
import Derived.StillTailTactics
import Derived.LoopTactic
namespace Go.Proofs.Ythoniedmeeahgaa
open Go.RowKit Go.Shelf Go.Lib Go.Sort

instance : Inhabited EdD := ⟨⟨0, 0⟩⟩
def encE (x : EdD) : List Value := [.int .i64 x.f, .int .i64 x.t]
def or2 (a b : Int) : Int := if a ≠ 0 then a else b
def ordE (x y : EdD) : Int := or2 (compareInt x.f y.f) (compareInt x.t y.t)
set_option maxHeartbeats 1000000 in
theorem cmpc_any (x y : Int) (w : World) : Calls Try.prog 34 #[.int .i64 x, .int .i64 y] w fun e w' => e = .returned (.int .i64 (compareInt x y)) ∧ w = w' := by
  unfold compareInt
  have h0 : (x != x) = false := bne_self_eq_false x
  have h1 : (y != y) = false := bne_self_eq_false y
  by_cases hlt : x < y
  · have d1 : decide (x < y) = true := decide_eq_true hlt
    have Hl := Lib.hid hlt
    clear hlt
    rw [if_pos Hl.out]
    go_enter Try.func34, Try.ntmps34
    go_wp2
    go_ret
    exact ⟨rfl, rfl⟩
  · have d1 : decide (x < y) = false := decide_eq_false hlt
    by_cases hgt : y < x
    · have d2 : decide (y < x) = true := decide_eq_true hgt
      have Hl := Lib.hid hlt
      have Hg := Lib.hid hgt
      clear hlt hgt
      rw [if_neg Hl.out, if_pos Hg.out]
      go_enter Try.func34, Try.ntmps34
      go_wp2
      go_ret
      exact ⟨rfl, rfl⟩
    · have d2 : decide (y < x) = false := decide_eq_false hgt
      have Hl := Lib.hid hlt
      have Hg := Lib.hid hgt
      clear hlt hgt
      rw [if_neg Hl.out, if_neg Hg.out]
      go_enter Try.func34, Try.ntmps34
      go_wp2
      go_ret
      exact ⟨rfl, rfl⟩
def OrRel (w : World) (a b : Int) (i : Value) (wr : World) : Prop :=
  ∃ k : Nat, k ≤ 2 ∧ i = .int .i64 k ∧ wr = w ∧ (0 < k → a = 0) ∧ (1 < k → b = 0)
set_option maxHeartbeats 1000000 in
theorem or_any (a b : Int) (g : Nat) (w : World) (h0 : w.cell? ⟨g, 0, none⟩ = some (.int .i64 a)) (h1 : w.cell? ⟨g, 1, none⟩ = some (.int .i64 b)) :
    Calls Try.prog 33 #[.slice (some ⟨g, 0, none⟩) 2 2] w fun e w' => e = .returned (.int .i64 (or2 a b)) ∧ w = w' := by
  go_enter Try.func33, Try.ntmps33
  go_wp2_with fail
  go_loopw [8] (fun i wr => OrRel w a b i wr) (fun i _ => 2 - (intOf i).toNat)
  case atStart => exact ⟨0, by omega, rfl, rfl, by simp, by simp⟩
  case round =>
    obtain ⟨k, hk, rfl, rfl, z0, z1⟩ := hrel
    rcases (show k = 0 ∨ k = 1 ∨ k = 2 by omega) with rfl | rfl | rfl
    · clear z0 z1
      by_cases h : a = 0
      · have hd : (a != 0) = false := by simp [h]
        have H := Lib.hid h
        clear h
        go_wp2_with fail
        go_roundw
        case rel => exact ⟨1, by omega, by go_num, rfl, fun _ => H.out, by simp⟩
        case measure => simp [intOf]
      · have hd : (a != 0) = true := by simp [h]
        have H := Lib.hid h
        clear h
        go_wp2_with fail
        go_ret
        exact ⟨by unfold or2; rw [if_pos H.out]; rfl, rfl⟩
    · have Z0 := Lib.hid (z0 (by omega))
      clear z0 z1
      by_cases h : b = 0
      · have hd : (b != 0) = false := by simp [h]
        have H := Lib.hid h
        clear h
        go_wp2_with fail
        go_roundw
        case rel => exact ⟨2, by omega, by go_num, rfl, fun _ => Z0.out, fun _ => H.out⟩
        case measure => simp [intOf]
      · have hd : (b != 0) = true := by simp [h]
        have H := Lib.hid h
        clear h
        go_wp2_with fail
        go_ret
        exact ⟨by unfold or2; rw [if_neg (by simp [Z0.out])]; rfl, rfl⟩
    · have Z0 := Lib.hid (z0 (by omega))
      have Z1 := Lib.hid (z1 (by omega))
      clear z0 z1
      go_wp2_with fail
      go_ret
      exact ⟨by unfold or2; rw [if_neg (by simp [Z0.out]), Z1.out]; rfl, rfl⟩

set_option maxRecDepth 100000 in
set_option maxHeartbeats 4000000 in
theorem orderE_any (x y : EdD) (w : World) : Calls Try.prog 45 #[.agg #[.int .i64 x.f, .int .i64 x.t], .agg #[.int .i64 y.f, .int .i64 y.t]] w
    fun e w' => e = .returned (.int .i64 (ordE x y)) ∧ ∃ q os', w' = grow (w.drewN q) os' := by
  unfold ordE
  obtain ⟨xf, xt⟩ := x
  obtain ⟨yf, yt⟩ := y
  simp only
  generalize hA : compareInt xf yf = A
  generalize hB : compareInt xt yt = B
  have cA : ∀ w', Calls Try.prog 34 #[.int .i64 xf, .int .i64 yf] w' fun e w'' => e = .returned (.int .i64 A) ∧ w'' = w' := fun w' => hA ▸ (cmpc_any _ _ w').mono fun _ _ ⟨a, b⟩ => ⟨a, b.symm⟩
  have cB : ∀ w', Calls Try.prog 34 #[.int .i64 xt, .int .i64 yt] w' fun e w'' => e = .returned (.int .i64 B) ∧ w'' = w' := fun w' => hB ▸ (cmpc_any _ _ w').mono fun _ _ ⟨a, b⟩ => ⟨a, b.symm⟩
  have CA := Lib.hid cA
  have CB := Lib.hid cB
  clear cA cB hA hB
  go_enter Try.func45, Try.ntmps45
  go_wp2_with fail
  obtain ⟨W, hW⟩ : ∃ W, W = (w.alloc (.cells #[.int .i64 xf, .int .i64 xt] 47)).alloc (.cells #[.int .i64 yf, .int .i64 yt] 47) := ⟨_, rfl⟩
  have bx := (Blk.new w 47 #[.int .i64 xf, .int .i64 xt]).alloc (.cells #[.int .i64 yf, .int .i64 yt] 47)
  have by' : Blk ((w.alloc (.cells #[.int .i64 xf, .int .i64 xt] 47)).alloc (.cells #[.int .i64 yf, .int .i64 yt] 47)) (w.heap.size + 1) 47 #[.int .i64 yf, .int .i64 yt] := by
    have := Blk.new (w.alloc (.cells #[.int .i64 xf, .int .i64 xt] 47)) 47 #[.int .i64 yf, .int .i64 yt]
    simpa using this
  rw [← hW] at bx by' ⊢
  have x0 := bx.cell 0
  have x1 := bx.cell 1
  have y0 := by'.cell 0
  have y1 := by'.cell 1
  simp at x0 x1 y0 y1
  have HW := Lib.hid hW
  clear hW bx by'
  refine wp_region_still_tail 10 (by kernel_rfl) (by kernel_rfl) ?_
  simp only [List.take_succ_cons, List.take_zero, List.drop_succ_cons, List.drop_zero]
  iterate 4 still_step
  still_call (CA.out _)
  iterate 4 still_step
  still_call (CB.out _)
  refine wpStill_nil ?_
  change wpList _ _ _ _ _ W.drew
  clear x0 x1 y0 y1 CA CB
  go_wp2_with fail
  refine (or_any A B W.heap.size _ (Blk.cell ((Blk.new W 3 #[.int .i64 A, .int .i64 B]).drew) 0) (Blk.cell ((Blk.new W 3 #[.int .i64 A, .int .i64 B]).drew) 1)).mono ?_
  rintro e w1 ⟨rfl, rfl⟩
  go_wp2_with fail
  go_ret
  refine ⟨rfl, 1, #[.cells #[.int .i64 xf, .int .i64 xt] 47, .cells #[.int .i64 yf, .int .i64 yt] 47, .cells #[.int .i64 A, .int .i64 B] 3], ?_⟩
  have e := HW.out
  clear HW
  subst e
  simp only [alloc_eq_grow, grow_grow]
  rfl
end Go.Proofs.Ythoniedmeeahgaa
