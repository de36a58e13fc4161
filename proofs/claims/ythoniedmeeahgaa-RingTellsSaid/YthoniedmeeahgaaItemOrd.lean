/-
  The order of items, by contract.
-/
import Derived.Test.YthoniedmeeahgaaSortE
import Derived.Test.YthoniedmeeahgaaSortItems
import Derived.Test.YthoniedmeeahgaaWebRd
namespace Go.Proofs.Ythoniedmeeahgaa
open Go.RowKit Go.Shelf Go.Lib Go.Sort

def encI3 (x : ItD) : List Value := [.int .i64 x.l, .int .i64 x.a, .int .i64 x.n]
def ordI (x y : ItD) : Int := or2 (compareInt x.l y.l) (compareInt x.a y.a)
set_option maxRecDepth 100000 in
set_option maxHeartbeats 4000000 in
theorem orderI_any (x y : ItD) (w : World) : Calls Try.prog 18 #[.agg #[.int .i64 x.l, .int .i64 x.a, .int .i64 x.n], .agg #[.int .i64 y.l, .int .i64 y.a, .int .i64 y.n]] w
    fun e w' => e = .returned (.int .i64 (ordI x y)) ∧ ∃ q os', w' = grow (w.drewN q) os' := by
  unfold ordI
  obtain ⟨xf, xt, xn⟩ := x
  obtain ⟨yf, yt, yn⟩ := y
  simp only
  generalize hA : compareInt xf yf = A
  generalize hB : compareInt xt yt = B
  have cA : ∀ w', Calls Try.prog 34 #[.int .i64 xf, .int .i64 yf] w' fun e w'' => e = .returned (.int .i64 A) ∧ w'' = w' := fun w' => hA ▸ (cmpc_any _ _ w').mono fun _ _ ⟨a, b⟩ => ⟨a, b.symm⟩
  have cB : ∀ w', Calls Try.prog 34 #[.int .i64 xt, .int .i64 yt] w' fun e w'' => e = .returned (.int .i64 B) ∧ w'' = w' := fun w' => hB ▸ (cmpc_any _ _ w').mono fun _ _ ⟨a, b⟩ => ⟨a, b.symm⟩
  have CA := Lib.hid cA
  have CB := Lib.hid cB
  clear cA cB hA hB
  go_enter Try.func18, Try.ntmps18
  go_wp2_with fail
  obtain ⟨W, hW⟩ : ∃ W, W = (w.alloc (.cells #[.int .i64 xf, .int .i64 xt, .int .i64 xn] 35)).alloc (.cells #[.int .i64 yf, .int .i64 yt, .int .i64 yn] 35) := ⟨_, rfl⟩
  have bx := (Blk.new w 35 #[.int .i64 xf, .int .i64 xt, .int .i64 xn]).alloc (.cells #[.int .i64 yf, .int .i64 yt, .int .i64 yn] 35)
  have by' : Blk ((w.alloc (.cells #[.int .i64 xf, .int .i64 xt, .int .i64 xn] 35)).alloc (.cells #[.int .i64 yf, .int .i64 yt, .int .i64 yn] 35)) (w.heap.size + 1) 35 #[.int .i64 yf, .int .i64 yt, .int .i64 yn] := by
    have := Blk.new (w.alloc (.cells #[.int .i64 xf, .int .i64 xt, .int .i64 xn] 35)) 35 #[.int .i64 yf, .int .i64 yt, .int .i64 yn]
    simpa using this
  rw [← hW] at bx by' ⊢
  have x0 := bx.cell 0
  have x1 := bx.cell 1
  have y0 := by'.cell 0
  have y1 := by'.cell 1
  simp at x0 x1 y0 y1
  have HW := Lib.hid hW
  clear hW bx by'
  refine wp_region_still_tail 10 (by kernel_rfl) (by kernel_rfl) ?_
  simp only [List.take_succ_cons, List.take_zero, List.drop_succ_cons, List.drop_zero]
  iterate 4 still_step
  still_call (CA.out _)
  iterate 4 still_step
  still_call (CB.out _)
  refine wpStill_nil ?_
  change wpList _ _ _ _ _ W.drew
  clear x0 x1 y0 y1 CA CB
  go_wp2_with fail
  refine (or_any A B W.heap.size _ (Blk.cell ((Blk.new W 3 #[.int .i64 A, .int .i64 B]).drew) 0) (Blk.cell ((Blk.new W 3 #[.int .i64 A, .int .i64 B]).drew) 1)).mono ?_
  rintro e w1 ⟨rfl, rfl⟩
  go_wp2_with fail
  go_ret
  refine ⟨rfl, 1, #[.cells #[.int .i64 xf, .int .i64 xt, .int .i64 xn] 35, .cells #[.int .i64 yf, .int .i64 yt, .int .i64 yn] 35, .cells #[.int .i64 A, .int .i64 B] 3], ?_⟩
  have e := HW.out
  clear HW
  subst e
  simp only [alloc_eq_grow, grow_grow]
  rfl
end Go.Proofs.Ythoniedmeeahgaa
