/-
  SameParcel by contract.
-/
import Derived.Test.YtoiopoebjchjeaaPostE
namespace Go.Proofs.Ytoiopoebjchjeaa
open Go.RowKit

set_option maxHeartbeats 1000000 in
theorem samep_any (a b : Int) (A B : Option Addr) (c d : Nat) (xs ys : List UInt8) (w : World) (ha : Reads w w.heap.size 1 A xs.length (bv xs)) (hb : Reads w w.heap.size 1 B ys.length (bv ys)) :
    Calls Try.prog 15 #[.agg #[.int .i64 a, .slice A xs.length c], .agg #[.int .i64 b, .slice B ys.length d]] w fun e w' => e = .returned (.bool (decide (a = b) && (xs == ys))) ∧ Below w.heap.size w w' := by
  by_cases h : a = b
  · subst h
    go_enter Try.func15, Try.ntmps15
    go_wp2_with fail
    refine (beqs_any A B xs.length c ys.length d xs ys _ ((((ha.alloc (Nat.le_refl _) _).alloc (by simp) _)).more (by simp; omega)) ((((hb.alloc (Nat.le_refl _) _).alloc (by simp) _)).more (by simp; omega))).mono ?_
    rintro e w' ⟨rfl, rfl⟩
    go_wp2_with fail
    go_ret
    exact ⟨by simp, ((Below.refl _ _).alloc (Nat.le_refl _) _).alloc (by simp) _⟩
  · have h' : (a == b) = false := by simpa using h
    go_enter Try.func15, Try.ntmps15
    go_wp2_with fail
    go_ret
    exact ⟨by simp [h], ((Below.refl _ _).alloc (Nat.le_refl _) _).alloc (by simp) _⟩
end Go.Proofs.Ytoiopoebjchjeaa
