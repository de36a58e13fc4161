/-
  PostKeeps, the plain part: how often each text is under way.
-/
import Derived.Test.YtoiopoebjchjeaaOpsP
import Derived.Test.YtoiopoebjchjeaaSame
import Derived.Laws.BitsLemmas
namespace Go.Proofs.Ytoiopoebjchjeaa
open Go.RowKit

theorem i64_and255 (n : Int) : bits .and .i64 n 255 = n % 256 := by
  have h255 : (BitVec.ofInt 64 255) = BitVec.ofNat 64 255 := rfl
  have : (BitVec.ofInt 64 n &&& BitVec.ofInt 64 255).toNat = (n % 256).toNat := by
    rw [h255, BitVec.toNat_and, BitVec.toNat_ofInt, BitVec.toNat_ofNat, show 255 % 2 ^ 64 = 2 ^ 8 - 1 from rfl, Nat.and_two_pow_sub_one_eq_mod]
    omega
  simp only [bits]
  show IntKind.i64.wrap ((BitVec.ofInt 64 n &&& BitVec.ofInt 64 255).toNat : Int) = n % 256
  rw [this, IntKind.wrap_i64]
  omega

/-- The text that is put under the key k. -/
def keyP (k : Nat) : Pk := ((k : Int), [UInt8.ofNat k, 7])
def keysL (ks : List Nat) : List Pk := ks.map keyP
theorem keysL_length (ks : List Nat) : (keysL ks).length = ks.length := by simp [keysL]
theorem keysL_snoc (ks : List Nat) (k : Nat) : keysL ks ++ [((k : Int), [UInt8.ofNat k, 7])] = keysL (ks ++ [k]) := by simp [keysL, keyP]
theorem keysL_erase (ks : List Nat) (j : Nat) : (keysL ks).eraseIdx j = keysL (ks.eraseIdx j) := by simp [keysL, eraseIdx_map]
theorem keysL_at {ks : List Nat} {j : Nat} (h : j < ks.length) : atL (keysL ks) (j : Int) = keyP ks[j] := by
  rw [atL_in (by rw [keysL_length]; exact h)]
  simp [keysL]
/-- The counts as the law's array holds them. -/
def cntA (ks : List Nat) : Array Value := Array.ofFn (n := 256) fun k => Value.int .i64 (ks.count k.val : Int)
theorem cntA_at (ks : List Nat) {k : Nat} (h : k < 256) : (cntA ks)[k]? = some (.int .i64 (ks.count k : Int)) := by simp [cntA, h]
theorem cntA_set (ks ls : List Nat) {k : Nat} (h : k < 256) (v : Int) (hv : v = (ls.count k : Int)) (hk : ∀ i, i ≠ k → ls.count i = ks.count i) : (cntA ks).setIfInBounds k (.int .i64 v) = cntA ls := by
  subst hv
  apply Array.ext_getElem?
  intro i
  rw [Array.getElem?_setIfInBounds]
  split
  · rename_i e
    subst e
    rw [cntA_at ls h]
    simp [cntA, h]
  · rename_i e
    by_cases hi : i < 256
    · rw [cntA_at ks hi, cntA_at ls hi, hk i (fun e' => e e'.symm)]
    · simp [cntA, hi]
theorem count_snoc (ks : List Nat) (k : Nat) : (ks ++ [k]).count k = ks.count k + 1 := by simp
theorem count_snoc_ne (ks : List Nat) {k i : Nat} (h : i ≠ k) : (ks ++ [k]).count i = ks.count i := by simp [List.count_append, List.count_cons, Ne.symm h]
theorem split_at (ks : List Nat) (j : Nat) (h : j < ks.length) : ks = ks.take j ++ ks[j] :: ks.drop (j + 1) := by
  rw [← List.drop_eq_getElem_cons h, List.take_append_drop]
theorem count_out (ks : List Nat) (j : Nat) (h : j < ks.length) : ks.count ks[j] = (ks.eraseIdx j).count ks[j] + 1 := by
  have e := congrArg (List.count ks[j]) (split_at ks j h)
  rw [List.eraseIdx_eq_take_drop_succ]
  rw [List.count_append, List.count_cons_self] at e
  rw [List.count_append]
  omega
theorem count_out_ne (ks : List Nat) (j : Nat) (h : j < ks.length) {i : Nat} (hi : i ≠ ks[j]) : (ks.eraseIdx j).count i = ks.count i := by
  have e := congrArg (List.count i) (split_at ks j h)
  rw [List.eraseIdx_eq_take_drop_succ]
  rw [List.count_append, List.count_cons_of_ne (Ne.symm hi)] at e
  rw [List.count_append]
  omega
theorem cntA_put (ks : List Nat) {k : Nat} (h : k < 256) : (cntA ks).setIfInBounds k (.int .i64 ((ks.count k : Int) + 1)) = cntA (ks ++ [k]) :=
  cntA_set ks _ h _ (by rw [count_snoc]; omega) (fun i hi => count_snoc_ne ks hi)
theorem cntA_out (ks : List Nat) (j : Nat) (h : j < ks.length) (h2 : ks[j] < 256) : (cntA ks).setIfInBounds ks[j] (.int .i64 ((ks.count ks[j] : Int) - 1)) = cntA (ks.eraseIdx j) :=
  cntA_set ks _ h2 _ (by rw [count_out ks j h]; omega) (fun i hi => count_out_ne ks j h hi)
end Go.Proofs.Ytoiopoebjchjeaa
