/-
  The reference's Has by contract.
-/
import Derived.Test.YthoniedmeeahgaaMayX
namespace Go.Proofs.Ythoniedmeeahgaa
open Go.RowKit Go.Maps

def HasRel (w : World) (xs : List Int) (n : Int) (i : Value) (wr : World) : Prop := ∃ k : Nat, k ≤ xs.length ∧ i = .int .i64 k ∧ wr = w ∧ n ∉ xs.take k
theorem reads_int {w : World} {B : Nat} {A : Option Addr} {xs : List Int} (h : Reads w B 1 A xs.length (iCells xs)) (hn : 0 < xs.length) : ∃ b o, A = some ⟨b, o, none⟩ ∧ b < B ∧ ∀ k (hk : k < xs.length), w.cell? ⟨b, o + k, none⟩ = some (.int .i64 xs[k]) := by
  obtain ⟨ad, hA, hb, hc⟩ := h.2 hn
  have hat : ∀ k (hk : k < xs.length), (iCells xs)[k]? = some (.int .i64 xs[k]) := fun k hk => by simp [iCells, hk]
  have h0 := hc 0 _ (hat 0 hn)
  have hsp := World.cell?_spot h0
  obtain ⟨b, o, s⟩ := ad
  have hs' : s = none := by simpa [Addr.add] using hsp
  subst hs'
  refine ⟨b, o, hA, hb, fun k hk => ?_⟩
  have := hc k _ (hat k hk)
  rwa [Addr.add_lit] at this
set_option maxHeartbeats 2000000 in
theorem has_any (xs : List Int) (A : Option Addr) (c : Nat) (n : Int) (w : World) (ha : Reads w w.heap.size 1 A xs.length (iCells xs)) (hmax : xs.length ≤ 9223372036854775807) :
    Calls Try.prog 38 #[.slice A xs.length c, .int .i64 n] w fun e w' => e = .returned (.bool (decide (n ∈ xs))) ∧ w' = w := by
  have HA := Lib.hid (reads_int ha)
  clear ha
  go_enter Try.func38, Try.ntmps38
  go_wp2_with fail
  go_loopw [5] (fun i wr => HasRel w xs n i wr) (fun i _ => xs.length - (intOf i).toNat)
  case atStart => exact ⟨0, Nat.zero_le _, rfl, rfl, by simp⟩
  case round =>
    obtain ⟨k, hk, rfl, rfl, hno⟩ := hrel
    by_cases hlt : k < xs.length
    · obtain ⟨b, o, rfl, hbo, hc⟩ := HA.out (by omega)
      have a0 := hc k hlt
      have hki : (k : Int) < (xs.length : Int) := by omega
      have hk0 : (0 : Int) ≤ (k : Int) := Int.natCast_nonneg _
      have htk : xs.take (k + 1) = xs.take k ++ [xs[k]] := List.take_succ_eq_append_getElem hlt
      have hmem : xs[k] ∈ xs := List.getElem_mem hlt
      clear hc
      generalize xs[k] = x at a0 htk hmem
      have HTK := Lib.hid htk
      have HM := Lib.hid hmem
      have HNO := Lib.hid hno
      clear htk hmem hno
      by_cases hx : x = n
      · subst hx
        have q : (x == x) = true := by simp
        go_wp2_with fail
        go_ret
        exact ⟨by rw [decide_eq_true HM.out]; rfl, rfl⟩
      · have q : (x == n) = false := by simpa using hx
        have HX := Lib.hid hx
        clear hx
        go_wp2_with fail
        go_roundw
        case rel => exact ⟨k + 1, by omega, by go_num, rfl, by rw [HTK.out]; simp [HNO.out, Ne.symm HX.out]⟩
        case measure => simp [intOf]; omega
    · obtain rfl : k = xs.length := by omega
      rw [List.take_length] at hno
      have HNO := Lib.hid hno
      clear hno
      go_wp2_with fail
      go_ret
      exact ⟨by rw [decide_eq_false HNO.out]; rfl, rfl⟩
end Go.Proofs.Ythoniedmeeahgaa
