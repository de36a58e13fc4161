/-
  SameNets at lists that are one.
-/
import Derived.Test.YthoniedmeeahgaaMayX
namespace Go.Proofs.Ythoniedmeeahgaa
open Go.RowKit Go.Maps

set_option maxRecDepth 100000 in
set_option maxHeartbeats 4000000 in
theorem samenets_eq (xs : List NetD) (A B : Option Addr) (c d : Nat) (w : World) (ha : 0 < xs.length → ∃ b o, A = some ⟨b, o, none⟩ ∧ NetAt w xs b o) (hb : 0 < xs.length → ∃ b o, B = some ⟨b, o, none⟩ ∧ NetAt w xs b o) (hmax : xs.length ≤ 9223372036854775807) :
    Calls Try.prog 12 #[.slice A xs.length c, .slice B xs.length d] w fun e w' => e = .returned (.bool true) ∧ Below w.heap.size w w' := by
  have HA := Lib.hid ha
  have HB := Lib.hid hb
  clear ha hb
  go_enter Try.func12, Try.ntmps12
  go_wp2_with fail
  go_loopw [5] (fun i wr => ∃ k : Nat, k ≤ xs.length ∧ i = .int .i64 k ∧ Below w.heap.size w wr) (fun i _ => xs.length - (intOf i).toNat)
  case atStart => exact ⟨0, Nat.zero_le _, rfl, Below.refl _ _⟩
  case round =>
    obtain ⟨k, hk, rfl, hbw⟩ := hrel
    have hk0 : (0 : Int) ≤ (k : Int) := Int.natCast_nonneg _
    by_cases hlt : k < xs.length
    · obtain ⟨b, o, rfl, hN⟩ := HA.out (by omega)
      obtain ⟨b', o', rfl, hN'⟩ := HB.out (by omega)
      have hz := Nat.lt_of_lt_of_le hN.1 hbw.size
      have hz' := Nat.lt_of_lt_of_le hN'.1 hbw.size
      obtain ⟨a0, a1, a2, a3, a4⟩ := (hN.below hbw).2 k hlt
      obtain ⟨b0, b1, b2, b3, b4⟩ := (hN'.below hbw).2 k hlt
      obtain ⟨x, hx⟩ : ∃ x, x = xs[k] := ⟨_, rfl⟩
      rw [← hx] at a0 a1 a2 a3 a4 b0 b1 b2 b3 b4
      obtain ⟨xf, xt, xl, xa, xn⟩ := x
      simp only at a0 a1 a2 a3 a4 b0 b1 b2 b3 b4
      have hki : (k : Int) < (xs.length : Int) := by omega
      have ek : IntKind.i64.wrap ((k : Int) + 1) = (k : Int) + 1 := by rw [IntKind.wrap_i64]; omega
      have HBW := Lib.hid hbw
      clear hbw hN hN' hx
      go_wp2_with fail
      go_quiet (fail)
      go_wp2_with fail
      exact ⟨⟨k + 1, hlt, rfl, below_drewN HBW.out _⟩, by simp only [intOf]; omega⟩
    · obtain rfl : k = xs.length := by omega
      have hki : ¬ ((xs.length : Int) < (xs.length : Int)) := by omega
      have HBW := Lib.hid hbw
      clear hbw
      go_wp2_with fail
      go_ret
      exact ⟨rfl, HBW.out⟩
theorem samenets_two {xs ys : List NetD} (hxy : xs = ys) (A B : Option Addr) (n m c d : Nat) (hn : xs.length = n) (hm : ys.length = m) (w : World) (ha : 0 < n → ∃ b o, A = some ⟨b, o, none⟩ ∧ NetAt w xs b o) (hb : 0 < m → ∃ b o, B = some ⟨b, o, none⟩ ∧ NetAt w ys b o) (hmax : n ≤ 9223372036854775807) :
    Calls Try.prog 12 #[.slice A n c, .slice B m d] w fun e w' => e = .returned (.bool true) ∧ Below w.heap.size w w' := by
  subst hxy hn hm
  exact samenets_eq xs A B c d w ha hb hmax
end Go.Proofs.Ythoniedmeeahgaa
