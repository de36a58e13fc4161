/-
  SameNets at lists that are one.
-/
import Derived.Test.YtggpdbfkfcoejaaFirstN
import Derived.Deep.QuietTactic
import Derived.BigQuiet
namespace Go.Proofs.Ytggpdbfkfcoejaa
open Go.RowKit

theorem reads_form5 {w : World} {B n : Nat} {A : Option Addr} {xs : List NetD} (h : Reads w B 5 A n (nCells xs)) (hl : xs.length = n) (hn : 0 < n) : ∃ b o, A = some ⟨b, o, none⟩ ∧ b < B ∧ ∀ k (hk : k < xs.length) (j : Nat) (v : Value), j < 5 → (encN xs[k])[j]? = some v → w.cell? ⟨b, o + k * 5 + j, none⟩ = some v := by
  obtain ⟨ad, hA, hb, hc⟩ := h.2 hn
  have h0 := hc 0 _ (by have := nCells_at xs 0 (by omega) 0 (by omega); rw [show 0 * 5 + 0 = 0 from rfl] at this; rw [this]; rfl)
  have hsp := World.cell?_spot h0
  obtain ⟨b, o, s⟩ := ad
  have hs' : s = none := by simpa [Addr.add] using hsp
  subst hs'
  refine ⟨b, o, hA, hb, fun k hk j v hj hv => ?_⟩
  have := hc (k * 5 + j) v (by rw [nCells_at xs k hk j hj]; exact hv)
  rw [Addr.add_lit] at this
  rwa [Nat.add_assoc]

theorem own_len {w : World} {base e size n : Nat} {v : Value} {xs : List Value} (h : w.ownsRow base e size v n xs) : n ≤ 9223372036854775807 := by
  rcases h.2 with ⟨_, rfl⟩ | ⟨g, cap, cur, _, _, _, h1, h2, _⟩
  · omega
  · unfold maxLen at h2; omega
def SameRel (w : World) (n : Nat) (i : Value) (wr : World) : Prop := ∃ k : Nat, k ≤ n ∧ i = .int .i64 k ∧ Below w.heap.size w wr
set_option maxRecDepth 100000 in
set_option maxHeartbeats 4000000 in
theorem samenets_eq (xs : List NetD) (A B : Option Addr) (c d : Nat) (w : World) (ha : Reads w w.heap.size 5 A xs.length (nCells xs)) (hb : Reads w w.heap.size 5 B xs.length (nCells xs)) (hmax : xs.length ≤ 9223372036854775807) :
    Calls Try.prog 10 #[.slice A xs.length c, .slice B xs.length d] w fun e w' => e = .returned (.bool true) ∧ Below w.heap.size w w' := by
  have HA := Lib.hid (reads_form5 ha rfl)
  have HB := Lib.hid (reads_form5 hb rfl)
  clear ha hb
  go_enter Try.func10, Try.ntmps10
  go_wp2_with fail
  go_loopw [5] (fun i wr => SameRel w xs.length i wr) (fun i _ => xs.length - (intOf i).toNat)
  case atStart => exact ⟨0, Nat.zero_le _, rfl, Below.refl _ _⟩
  case round =>
    obtain ⟨k, hk, rfl, hbw⟩ := hrel
    by_cases hlt : k < xs.length
    · obtain ⟨b, o, rfl, hbo, hc⟩ := HA.out (by omega)
      obtain ⟨b', o', rfl, hbo', hc'⟩ := HB.out (by omega)
      have hz := Nat.lt_of_lt_of_le hbo hbw.size
      have hz' := Nat.lt_of_lt_of_le hbo' hbw.size
      have a0 := (hbw.cell (p := ⟨b, o + k * 5, none⟩) hbo).trans (hc k hlt 0 _ (by omega) rfl)
      have a1 := (hbw.cell (p := ⟨b, o + k * 5 + 1, none⟩) hbo).trans (hc k hlt 1 _ (by omega) rfl)
      have a2 := (hbw.cell (p := ⟨b, o + k * 5 + 2, none⟩) hbo).trans (hc k hlt 2 _ (by omega) rfl)
      have a3 := (hbw.cell (p := ⟨b, o + k * 5 + 3, none⟩) hbo).trans (hc k hlt 3 _ (by omega) rfl)
      have a4 := (hbw.cell (p := ⟨b, o + k * 5 + 4, none⟩) hbo).trans (hc k hlt 4 _ (by omega) rfl)
      have b0 := (hbw.cell (p := ⟨b', o' + k * 5, none⟩) hbo').trans (hc' k hlt 0 _ (by omega) rfl)
      have b1 := (hbw.cell (p := ⟨b', o' + k * 5 + 1, none⟩) hbo').trans (hc' k hlt 1 _ (by omega) rfl)
      have b2 := (hbw.cell (p := ⟨b', o' + k * 5 + 2, none⟩) hbo').trans (hc' k hlt 2 _ (by omega) rfl)
      have b3 := (hbw.cell (p := ⟨b', o' + k * 5 + 3, none⟩) hbo').trans (hc' k hlt 3 _ (by omega) rfl)
      have b4 := (hbw.cell (p := ⟨b', o' + k * 5 + 4, none⟩) hbo').trans (hc' k hlt 4 _ (by omega) rfl)
      clear hc hc'
      generalize xs[k] = x at a0 a1 a2 a3 a4 b0 b1 b2 b3 b4
      obtain ⟨xf, xt, xl, xa, xn⟩ := x
      simp only at a0 a1 a2 a3 a4 b0 b1 b2 b3 b4
      have hki : (k : Int) < (xs.length : Int) := by omega
      have hk0 : (0 : Int) ≤ (k : Int) := Int.natCast_nonneg _
      have HBW := Lib.hid hbw
      clear hbw
      go_wp2_with fail
      go_quiet (fail)
      go_wp2_with fail
      go_roundw
      case rel => exact ⟨k + 1, by omega, by go_num, below_drewN HBW.out _⟩
      case measure => simp [intOf]; omega
    · go_wp2_with fail
      go_ret
      exact ⟨rfl, hbw⟩
theorem samenets_two (xs ys : List NetD) (hxy : xs = ys) (A B : Option Addr) (n m c d : Nat) (hn : xs.length = n) (hm : ys.length = m) (w : World) (ha : Reads w w.heap.size 5 A n (nCells xs)) (hb : Reads w w.heap.size 5 B m (nCells ys)) (hmax : n ≤ 9223372036854775807) :
    Calls Try.prog 10 #[.slice A n c, .slice B m d] w fun e w' => e = .returned (.bool true) ∧ Below w.heap.size w w' := by
  subst hxy hn hm
  exact samenets_eq xs A B c d w ha hb hmax
end Go.Proofs.Ytggpdbfkfcoejaa
