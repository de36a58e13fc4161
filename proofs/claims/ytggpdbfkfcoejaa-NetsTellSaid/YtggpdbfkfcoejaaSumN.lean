/-
  gets, Sum, Gross by contract.
-/
import Derived.Test.YtggpdbfkfcoejaaSameN
namespace Go.Proofs.Ytggpdbfkfcoejaa
open Go.RowKit

/-- What a party gets by a net, less what it gives. -/
def getsI (x : NetD) (p l a : Int) : Int := if x.l = l ∧ x.a = a then (if x.t = p then x.n else 0) - (if x.f = p then x.n else 0) else 0
def sumI (xs : List NetD) (p l a : Int) : Int := (xs.map fun x => getsI x p l a).sum
theorem sumI_snoc (xs : List NetD) (x : NetD) (p l a : Int) : sumI (xs ++ [x]) p l a = sumI xs p l a + getsI x p l a := by simp [sumI]
theorem sumI_append (xs ys : List NetD) (p l a : Int) : sumI (xs ++ ys) p l a = sumI xs p l a + sumI ys p l a := by simp [sumI]
def AmtN (x : NetD) : Prop := 0 ≤ x.n ∧ x.n ≤ 4611686018427387904
theorem getsI_bound {x : NetD} (h : AmtN x) (p l a : Int) : -4611686018427387904 ≤ getsI x p l a ∧ getsI x p l a ≤ 4611686018427387904 := by
  obtain ⟨h1, h2⟩ := h
  unfold getsI
  split <;> (try split) <;> (try split) <;> omega

set_option maxHeartbeats 1000000 in
theorem gets_any (x : NetD) (p l a : Int) (w : World) (h : AmtN x) : Calls Try.prog 25 #[.agg #[.int .i64 x.f, .int .i64 x.t, .int .i64 x.l, .int .i64 x.a, .int .i64 x.n], .int .i64 p, .int .i64 l, .int .i64 a] w
    fun e w' => e = .returned (.int .i64 (getsI x p l a)) ∧ Below w.heap.size w w' := by
  obtain ⟨xf, xt, xl, xa, xn⟩ := x
  obtain ⟨h1, h2⟩ := h
  simp only at h1 h2
  by_cases hl : xl = l
  · by_cases ha : xa = a
    · by_cases ht : xt = p
      · by_cases hf : xf = p
        · have hg : getsI ⟨xf, xt, xl, xa, xn⟩ p l a = 0 := by unfold getsI; simp only; rw [if_pos ⟨hl, ha⟩, if_pos ht, if_pos hf]; omega
          have HG := Lib.hid hg
          have d1 : (xl != l) = false := by simp [hl]
          have d2 : (xa != a) = false := by simp [ha]
          have d3 : (xt == p) = true := by simp [ht]
          have d4 : (xf == p) = true := by simp [hf]
          clear hl ha ht hf hg
          go_enter Try.func25, Try.ntmps25
          go_wp2
          go_ret
          exact ⟨by rw [HG.out]; go_num, (Below.refl _ _).alloc (Nat.le_refl _) _⟩
        · have hg : getsI ⟨xf, xt, xl, xa, xn⟩ p l a = xn := by unfold getsI; simp only; rw [if_pos ⟨hl, ha⟩, if_pos ht, if_neg hf]; omega
          have HG := Lib.hid hg
          have d1 : (xl != l) = false := by simp [hl]
          have d2 : (xa != a) = false := by simp [ha]
          have d3 : (xt == p) = true := by simp [ht]
          have d4 : (xf == p) = false := by simp [hf]
          clear hl ha ht hf hg
          go_enter Try.func25, Try.ntmps25
          go_wp2
          go_ret
          exact ⟨by rw [HG.out]; go_num, (Below.refl _ _).alloc (Nat.le_refl _) _⟩
      · by_cases hf : xf = p
        · have hg : getsI ⟨xf, xt, xl, xa, xn⟩ p l a = -xn := by unfold getsI; simp only; rw [if_pos ⟨hl, ha⟩, if_neg ht, if_pos hf]; omega
          have HG := Lib.hid hg
          have d1 : (xl != l) = false := by simp [hl]
          have d2 : (xa != a) = false := by simp [ha]
          have d3 : (xt == p) = false := by simp [ht]
          have d4 : (xf == p) = true := by simp [hf]
          clear hl ha ht hf hg
          go_enter Try.func25, Try.ntmps25
          go_wp2
          go_ret
          exact ⟨by rw [HG.out]; go_num, (Below.refl _ _).alloc (Nat.le_refl _) _⟩
        · have hg : getsI ⟨xf, xt, xl, xa, xn⟩ p l a = 0 := by unfold getsI; simp only; rw [if_pos ⟨hl, ha⟩, if_neg ht, if_neg hf]; omega
          have HG := Lib.hid hg
          have d1 : (xl != l) = false := by simp [hl]
          have d2 : (xa != a) = false := by simp [ha]
          have d3 : (xt == p) = false := by simp [ht]
          have d4 : (xf == p) = false := by simp [hf]
          clear hl ha ht hf hg
          go_enter Try.func25, Try.ntmps25
          go_wp2
          go_ret
          exact ⟨by rw [HG.out]; rfl, (Below.refl _ _).alloc (Nat.le_refl _) _⟩
    · have hg : getsI ⟨xf, xt, xl, xa, xn⟩ p l a = 0 := by unfold getsI; simp only; rw [if_neg (fun h => ha h.2)]
      have HG := Lib.hid hg
      have d1 : (xl != l) = false := by simp [hl]
      have d2 : (xa != a) = true := by simp [ha]
      clear hl ha hg
      go_enter Try.func25, Try.ntmps25
      go_wp2
      go_ret
      exact ⟨by rw [HG.out]; rfl, (Below.refl _ _).alloc (Nat.le_refl _) _⟩
  · have hg : getsI ⟨xf, xt, xl, xa, xn⟩ p l a = 0 := by unfold getsI; simp only; rw [if_neg (fun h => hl h.1)]
    have HG := Lib.hid hg
    have d1 : (xl != l) = true := by simp [hl]
    clear hl hg
    go_enter Try.func25, Try.ntmps25
    go_wp2
    go_ret
    exact ⟨by rw [HG.out]; rfl, (Below.refl _ _).alloc (Nat.le_refl _) _⟩

theorem wrap_add (a b : Int) : IntKind.i64.wrap (IntKind.i64.wrap a + b) = IntKind.i64.wrap (a + b) := by
  rw [IntKind.wrap_i64, IntKind.wrap_i64, IntKind.wrap_i64]
  omega
theorem wrap_zero : IntKind.i64.wrap 0 = 0 := by rw [IntKind.wrap_i64]; rfl
def SumRel (w : World) (xs : List NetD) (p l a : Int) (s i : Value) (wr : World) : Prop :=
  ∃ k : Nat, k ≤ xs.length ∧ i = .int .i64 k ∧ s = .int .i64 (IntKind.i64.wrap (sumI (xs.take k) p l a)) ∧ Below w.heap.size w wr
set_option maxRecDepth 100000 in
set_option maxHeartbeats 2000000 in
theorem sum_any (xs : List NetD) (A : Option Addr) (c : Nat) (p l a : Int) (w : World) (ha : Reads w w.heap.size 5 A xs.length (nCells xs)) (hmax : xs.length ≤ 9223372036854775807) (hamt : ∀ x ∈ xs, AmtN x) :
    Calls Try.prog 15 #[.slice A xs.length c, .int .i64 p, .int .i64 l, .int .i64 a] w fun e w' => e = .returned (.int .i64 (IntKind.i64.wrap (sumI xs p l a))) ∧ Below w.heap.size w w' := by
  have HA := Lib.hid (reads_form5 ha rfl)
  have HM := Lib.hid hamt
  clear ha hamt
  go_enter Try.func15, Try.ntmps15
  go_wp2_with fail
  go_loopw [9, 14] (fun s i wr => SumRel w xs p l a s i wr) (fun _ i _ => xs.length - (intOf i).toNat)
  case atStart => exact ⟨0, Nat.zero_le _, rfl, by show Value.int .i64 0 = .int .i64 (IntKind.i64.wrap 0); rw [wrap_zero], Below.refl _ _⟩
  case round =>
    obtain ⟨k, hk, rfl, rfl, hb⟩ := hrel
    have HB := Lib.hid hb
    clear hb
    by_cases hlt : k < xs.length
    · obtain ⟨b, o, rfl, hbo, hc⟩ := HA.out (by omega)
      have hz := Nat.lt_of_lt_of_le hbo HB.out.size
      have a0 := (HB.out.cell (p := ⟨b, o + k * 5, none⟩) hbo).trans (hc k hlt 0 _ (by omega) rfl)
      have a1 := (HB.out.cell (p := ⟨b, o + k * 5 + 1, none⟩) hbo).trans (hc k hlt 1 _ (by omega) rfl)
      have a2 := (HB.out.cell (p := ⟨b, o + k * 5 + 2, none⟩) hbo).trans (hc k hlt 2 _ (by omega) rfl)
      have a3 := (HB.out.cell (p := ⟨b, o + k * 5 + 3, none⟩) hbo).trans (hc k hlt 3 _ (by omega) rfl)
      have a4 := (HB.out.cell (p := ⟨b, o + k * 5 + 4, none⟩) hbo).trans (hc k hlt 4 _ (by omega) rfl)
      have hx := HM.out xs[k] (List.getElem_mem hlt)
      have htk : sumI (xs.take (k + 1)) p l a = sumI (xs.take k) p l a + getsI xs[k] p l a := by
        rw [List.take_succ_eq_append_getElem hlt, sumI_snoc]
      clear hc
      generalize xs[k] = x at a0 a1 a2 a3 a4 hx htk
      have hadd := wrap_add (sumI (xs.take k) p l a) (getsI x p l a)
      rw [← htk] at hadd
      have HG := Lib.hid fun w' => gets_any x p l a w' hx
      have HTK := Lib.hid htk
      generalize getsI x p l a = g at hadd HG
      obtain ⟨s, hs⟩ : ∃ s, s = IntKind.i64.wrap (sumI (xs.take k) p l a) := ⟨_, rfl⟩
      obtain ⟨s', hs'⟩ : ∃ s, s = IntKind.i64.wrap (sumI (xs.take (k + 1)) p l a) := ⟨_, rfl⟩
      rw [← hs, ← hs'] at hadd
      rw [← hs]
      have HS' := Lib.hid hs'
      have hki : (k : Int) < (xs.length : Int) := by omega
      have hk0 : (0 : Int) ≤ (k : Int) := Int.natCast_nonneg _
      clear htk hx hs hs'
      go_wp2_with fail
      refine (HG.out _).mono ?_
      rintro e w2 ⟨rfl, hb2⟩
      have B2 := Lib.hid ((HB.out.alloc HB.out.size (.cells #[.int .i64 x.f, .int .i64 x.t, .int .i64 x.l, .int .i64 x.a, .int .i64 x.n] 34)).trans (hb2.mono (by have := HB.out.size; simp; omega)))
      clear hb2 a0 a1 a2 a3 a4 HB
      go_wp2_with fail
      go_roundw
      case rel => exact ⟨k + 1, by omega, by go_num, by rw [← HS'.out], B2.out⟩
      case measure => simp [intOf]; omega
    · obtain rfl : k = xs.length := by omega
      have e : sumI (xs.take xs.length) p l a = sumI xs p l a := by rw [List.take_length]
      rw [e]
      clear e
      go_wp2_with fail
      go_ret
      exact ⟨rfl, HB.out⟩
end Go.Proofs.Ytggpdbfkfcoejaa
