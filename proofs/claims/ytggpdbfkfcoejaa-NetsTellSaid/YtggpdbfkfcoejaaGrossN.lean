/-
  Gross by contract.
-/
import Derived.Test.YtggpdbfkfcoejaaSumN
namespace Go.Proofs.Ytggpdbfkfcoejaa
open Go.RowKit

def mvN (t : TrD) : List NetD := [⟨t.b, t.s, 0, t.c, t.p⟩, ⟨t.s, t.b, 1, t.a, t.q⟩]
def mvsN (ts : List TrD) : List NetD := ts.flatMap mvN
theorem mvsN_take (ts : List TrD) (i : Nat) (h : i < ts.length) : mvsN (ts.take (i + 1)) = mvsN (ts.take i) ++ mvN ts[i] := by
  unfold mvsN
  rw [List.take_succ_eq_append_getElem h, List.flatMap_append, List.flatMap_cons, List.flatMap_nil, List.append_nil]
def GrRel (w : World) (ts : List TrD) (p l a : Int) (s i : Value) (wr : World) : Prop :=
  ∃ k : Nat, k ≤ ts.length ∧ i = .int .i64 k ∧ s = .int .i64 (IntKind.i64.wrap (sumI (mvsN (ts.take k)) p l a)) ∧ Below w.heap.size w wr
def GrRel2 (w : World) (L : List NetD) (t : TrD) (p l a : Int) (s i : Value) (wr : World) : Prop :=
  ∃ j : Nat, j ≤ 2 ∧ i = .int .i64 j ∧ s = .int .i64 (IntKind.i64.wrap (sumI (L ++ (mvN t).take j) p l a)) ∧ Below w.heap.size w wr
/-- The trade's amounts are amounts. -/
def AmtM (t : TrD) : Prop := (0 ≤ t.p ∧ t.p ≤ 4611686018427387904) ∧ (0 ≤ t.q ∧ t.q ≤ 4611686018427387904)
set_option maxRecDepth 100000 in
set_option maxHeartbeats 4000000 in
theorem gross_any (t : TrsD) (p l a : Int) (w : World) (ht : t.ok w) (hamt : ∀ x ∈ t.ts, AmtM x) :
    Calls Try.prog 13 #[.slice t.A t.n t.c, .int .i64 p, .int .i64 l, .int .i64 a] w fun e w' => e = .returned (.int .i64 (IntKind.i64.wrap (sumI (mvsN t.ts) p l a))) ∧ Below w.heap.size w w' := by
  have hform := ht.form
  obtain ⟨A, n, c, ts⟩ := t
  obtain ⟨hl, hmax, hread, hwf⟩ := ht
  simp only at hl hmax hform hwf hamt ⊢
  obtain rfl := hl
  unfold maxLen at hmax
  have Hf := Lib.hid hform
  have HA := Lib.hid hamt
  clear hform hread hwf hamt
  go_enter Try.func13, Try.ntmps13
  go_wp2_with fail
  go_loopw [9, 16] (fun s i wr => GrRel w ts p l a s i wr) (fun _ i _ => ts.length - (intOf i).toNat)
  case atStart => exact ⟨0, Nat.zero_le _, rfl, by show Value.int .i64 0 = .int .i64 (IntKind.i64.wrap 0); rw [wrap_zero], Below.refl _ _⟩
  case round =>
    obtain ⟨k, hk, rfl, rfl, hb⟩ := hrel
    have HB := Lib.hid hb
    clear hb
    by_cases hlt : k < ts.length
    · obtain ⟨b, o, rfl, hbo, hcell⟩ := Hf.out (by omega)
      have hsz := Nat.lt_of_lt_of_le hbo HB.out.size
      have hc0 := (HB.out.cell (p := ⟨b, o + k * 7, none⟩) hbo).trans (hcell k hlt 0 _ rfl)
      have hc1 := (HB.out.cell (p := ⟨b, o + k * 7 + 1, none⟩) hbo).trans (hcell k hlt 1 _ rfl)
      have hc2 := (HB.out.cell (p := ⟨b, o + k * 7 + 2, none⟩) hbo).trans (hcell k hlt 2 _ rfl)
      have hc3 := (HB.out.cell (p := ⟨b, o + k * 7 + 3, none⟩) hbo).trans (hcell k hlt 3 _ rfl)
      have hc4 := (HB.out.cell (p := ⟨b, o + k * 7 + 4, none⟩) hbo).trans (hcell k hlt 4 _ rfl)
      have hc5 := (HB.out.cell (p := ⟨b, o + k * 7 + 5, none⟩) hbo).trans (hcell k hlt 5 _ rfl)
      have hc6 := (HB.out.cell (p := ⟨b, o + k * 7 + 6, none⟩) hbo).trans (hcell k hlt 6 _ rfl)
      have hx := HA.out ts[k] (List.getElem_mem hlt)
      have htk := mvsN_take ts k hlt
      clear hcell
      generalize ts[k] = x at hc0 hc1 hc2 hc3 hc4 hc5 hc6 hx htk
      have HX := Lib.hid hx
      have HTK := Lib.hid htk
      have hki : (k : Int) < (ts.length : Int) := by omega
      have hk0 : (0 : Int) ≤ (k : Int) := Int.natCast_nonneg _
      obtain ⟨L, hL⟩ : ∃ L, L = mvsN (ts.take k) := ⟨_, rfl⟩
      rw [← hL] at HTK ⊢
      obtain ⟨s, hs⟩ : ∃ s, s = IntKind.i64.wrap (sumI L p l a) := ⟨_, rfl⟩
      rw [← hs]
      have HS := Lib.hid hs
      clear htk hx hL hs
      go_wp2_with fail
      refine (moves_any x _).mono ?_
      rintro e w1 ⟨rfl, hb1⟩
      have B1 := Lib.hid ((HB.out.alloc HB.out.size (.cells #[.int .i64 x.id, .int .i64 x.b, .int .i64 x.s, .int .i64 x.c, .int .i64 x.p, .int .i64 x.a, .int .i64 x.q] 30)).trans (hb1.mono (by have := HB.out.size; simp; omega)))
      clear hb1 HB hc0 hc1 hc2 hc3 hc4 hc5 hc6
      unfold mvCells
      go_wp2_with fail
      go_loopw [9, 22] (fun s i wr => GrRel2 w L x p l a s i wr) (fun _ i _ => 2 - (intOf i).toNat)
      case atStart => exact ⟨0, by omega, rfl, by rw [HS.out]; simp, B1.out⟩
      case round =>
        obtain ⟨j, hj, rfl, rfl, hb2⟩ := hrel
        have HB2 := Lib.hid hb2
        clear hb2 HS B1
        rcases (show j = 0 ∨ j = 1 ∨ j = 2 by omega) with hj0 | hj1 | hj2
        · subst hj0 -- ARM g0
          have hix := @index_net0
          have hstep : sumI (L ++ (mvN x).take (0 + 1)) p l a = sumI (L ++ (mvN x).take 0) p l a + getsI ⟨x.b, x.s, 0, x.c, x.p⟩ p l a := by
            rw [show (mvN x).take (0 + 1) = (mvN x).take 0 ++ [(⟨x.b, x.s, 0, x.c, x.p⟩ : NetD)] from rfl, ← List.append_assoc, sumI_snoc]
          have hadd := wrap_add (sumI (L ++ (mvN x).take 0) p l a) (getsI ⟨x.b, x.s, 0, x.c, x.p⟩ p l a)
          rw [← hstep] at hadd
          have HG := Lib.hid fun w' => gets_any ⟨x.b, x.s, 0, x.c, x.p⟩ p l a w' HX.out.1
          generalize getsI ⟨x.b, x.s, 0, x.c, x.p⟩ p l a = g at hadd HG
          obtain ⟨s1, hs1⟩ : ∃ s1, s1 = IntKind.i64.wrap (sumI (L ++ (mvN x).take 0) p l a) := ⟨_, rfl⟩
          obtain ⟨s2, hs2⟩ : ∃ s2, s2 = IntKind.i64.wrap (sumI (L ++ (mvN x).take (0 + 1)) p l a) := ⟨_, rfl⟩
          rw [← hs1, ← hs2] at hadd
          rw [← hs1]
          have HS2 := Lib.hid hs2
          clear hstep hs1 hs2
          go_wp2_with fail
          refine (HG.out _).mono ?_
          rintro e w3 ⟨rfl, hb3⟩
          have B3 := Lib.hid ((HB2.out.alloc HB2.out.size (.cells #[.int .i64 x.b, .int .i64 x.s, .int .i64 0, .int .i64 x.c, .int .i64 x.p] 34)).trans (hb3.mono (by have := HB2.out.size; simp; omega)))
          clear hb3 HB2
          go_wp2_with fail
          go_roundw
          case rel => exact ⟨1, by omega, by go_num, by rw [HS2.out], B3.out⟩
          case measure => simp [intOf]
        · subst hj1 -- ARM g1
          have hix := @index_net1
          have hstep : sumI (L ++ (mvN x).take (1 + 1)) p l a = sumI (L ++ (mvN x).take 1) p l a + getsI ⟨x.s, x.b, 1, x.a, x.q⟩ p l a := by
            rw [show (mvN x).take (1 + 1) = (mvN x).take 1 ++ [(⟨x.s, x.b, 1, x.a, x.q⟩ : NetD)] from rfl, ← List.append_assoc, sumI_snoc]
          have hadd := wrap_add (sumI (L ++ (mvN x).take 1) p l a) (getsI ⟨x.s, x.b, 1, x.a, x.q⟩ p l a)
          rw [← hstep] at hadd
          have HG := Lib.hid fun w' => gets_any ⟨x.s, x.b, 1, x.a, x.q⟩ p l a w' HX.out.2
          generalize getsI ⟨x.s, x.b, 1, x.a, x.q⟩ p l a = g at hadd HG
          obtain ⟨s1, hs1⟩ : ∃ s1, s1 = IntKind.i64.wrap (sumI (L ++ (mvN x).take 1) p l a) := ⟨_, rfl⟩
          obtain ⟨s2, hs2⟩ : ∃ s2, s2 = IntKind.i64.wrap (sumI (L ++ (mvN x).take (1 + 1)) p l a) := ⟨_, rfl⟩
          rw [← hs1, ← hs2] at hadd
          rw [← hs1]
          have HS2 := Lib.hid hs2
          clear hstep hs1 hs2
          go_wp2_with fail
          refine (HG.out _).mono ?_
          rintro e w3 ⟨rfl, hb3⟩
          have B3 := Lib.hid ((HB2.out.alloc HB2.out.size (.cells #[.int .i64 x.s, .int .i64 x.b, .int .i64 1, .int .i64 x.a, .int .i64 x.q] 34)).trans (hb3.mono (by have := HB2.out.size; simp; omega)))
          clear hb3 HB2
          go_wp2_with fail
          go_roundw
          case rel => exact ⟨2, by omega, by go_num, by rw [HS2.out], B3.out⟩
          case measure => simp [intOf]
        · subst hj2 -- ARM g2
          have e : L ++ (mvN x).take 2 = mvsN (ts.take (k + 1)) := HTK.out.symm
          rw [e]
          obtain ⟨s2, hs2⟩ : ∃ s2, s2 = IntKind.i64.wrap (sumI (mvsN (ts.take (k + 1))) p l a) := ⟨_, rfl⟩
          rw [← hs2]
          have HS2 := Lib.hid hs2
          clear e hs2
          go_wp2_with fail
          go_roundw
          case rel => exact ⟨k + 1, by omega, by go_num, by rw [HS2.out], HB2.out⟩
          case measure => simp [intOf]; omega
    · obtain rfl : k = ts.length := by omega
      have e : sumI (mvsN (ts.take ts.length)) p l a = sumI (mvsN ts) p l a := by rw [List.take_length]
      rw [e]
      clear e
      go_wp2_with fail
      go_ret
      exact ⟨rfl, HB.out⟩
end Go.Proofs.Ytggpdbfkfcoejaa
