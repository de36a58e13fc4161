/-
  Plain by contract.
-/
import Derived.Test.YtggpdbfkfcoejaaSameN
namespace Go.Proofs.Ytggpdbfkfcoejaa
open Go.RowKit

def plainT (x : TrD) : Prop := ¬ x.b < 0 ∧ ¬ 15 < x.b ∧ ¬ x.s < 0 ∧ ¬ 15 < x.s ∧ ¬ x.b = x.s ∧ ¬ x.c < 0 ∧ ¬ 3 < x.c ∧ ¬ x.a < 0 ∧ ¬ 3 < x.a ∧ ¬ x.p < 1 ∧ ¬ 1099511627776 < x.p ∧ ¬ x.q < 1 ∧ ¬ 1099511627776 < x.q
theorem not_plain {x : TrD} (h : ¬ plainT x) : (x.b < 0) ∨ (¬ x.b < 0 ∧ 15 < x.b) ∨ (¬ x.b < 0 ∧ ¬ 15 < x.b ∧ x.s < 0) ∨ (¬ x.b < 0 ∧ ¬ 15 < x.b ∧ ¬ x.s < 0 ∧ 15 < x.s) ∨ (¬ x.b < 0 ∧ ¬ 15 < x.b ∧ ¬ x.s < 0 ∧ ¬ 15 < x.s ∧ x.b = x.s) ∨ (¬ x.b < 0 ∧ ¬ 15 < x.b ∧ ¬ x.s < 0 ∧ ¬ 15 < x.s ∧ ¬ x.b = x.s ∧ x.c < 0) ∨ (¬ x.b < 0 ∧ ¬ 15 < x.b ∧ ¬ x.s < 0 ∧ ¬ 15 < x.s ∧ ¬ x.b = x.s ∧ ¬ x.c < 0 ∧ 3 < x.c) ∨ (¬ x.b < 0 ∧ ¬ 15 < x.b ∧ ¬ x.s < 0 ∧ ¬ 15 < x.s ∧ ¬ x.b = x.s ∧ ¬ x.c < 0 ∧ ¬ 3 < x.c ∧ x.a < 0) ∨ (¬ x.b < 0 ∧ ¬ 15 < x.b ∧ ¬ x.s < 0 ∧ ¬ 15 < x.s ∧ ¬ x.b = x.s ∧ ¬ x.c < 0 ∧ ¬ 3 < x.c ∧ ¬ x.a < 0 ∧ 3 < x.a) ∨ (¬ x.b < 0 ∧ ¬ 15 < x.b ∧ ¬ x.s < 0 ∧ ¬ 15 < x.s ∧ ¬ x.b = x.s ∧ ¬ x.c < 0 ∧ ¬ 3 < x.c ∧ ¬ x.a < 0 ∧ ¬ 3 < x.a ∧ x.p < 1) ∨ (¬ x.b < 0 ∧ ¬ 15 < x.b ∧ ¬ x.s < 0 ∧ ¬ 15 < x.s ∧ ¬ x.b = x.s ∧ ¬ x.c < 0 ∧ ¬ 3 < x.c ∧ ¬ x.a < 0 ∧ ¬ 3 < x.a ∧ ¬ x.p < 1 ∧ 1099511627776 < x.p) ∨ (¬ x.b < 0 ∧ ¬ 15 < x.b ∧ ¬ x.s < 0 ∧ ¬ 15 < x.s ∧ ¬ x.b = x.s ∧ ¬ x.c < 0 ∧ ¬ 3 < x.c ∧ ¬ x.a < 0 ∧ ¬ 3 < x.a ∧ ¬ x.p < 1 ∧ ¬ 1099511627776 < x.p ∧ x.q < 1) ∨ (¬ x.b < 0 ∧ ¬ 15 < x.b ∧ ¬ x.s < 0 ∧ ¬ 15 < x.s ∧ ¬ x.b = x.s ∧ ¬ x.c < 0 ∧ ¬ 3 < x.c ∧ ¬ x.a < 0 ∧ ¬ 3 < x.a ∧ ¬ x.p < 1 ∧ ¬ 1099511627776 < x.p ∧ ¬ x.q < 1 ∧ 1099511627776 < x.q) := by
  by_cases m0 : x.b < 0
  · exact .inl m0
  by_cases m1 : 15 < x.b
  · exact .inr (.inl ⟨m0, m1⟩)
  by_cases m2 : x.s < 0
  · exact .inr (.inr (.inl ⟨m0, m1, m2⟩))
  by_cases m3 : 15 < x.s
  · exact .inr (.inr (.inr (.inl ⟨m0, m1, m2, m3⟩)))
  by_cases m4 : x.b = x.s
  · exact .inr (.inr (.inr (.inr (.inl ⟨m0, m1, m2, m3, m4⟩))))
  by_cases m5 : x.c < 0
  · exact .inr (.inr (.inr (.inr (.inr (.inl ⟨m0, m1, m2, m3, m4, m5⟩)))))
  by_cases m6 : 3 < x.c
  · exact .inr (.inr (.inr (.inr (.inr (.inr (.inl ⟨m0, m1, m2, m3, m4, m5, m6⟩))))))
  by_cases m7 : x.a < 0
  · exact .inr (.inr (.inr (.inr (.inr (.inr (.inr (.inl ⟨m0, m1, m2, m3, m4, m5, m6, m7⟩)))))))
  by_cases m8 : 3 < x.a
  · exact .inr (.inr (.inr (.inr (.inr (.inr (.inr (.inr (.inl ⟨m0, m1, m2, m3, m4, m5, m6, m7, m8⟩))))))))
  by_cases m9 : x.p < 1
  · exact .inr (.inr (.inr (.inr (.inr (.inr (.inr (.inr (.inr (.inl ⟨m0, m1, m2, m3, m4, m5, m6, m7, m8, m9⟩)))))))))
  by_cases m10 : 1099511627776 < x.p
  · exact .inr (.inr (.inr (.inr (.inr (.inr (.inr (.inr (.inr (.inr (.inl ⟨m0, m1, m2, m3, m4, m5, m6, m7, m8, m9, m10⟩))))))))))
  by_cases m11 : x.q < 1
  · exact .inr (.inr (.inr (.inr (.inr (.inr (.inr (.inr (.inr (.inr (.inr (.inl ⟨m0, m1, m2, m3, m4, m5, m6, m7, m8, m9, m10, m11⟩)))))))))))
  by_cases m12 : 1099511627776 < x.q
  · exact .inr (.inr (.inr (.inr (.inr (.inr (.inr (.inr (.inr (.inr (.inr (.inr (⟨m0, m1, m2, m3, m4, m5, m6, m7, m8, m9, m10, m11, m12⟩))))))))))))
  exact absurd ⟨m0, m1, m2, m3, m4, m5, m6, m7, m8, m9, m10, m11, m12⟩ h
def PlainRel (w : World) (ts : List TrD) (i : Value) (wr : World) : Prop := ∃ k : Nat, k ≤ ts.length ∧ i = .int .i64 k ∧ (∀ x ∈ ts.take k, plainT x) ∧ Below w.heap.size w wr

set_option maxRecDepth 100000 in
set_option maxHeartbeats 8000000 in
theorem plain_any (t : TrsD) (w : World) (ht : t.ok w) : Calls Try.prog 8 #[.slice t.A t.n t.c] w fun e w' => ((∀ x ∈ t.ts, plainT x) → e = .returned (.bool true)) ∧ ((¬ ∀ x ∈ t.ts, plainT x) → e = .returned (.bool false)) ∧ Below w.heap.size w w' := by
  have hform := ht.form
  obtain ⟨A, n, c, ts⟩ := t
  obtain ⟨hl, hmax, hread, hwf⟩ := ht
  simp only at hl hmax hform hwf ⊢
  obtain rfl := hl
  unfold maxLen at hmax
  have Hf := Lib.hid hform
  clear hform hread hwf
  go_enter Try.func8, Try.ntmps8
  go_wp2_with fail
  go_loopw [3] (fun i wr => PlainRel w ts i wr) (fun i _ => ts.length - (intOf i).toNat)
  case atStart => exact ⟨0, Nat.zero_le _, rfl, by simp, Below.refl _ _⟩
  case round =>
    obtain ⟨k, hk, rfl, hp, hb⟩ := hrel
    have HP := Lib.hid hp
    have HB := Lib.hid hb
    clear hp hb
    by_cases hlt : k < ts.length
    · obtain ⟨b, o, rfl, hbo, hcell⟩ := Hf.out (by omega)
      have hsz := Nat.lt_of_lt_of_le hbo HB.out.size
      have hc0 := (HB.out.cell (p := ⟨b, o + k * 7, none⟩) hbo).trans (hcell k hlt 0 _ rfl)
      have hc1 := (HB.out.cell (p := ⟨b, o + k * 7 + 1, none⟩) hbo).trans (hcell k hlt 1 _ rfl)
      have hc2 := (HB.out.cell (p := ⟨b, o + k * 7 + 2, none⟩) hbo).trans (hcell k hlt 2 _ rfl)
      have hc3 := (HB.out.cell (p := ⟨b, o + k * 7 + 3, none⟩) hbo).trans (hcell k hlt 3 _ rfl)
      have hc4 := (HB.out.cell (p := ⟨b, o + k * 7 + 4, none⟩) hbo).trans (hcell k hlt 4 _ rfl)
      have hc5 := (HB.out.cell (p := ⟨b, o + k * 7 + 5, none⟩) hbo).trans (hcell k hlt 5 _ rfl)
      have hc6 := (HB.out.cell (p := ⟨b, o + k * 7 + 6, none⟩) hbo).trans (hcell k hlt 6 _ rfl)
      have hmem : ts[k] ∈ ts := List.getElem_mem hlt
      have htk : ts.take (k + 1) = ts.take k ++ [ts[k]] := List.take_succ_eq_append_getElem hlt
      clear hcell
      generalize ts[k] = x at hc0 hc1 hc2 hc3 hc4 hc5 hc6 hmem htk
      have HM := Lib.hid hmem
      have HT := Lib.hid htk
      clear hmem htk
      have hki : (k : Int) < (ts.length : Int) := by omega
      have hk0 : (0 : Int) ≤ (k : Int) := Int.natCast_nonneg _
      by_cases hx : plainT x
      · have HX := Lib.hid hx -- ARM yes
        unfold plainT at hx
        obtain ⟨m0, m1, m2, m3, m4, m5, m6, m7, m8, m9, m10, m11, m12⟩ := hx
        have a0 : decide (x.b < 0) = false := decide_eq_false m0
        have a1 : decide (15 < x.b) = false := decide_eq_false m1
        have a2 : decide (x.s < 0) = false := decide_eq_false m2
        have a3 : decide (15 < x.s) = false := decide_eq_false m3
        have a4 : (x.b == x.s) = false := by simpa using m4
        have a5 : decide (x.c < 0) = false := decide_eq_false m5
        have a6 : decide (3 < x.c) = false := decide_eq_false m6
        have a7 : decide (x.a < 0) = false := decide_eq_false m7
        have a8 : decide (3 < x.a) = false := decide_eq_false m8
        have a9 : decide (x.p < 1) = false := decide_eq_false m9
        have a10 : decide (1099511627776 < x.p) = false := decide_eq_false m10
        have a11 : decide (x.q < 1) = false := decide_eq_false m11
        have a12 : decide (1099511627776 < x.q) = false := decide_eq_false m12
        clear m0 m1 m2 m3 m4 m5 m6 m7 m8 m9 m10 m11 m12
        go_wp2_with fail
        go_roundw
        case rel =>
          refine ⟨k + 1, by omega, by go_num, fun y hy => ?_, HB.out.alloc HB.out.size _⟩
          rw [HT.out] at hy
          rcases List.mem_append.1 hy with hy | hy
          · exact HP.out y hy
          · simp at hy
            subst hy
            exact HX.out
        case measure => simp [intOf]; omega
      · have hno := not_plain hx -- ARM no
        have HX := Lib.hid hx
        clear hx
        rcases hno with m0 | ⟨m0, m1⟩ | ⟨m0, m1, m2⟩ | ⟨m0, m1, m2, m3⟩ | ⟨m0, m1, m2, m3, m4⟩ | ⟨m0, m1, m2, m3, m4, m5⟩ | ⟨m0, m1, m2, m3, m4, m5, m6⟩ | ⟨m0, m1, m2, m3, m4, m5, m6, m7⟩ | ⟨m0, m1, m2, m3, m4, m5, m6, m7, m8⟩ | ⟨m0, m1, m2, m3, m4, m5, m6, m7, m8, m9⟩ | ⟨m0, m1, m2, m3, m4, m5, m6, m7, m8, m9, m10⟩ | ⟨m0, m1, m2, m3, m4, m5, m6, m7, m8, m9, m10, m11⟩ | ⟨m0, m1, m2, m3, m4, m5, m6, m7, m8, m9, m10, m11, m12⟩
        · have a0 : decide (x.b < 0) = true := decide_eq_true m0
          clear m0
          go_wp2_with fail
          go_ret
          exact ⟨fun h => absurd (h x HM.out) HX.out, fun _ => rfl, HB.out.alloc HB.out.size _⟩
        · have a0 : decide (x.b < 0) = false := decide_eq_false m0
          have a1 : decide (15 < x.b) = true := decide_eq_true m1
          clear m0 m1
          go_wp2_with fail
          go_ret
          exact ⟨fun h => absurd (h x HM.out) HX.out, fun _ => rfl, HB.out.alloc HB.out.size _⟩
        · have a0 : decide (x.b < 0) = false := decide_eq_false m0
          have a1 : decide (15 < x.b) = false := decide_eq_false m1
          have a2 : decide (x.s < 0) = true := decide_eq_true m2
          clear m0 m1 m2
          go_wp2_with fail
          go_ret
          exact ⟨fun h => absurd (h x HM.out) HX.out, fun _ => rfl, HB.out.alloc HB.out.size _⟩
        · have a0 : decide (x.b < 0) = false := decide_eq_false m0
          have a1 : decide (15 < x.b) = false := decide_eq_false m1
          have a2 : decide (x.s < 0) = false := decide_eq_false m2
          have a3 : decide (15 < x.s) = true := decide_eq_true m3
          clear m0 m1 m2 m3
          go_wp2_with fail
          go_ret
          exact ⟨fun h => absurd (h x HM.out) HX.out, fun _ => rfl, HB.out.alloc HB.out.size _⟩
        · have a0 : decide (x.b < 0) = false := decide_eq_false m0
          have a1 : decide (15 < x.b) = false := decide_eq_false m1
          have a2 : decide (x.s < 0) = false := decide_eq_false m2
          have a3 : decide (15 < x.s) = false := decide_eq_false m3
          have a4 : (x.b == x.s) = true := by simpa using m4
          clear m0 m1 m2 m3 m4
          go_wp2_with fail
          go_ret
          exact ⟨fun h => absurd (h x HM.out) HX.out, fun _ => rfl, HB.out.alloc HB.out.size _⟩
        · have a0 : decide (x.b < 0) = false := decide_eq_false m0
          have a1 : decide (15 < x.b) = false := decide_eq_false m1
          have a2 : decide (x.s < 0) = false := decide_eq_false m2
          have a3 : decide (15 < x.s) = false := decide_eq_false m3
          have a4 : (x.b == x.s) = false := by simpa using m4
          have a5 : decide (x.c < 0) = true := decide_eq_true m5
          clear m0 m1 m2 m3 m4 m5
          go_wp2_with fail
          go_ret
          exact ⟨fun h => absurd (h x HM.out) HX.out, fun _ => rfl, HB.out.alloc HB.out.size _⟩
        · have a0 : decide (x.b < 0) = false := decide_eq_false m0
          have a1 : decide (15 < x.b) = false := decide_eq_false m1
          have a2 : decide (x.s < 0) = false := decide_eq_false m2
          have a3 : decide (15 < x.s) = false := decide_eq_false m3
          have a4 : (x.b == x.s) = false := by simpa using m4
          have a5 : decide (x.c < 0) = false := decide_eq_false m5
          have a6 : decide (3 < x.c) = true := decide_eq_true m6
          clear m0 m1 m2 m3 m4 m5 m6
          go_wp2_with fail
          go_ret
          exact ⟨fun h => absurd (h x HM.out) HX.out, fun _ => rfl, HB.out.alloc HB.out.size _⟩
        · have a0 : decide (x.b < 0) = false := decide_eq_false m0
          have a1 : decide (15 < x.b) = false := decide_eq_false m1
          have a2 : decide (x.s < 0) = false := decide_eq_false m2
          have a3 : decide (15 < x.s) = false := decide_eq_false m3
          have a4 : (x.b == x.s) = false := by simpa using m4
          have a5 : decide (x.c < 0) = false := decide_eq_false m5
          have a6 : decide (3 < x.c) = false := decide_eq_false m6
          have a7 : decide (x.a < 0) = true := decide_eq_true m7
          clear m0 m1 m2 m3 m4 m5 m6 m7
          go_wp2_with fail
          go_ret
          exact ⟨fun h => absurd (h x HM.out) HX.out, fun _ => rfl, HB.out.alloc HB.out.size _⟩
        · have a0 : decide (x.b < 0) = false := decide_eq_false m0
          have a1 : decide (15 < x.b) = false := decide_eq_false m1
          have a2 : decide (x.s < 0) = false := decide_eq_false m2
          have a3 : decide (15 < x.s) = false := decide_eq_false m3
          have a4 : (x.b == x.s) = false := by simpa using m4
          have a5 : decide (x.c < 0) = false := decide_eq_false m5
          have a6 : decide (3 < x.c) = false := decide_eq_false m6
          have a7 : decide (x.a < 0) = false := decide_eq_false m7
          have a8 : decide (3 < x.a) = true := decide_eq_true m8
          clear m0 m1 m2 m3 m4 m5 m6 m7 m8
          go_wp2_with fail
          go_ret
          exact ⟨fun h => absurd (h x HM.out) HX.out, fun _ => rfl, HB.out.alloc HB.out.size _⟩
        · have a0 : decide (x.b < 0) = false := decide_eq_false m0
          have a1 : decide (15 < x.b) = false := decide_eq_false m1
          have a2 : decide (x.s < 0) = false := decide_eq_false m2
          have a3 : decide (15 < x.s) = false := decide_eq_false m3
          have a4 : (x.b == x.s) = false := by simpa using m4
          have a5 : decide (x.c < 0) = false := decide_eq_false m5
          have a6 : decide (3 < x.c) = false := decide_eq_false m6
          have a7 : decide (x.a < 0) = false := decide_eq_false m7
          have a8 : decide (3 < x.a) = false := decide_eq_false m8
          have a9 : decide (x.p < 1) = true := decide_eq_true m9
          clear m0 m1 m2 m3 m4 m5 m6 m7 m8 m9
          go_wp2_with fail
          go_ret
          exact ⟨fun h => absurd (h x HM.out) HX.out, fun _ => rfl, HB.out.alloc HB.out.size _⟩
        · have a0 : decide (x.b < 0) = false := decide_eq_false m0
          have a1 : decide (15 < x.b) = false := decide_eq_false m1
          have a2 : decide (x.s < 0) = false := decide_eq_false m2
          have a3 : decide (15 < x.s) = false := decide_eq_false m3
          have a4 : (x.b == x.s) = false := by simpa using m4
          have a5 : decide (x.c < 0) = false := decide_eq_false m5
          have a6 : decide (3 < x.c) = false := decide_eq_false m6
          have a7 : decide (x.a < 0) = false := decide_eq_false m7
          have a8 : decide (3 < x.a) = false := decide_eq_false m8
          have a9 : decide (x.p < 1) = false := decide_eq_false m9
          have a10 : decide (1099511627776 < x.p) = true := decide_eq_true m10
          clear m0 m1 m2 m3 m4 m5 m6 m7 m8 m9 m10
          go_wp2_with fail
          go_ret
          exact ⟨fun h => absurd (h x HM.out) HX.out, fun _ => rfl, HB.out.alloc HB.out.size _⟩
        · have a0 : decide (x.b < 0) = false := decide_eq_false m0
          have a1 : decide (15 < x.b) = false := decide_eq_false m1
          have a2 : decide (x.s < 0) = false := decide_eq_false m2
          have a3 : decide (15 < x.s) = false := decide_eq_false m3
          have a4 : (x.b == x.s) = false := by simpa using m4
          have a5 : decide (x.c < 0) = false := decide_eq_false m5
          have a6 : decide (3 < x.c) = false := decide_eq_false m6
          have a7 : decide (x.a < 0) = false := decide_eq_false m7
          have a8 : decide (3 < x.a) = false := decide_eq_false m8
          have a9 : decide (x.p < 1) = false := decide_eq_false m9
          have a10 : decide (1099511627776 < x.p) = false := decide_eq_false m10
          have a11 : decide (x.q < 1) = true := decide_eq_true m11
          clear m0 m1 m2 m3 m4 m5 m6 m7 m8 m9 m10 m11
          go_wp2_with fail
          go_ret
          exact ⟨fun h => absurd (h x HM.out) HX.out, fun _ => rfl, HB.out.alloc HB.out.size _⟩
        · have a0 : decide (x.b < 0) = false := decide_eq_false m0
          have a1 : decide (15 < x.b) = false := decide_eq_false m1
          have a2 : decide (x.s < 0) = false := decide_eq_false m2
          have a3 : decide (15 < x.s) = false := decide_eq_false m3
          have a4 : (x.b == x.s) = false := by simpa using m4
          have a5 : decide (x.c < 0) = false := decide_eq_false m5
          have a6 : decide (3 < x.c) = false := decide_eq_false m6
          have a7 : decide (x.a < 0) = false := decide_eq_false m7
          have a8 : decide (3 < x.a) = false := decide_eq_false m8
          have a9 : decide (x.p < 1) = false := decide_eq_false m9
          have a10 : decide (1099511627776 < x.p) = false := decide_eq_false m10
          have a11 : decide (x.q < 1) = false := decide_eq_false m11
          have a12 : decide (1099511627776 < x.q) = true := decide_eq_true m12
          clear m0 m1 m2 m3 m4 m5 m6 m7 m8 m9 m10 m11 m12
          go_wp2_with fail
          go_ret
          exact ⟨fun h => absurd (h x HM.out) HX.out, fun _ => rfl, HB.out.alloc HB.out.size _⟩
    · obtain rfl : k = ts.length := by omega -- ARM exit
      go_wp2_with fail
      go_ret
      exact ⟨fun _ => rfl, fun h => absurd (by have := HP.out; rw [List.take_length] at this; exact this) h, HB.out⟩
end Go.Proofs.Ytggpdbfkfcoejaa
