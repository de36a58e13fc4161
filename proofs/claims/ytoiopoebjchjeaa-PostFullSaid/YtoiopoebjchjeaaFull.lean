/-
  PostFull: a post bears so many, never more.
-/
import Derived.Test.YtoiopoebjchjeaaPostE
namespace Go.Proofs.Ytoiopoebjchjeaa
open Go.RowKit

/-- What holds at every round's head. -/
def FullRel (B : Nat) (w : World) (most extra : Int) (i : Value) (wr : World) : Prop :=
  ∃ (k : Nat) (L : List Pk), (k : Int) ≤ most + extra ∧ i = .int .i64 k ∧ (L.length : Int) = min (k : Int) most ∧ PXE wr B B most L ∧ Below w.heap.size w wr

set_option maxRecDepth 100000 in
set_option maxHeartbeats 4000000 in
theorem full_any (most extra : Int) (w : World) : Calls Try.prog 6 #[.int .i64 most, .int .i64 extra] w fun e w' => e = .returned (.bool true) ∧ Below w.heap.size w w' := by
  by_cases hin : 1 ≤ most ∧ most ≤ 200
  · by_cases hex : 0 ≤ extra ∧ extra ≤ 50
    · obtain ⟨m1, m2⟩ := hin
      obtain ⟨x1, x2⟩ := hex
      go_enter Try.func6, Try.ntmps6
      go_wp2_with fail
      refine (first_any w).mono ?_
      rintro e w0 ⟨rfl, hb0⟩
      go_wp2_with fail
      refine (new_in most w0 ⟨m1, m2⟩).mono ?_
      rintro e w1 ⟨rfl, hx1, hb1⟩
      go_wp2_with fail
      go_loopw [7] (fun i wr => FullRel w0.heap.size w most extra i wr) (fun i _ => 300 - (intOf i).toNat)
      case atStart => exact ⟨0, [], by omega, rfl, by simp; omega, hx1, hb0.trans (hb1.mono hb0.size)⟩
      case round =>
        obtain ⟨k, L, hk, rfl, hlen, hx, hb⟩ := hrel
        have hB := hb0.size
        clear hx1
        have hs := hx.small
        have HX := Lib.hid hx
        by_cases hlt : (k : Int) < most + extra
        · by_cases hkm : (k : Int) < most
          · have hlen' : (L.length : Int) = k := by omega
            have S1 := Lib.hid (putL_ok (most := most) (L := L) (to := (k : Int)) (bs := []) (by omega) (by simp))
            have HL := Lib.hid hlen'
            clear hlen hlen' hx hs
            go_wp2_with fail
            refine (put_b w0.heap.size w0.heap.size most L k none 0 0 [] wr HX.out (by exact Reads.none_) (by simp) (by omega)).mono ?_
            rw [S1.out]
            rintro e w2 ⟨rfl, hx2, hb2⟩
            go_wp2_with fail
            go_roundw
            case rel => exact ⟨k + 1, L ++ [((k : Int), [])], by omega, by go_num, by have := HL.out; simp; omega, hx2, hb.trans (hb2.mono hB)⟩
            case measure => simp [intOf]; omega
          · have hlen' : (L.length : Int) = most := by omega
            have S1 := Lib.hid (putL_full (most := most) (L := L) (to := (k : Int)) (bs := []) (by omega))
            have HL := Lib.hid hlen'
            clear hlen hlen' hx hs
            go_wp2_with fail
            refine (put_b w0.heap.size w0.heap.size most L k none 0 0 [] wr HX.out (by exact Reads.none_) (by simp) (by omega)).mono ?_
            rw [S1.out]
            rintro e w2 ⟨rfl, hx2, hb2⟩
            go_wp2_with fail
            go_roundw
            case rel => exact ⟨k + 1, L, by omega, by go_num, by have := HL.out; omega, hx2, hb.trans (hb2.mono hB)⟩
            case measure => simp [intOf]; omega
        · have hlen' : (L.length : Int) = most := by omega
          obtain ⟨m, rfl⟩ : ∃ m : Nat, most = m + 1 := ⟨(most - 1).toNat, by omega⟩
          have hml : L.length = m + 1 := by omega
          have hok1 : okL L (m : Int) = true := okL_in (by omega)
          have S1 : copyL ((m : Int) + 1) L 0 = (L, 12) := by rw [copyL_yes (show okL L 0 = true from okL_in (k := 0) (by omega)), putL_full (by omega)]
          have D1 : dropL L (m : Int) = L.eraseIdx m := dropL_in (by omega)
          have hel : (L.eraseIdx m).length = m := by rw [List.length_eraseIdx, if_pos (by omega)]; omega
          have hok2 : okL (L.eraseIdx m) (m : Int) = false := okL_out (.inr (by omega))
          have D2 : dropL (L.eraseIdx m) (m : Int) = L.eraseIdx m := dropL_out hok2
          have S1 := Lib.hid S1
          have O1 := Lib.hid hok1
          have D1 := Lib.hid D1
          have O2 := Lib.hid hok2
          have D2 := Lib.hid D2
          have HL := Lib.hid hlen'
          have HE := Lib.hid hel
          have hsub : (m : Int) + 1 - 1 = m := by omega
          clear hlen hlen' hx hs hml hok1 hel hok2
          go_wp2_with fail
          refine (len_b w0.heap.size w0.heap.size _ L wr HX.out).mono ?_
          rintro e w2 ⟨rfl, rfl⟩
          rw [HL.out]
          go_wp2_with fail
          refine (copyp_b w0.heap.size w0.heap.size _ L 0 wr HX.out).mono ?_
          rw [S1.out]
          rintro e w2 ⟨rfl, hx2, hb2⟩
          have B2 := hb.trans (hb2.mono hB)
          go_wp2_with fail
          try simp only [hsub]
          refine (drop_b w0.heap.size w0.heap.size _ L (m : Int) w2 hx2).mono ?_
          rw [D1.out, O1.out]
          rintro e w3 ⟨rfl, hx3, hb3⟩
          have B3 := B2.trans (hb3.mono hB)
          go_wp2_with fail
          try simp only [hsub]
          refine (drop_b w0.heap.size w0.heap.size _ _ (m : Int) w3 hx3).mono ?_
          rw [D2.out, O2.out]
          rintro e w4 ⟨rfl, hx4, hb4⟩
          have B4 := B3.trans (hb4.mono hB)
          by_cases hm0 : m = 0
          · subst hm0
            have hE0 : L.eraseIdx 0 = [] := List.eq_nil_of_length_eq_zero HE.out
            rw [hE0] at hx4
            have S4 : copyL ((0 : Nat) + 1 : Int) [] 0 = ([], 8) := by simp [copyL, okL]
            have S4 := Lib.hid S4
            clear hE0
            go_wp2_with fail
            refine (copyp_b w0.heap.size w0.heap.size _ [] 0 w4 hx4).mono ?_
            rw [S4.out]
            rintro e w5 ⟨rfl, hx5, hb5⟩
            have B5 := B4.trans (hb5.mono hB)
            go_wp2_with fail
            refine (first_any w5).mono ?_
            rintro e w6 ⟨rfl, hb6⟩
            have B6 := B5.trans (hb6.mono B5.size)
            have hx6 := hx5.below hb6
            go_wp2_with fail
            refine (len_b w0.heap.size w0.heap.size _ [] w6 hx6).mono ?_
            rintro e w7 ⟨rfl, rfl⟩
            simp only [List.length_nil]
            go_wp2_with fail
            go_ret
            exact ⟨rfl, B6⟩
          · have hsm := atL_small hx4.small 0
            have S4 : copyL ((m : Int) + 1) (L.eraseIdx m) 0 = (L.eraseIdx m ++ [((atL (L.eraseIdx m) 0).1, (atL (L.eraseIdx m) 0).2)], 0) := by
              rw [copyL_yes (show okL (L.eraseIdx m) 0 = true from okL_in (k := 0) (by have := HE.out; omega)), putL_ok (by have := HE.out; omega) (by omega)]
            have S4 := Lib.hid S4
            clear hsm
            have hm1 : 0 < (m : Int) := by omega
            go_wp2_with fail
            refine (copyp_b w0.heap.size w0.heap.size _ _ 0 w4 hx4).mono ?_
            rw [S4.out]
            rintro e w5 ⟨rfl, hx5, hb5⟩
            have B5 := B4.trans (hb5.mono hB)
            go_wp2_with fail
            refine (first_any w5).mono ?_
            rintro e w6 ⟨rfl, hb6⟩
            have B6 := B5.trans (hb6.mono B5.size)
            have X6 := Lib.hid (hx5.below hb6)
            have hl6 : (L.eraseIdx m ++ [((atL (L.eraseIdx m) 0).1, (atL (L.eraseIdx m) 0).2)]).length = m + 1 := by rw [List.length_append, HE.out]; rfl
            clear hx5
            generalize L.eraseIdx m ++ [((atL (L.eraseIdx m) 0).1, (atL (L.eraseIdx m) 0).2)] = L6 at X6 hl6
            have H6 := Lib.hid hl6
            clear hl6
            go_wp2_with fail
            refine (len_b w0.heap.size w0.heap.size _ L6 w6 X6.out).mono ?_
            rintro e w7 ⟨rfl, rfl⟩
            rw [H6.out]
            go_wp2_with fail
            refine (len_b w0.heap.size w0.heap.size _ L6 w6 X6.out).mono ?_
            rintro e w7 ⟨rfl, rfl⟩
            rw [H6.out]
            go_wp2_with fail
            go_ret
            exact ⟨rfl, B6⟩
    · obtain ⟨m1, m2⟩ := hin
      have hno : extra < 0 ∨ 50 < extra := by omega
      rcases hno with hno | hno
      all_goals
        go_enter Try.func6, Try.ntmps6
        go_wp2_with fail
        refine (first_any w).mono ?_
        rintro e w0 ⟨rfl, hb0⟩
        go_wp2_with fail
        refine (new_in most w0 ⟨m1, m2⟩).mono ?_
        rintro e w1 ⟨rfl, hx1, hb1⟩
        go_wp2_with fail
        refine (first_any w1).mono ?_
        rintro e w2 ⟨rfl, hb2⟩
        go_wp2_with fail
        go_ret
        have B1 := hb0.trans (hb1.mono hb0.size)
        exact ⟨rfl, B1.trans (hb2.mono B1.size)⟩
  · have hno : most < 1 ∨ 200 < most := by omega
    rcases hno with hno | hno
    all_goals
      have hnew := fun w => new_out most w hin
      clear hin
      go_enter Try.func6, Try.ntmps6
      go_wp2_with fail
      refine (first_any w).mono ?_
      rintro e w0 ⟨rfl, hb0⟩
      go_wp2_with fail
      refine (hnew w0).mono ?_
      rintro e w1 ⟨rfl, rfl⟩
      go_wp2_with fail
      refine (first_any w0).mono ?_
      rintro e w2 ⟨rfl, hb2⟩
      go_wp2_with fail
      go_ret
      exact ⟨rfl, hb0.trans (hb2.mono hb0.size)⟩
end Go.Proofs.Ytoiopoebjchjeaa
