/-
  NetsPair: two who trade there and back.
-/
import Derived.Test.YtggpdbfkfcoejaaPairLaw
namespace Go.Proofs.Ytggpdbfkfcoejaa
open Go.RowKit

set_option maxRecDepth 100000 in
set_option maxHeartbeats 8000000 in
theorem pair_any (p1 q1 p2 q2 : Int) (w : World) : Calls Try.prog 4 #[.int .i64 p1, .int .i64 q1, .int .i64 p2, .int .i64 q2] w fun e w' => e = .returned (.bool true) ∧ Below w.heap.size w w' := by
  obtain ⟨i0, hi0, hz0, hz1, hz2⟩ := info_parts net_info
  by_cases hin : (1 ≤ p1 ∧ p1 ≤ 1000000) ∧ (1 ≤ q1 ∧ q1 ≤ 1000000) ∧ (1 ≤ p2 ∧ p2 ≤ 1000000) ∧ (1 ≤ q2 ∧ q2 ≤ 1000000)
  · obtain ⟨h1, h2, h3, h4⟩ := hin
    have HO := Lib.hid fun g c w' hb => of_pair p1 q1 p2 q2 h1 h2 h3 h4 g c w' hb
    have a1 : decide (p1 < 1) = false := decide_eq_false (by omega)
    have a2 : decide (1000000 < p1) = false := decide_eq_false (by omega)
    have a3 : decide (q1 < 1) = false := decide_eq_false (by omega)
    have a4 : decide (1000000 < q1) = false := decide_eq_false (by omega)
    have a5 : decide (p2 < 1) = false := decide_eq_false (by omega)
    have a6 : decide (1000000 < p2) = false := decide_eq_false (by omega)
    have a7 : decide (q2 < 1) = false := decide_eq_false (by omega)
    have a8 : decide (1000000 < q2) = false := decide_eq_false (by omega)
    go_enter Try.func4, Try.ntmps4
    go_wp2_with fail
    refine (first_any w).mono ?_
    rintro e w1 ⟨rfl, hb1⟩
    go_wp2_with fail
    refine (HO.out w1.heap.size 2 _ (Blk.new w1 _ _)).mono ?_
    rintro e w2 ⟨A, d, rfl, ho2, hb2⟩
    have hs2 := hb2.size
    simp at hs2
    have B2 := Lib.hid ((hb1.alloc hb1.size (.cells #[.int .i64 1, .int .i64 3, .int .i64 5, .int .i64 0, .int .i64 p1, .int .i64 0, .int .i64 q1, .int .i64 2, .int .i64 5, .int .i64 3, .int .i64 0, .int .i64 p2, .int .i64 0, .int .i64 q2] 30)).trans (hb2.mono (by have := hb1.size; simp; omega)))
    have O2 := Lib.hid ho2
    clear ho2 hb2 hb1 HO a1 a2 a3 a4 a5 a6 a7 a8
    obtain ⟨ws, hws⟩ : ∃ ws, ws = cashW p1 p2 ++ secW q1 q2 := ⟨_, rfl⟩
    rw [← hws] at O2 ⊢
    have HWS := Lib.hid hws
    clear hws
    rcases (show p2 < p1 ∨ p1 < p2 ∨ p1 = p2 by omega) with hp | hp | hp
    · rcases (show q2 < q1 ∨ q1 < q2 ∨ q1 = q2 by omega) with hq | hq | hq
      · have d1 : decide (p2 < p1) = true := decide_eq_true (by omega) -- ARM gtgt
        have d2 : decide (p1 < p2) = false := decide_eq_false (by omega)
        have d3 : decide (q2 < q1) = true := decide_eq_true (by omega)
        have d4 : decide (q1 < q2) = false := decide_eq_false (by omega)
        have HP := Lib.hid hp
        have HQ := Lib.hid hq
        clear hp hq
        go_wp2_with (first | (at_builtin; refine wpList_append_any _ rfl (.tmp 59) (.tmp 64) _ rfl w2.heap.size 34 i0 _ 5 40 Try.underlying25 hi0 hz0 hz1 hz2 rfl (by omega) (.slice none 0 0) 0 (nCells []) rfl ((World.ownsRow_nil w2 w2.heap.size 34 5).alloc (.cells #[.int .i64 3, .int .i64 5, .int .i64 0, .int .i64 0, .int .i64 (p1 - p2)] 34)) (w2.heap.size + 1) (some ⟨w2.heap.size, 0, none⟩) 1 1 (encN ⟨3, 5, 0, 0, p1 - p2⟩) rfl (reads_net w2 34 ⟨3, 5, 0, 0, p1 - p2⟩) (by simp [encN, Value.oneCell']) (by simp only [maxLen]; omega) (by omega) (by first | (simp; done) | (simp; omega)) ?_; intro v3 w3 hown3 hg3 hat3; obtain ⟨A3, c3, rfl⟩ := own_shape hown3; have hs3 := hg3.size; simp at hs3) | (at_builtin; refine wpList_append_any _ rfl (.tmp 79) (.tmp 84) _ rfl w2.heap.size 34 i0 _ 5 40 Try.underlying25 hi0 hz0 hz1 hz2 rfl (by omega) (.slice A3 1 c3) 1 (nCells [(⟨3, 5, 0, 0, p1 - p2⟩ : NetD)]) rfl ((show w3.ownsRow w2.heap.size 34 5 (.slice A3 1 c3) 1 (nCells [(⟨3, 5, 0, 0, p1 - p2⟩ : NetD)]) from hown3).alloc (.cells #[.int .i64 5, .int .i64 3, .int .i64 1, .int .i64 0, .int .i64 (q1 - q2)] 34)) (w3.heap.size + 1) (some ⟨w3.heap.size, 0, none⟩) 1 1 (encN ⟨5, 3, 1, 0, q1 - q2⟩) rfl (reads_net w3 34 ⟨5, 3, 1, 0, q1 - q2⟩) (by simp [encN, Value.oneCell']) (by simp only [maxLen]; omega) (by omega) (by first | (simp; done) | (simp; omega)) ?_; intro v4 w4 hown4 hg4 hat4; obtain ⟨A4, c4, rfl⟩ := own_shape hown4; have hs4 := hg4.size; simp at hs4))
        have bl3 := (B2.out.alloc (by have := B2.out.size; omega) (.cells #[.int .i64 3, .int .i64 5, .int .i64 0, .int .i64 0, .int .i64 (p1 - p2)] 34)).grown hg3 (by have := B2.out.size; simp; omega) (fun j hj => by simp [Value.ownBlock] at hj)
        have bl4 := (bl3.alloc (by have := B2.out.size; omega) (.cells #[.int .i64 5, .int .i64 3, .int .i64 1, .int .i64 0, .int .i64 (q1 - q2)] 34)).grown hg4 (by have := B2.out.size; simp; omega) (fun j hj => by have := (own_block hown3 hj).1; have := B2.out.size; omega)
        have HL : Hid (ws = [(⟨3, 5, 0, 0, p1 - p2⟩ : NetD), (⟨5, 3, 1, 0, q1 - q2⟩ : NetD)]) := by
          show ws = _
          have hp := HP.out
          have hq := HQ.out
          rw [HWS.out]
          unfold cashW secW
          rw [if_pos hp]
          rw [if_pos hq]
          rfl
        have RW := Lib.hid (Reads.of_own (show w4.ownsRow w2.heap.size 34 5 (.slice A4 2 c4) 2 (nCells [(⟨3, 5, 0, 0, p1 - p2⟩ : NetD), (⟨5, 3, 1, 0, q1 - q2⟩ : NetD)]) from hown4))
        have F2 : Fr (fun j => w2.heap.size ≤ j) w2 w4 := (((((Fr.refl _ _).alloc _).new (Fr.of_grown (S := fun j => w2.heap.size ≤ j) hg3 (fun j hj => by simp [Value.ownBlock] at hj)) (fun j _ h => h)).alloc _).new (Fr.of_grown (S := fun j => w2.heap.size ≤ j) hg4 (fun j hj => by exact (own_block hown3 hj).1)) (fun j _ h => h))
        have RA := Lib.hid ((Reads.of_own (own_fr O2.out F2 (fun j hj h => by have := (own_block O2.out hj).2.1; omega))))
        refine (first_any w4).mono ?_
        rintro e w8 ⟨rfl, hb8⟩
        have b8 := bl4.trans (hb8.mono (by have := B2.out.size; omega))
        have RW8 := Lib.hid ((RW.out.below hb8).more hb8.size)
        have RA8 := Lib.hid ((RA.out.below hb8).more hb8.size)
        go_wp2_with fail
        refine (samenets_two ws [(⟨3, 5, 0, 0, p1 - p2⟩ : NetD), (⟨5, 3, 1, 0, q1 - q2⟩ : NetD)] HL.out A A4 ws.length 2 d c4 rfl rfl w8 RA8.out RW8.out (by rw [HL.out]; simp)).mono ?_
        rintro e w9 ⟨rfl, hb9⟩
        go_wp2_with fail
        go_ret
        exact ⟨rfl, b8.trans (hb9.mono b8.size)⟩
      · have d1 : decide (p2 < p1) = true := decide_eq_true (by omega) -- ARM gtlt
        have d2 : decide (p1 < p2) = false := decide_eq_false (by omega)
        have d3 : decide (q2 < q1) = false := decide_eq_false (by omega)
        have d4 : decide (q1 < q2) = true := decide_eq_true (by omega)
        have HP := Lib.hid hp
        have HQ := Lib.hid hq
        clear hp hq
        go_wp2_with (first | (at_builtin; refine wpList_append_any _ rfl (.tmp 59) (.tmp 64) _ rfl w2.heap.size 34 i0 _ 5 40 Try.underlying25 hi0 hz0 hz1 hz2 rfl (by omega) (.slice none 0 0) 0 (nCells []) rfl ((World.ownsRow_nil w2 w2.heap.size 34 5).alloc (.cells #[.int .i64 3, .int .i64 5, .int .i64 0, .int .i64 0, .int .i64 (p1 - p2)] 34)) (w2.heap.size + 1) (some ⟨w2.heap.size, 0, none⟩) 1 1 (encN ⟨3, 5, 0, 0, p1 - p2⟩) rfl (reads_net w2 34 ⟨3, 5, 0, 0, p1 - p2⟩) (by simp [encN, Value.oneCell']) (by simp only [maxLen]; omega) (by omega) (by first | (simp; done) | (simp; omega)) ?_; intro v3 w3 hown3 hg3 hat3; obtain ⟨A3, c3, rfl⟩ := own_shape hown3; have hs3 := hg3.size; simp at hs3) | (at_builtin; refine wpList_append_any _ rfl (.tmp 89) (.tmp 94) _ rfl w2.heap.size 34 i0 _ 5 40 Try.underlying25 hi0 hz0 hz1 hz2 rfl (by omega) (.slice A3 1 c3) 1 (nCells [(⟨3, 5, 0, 0, p1 - p2⟩ : NetD)]) rfl ((show w3.ownsRow w2.heap.size 34 5 (.slice A3 1 c3) 1 (nCells [(⟨3, 5, 0, 0, p1 - p2⟩ : NetD)]) from hown3).alloc (.cells #[.int .i64 3, .int .i64 5, .int .i64 1, .int .i64 0, .int .i64 (q2 - q1)] 34)) (w3.heap.size + 1) (some ⟨w3.heap.size, 0, none⟩) 1 1 (encN ⟨3, 5, 1, 0, q2 - q1⟩) rfl (reads_net w3 34 ⟨3, 5, 1, 0, q2 - q1⟩) (by simp [encN, Value.oneCell']) (by simp only [maxLen]; omega) (by omega) (by first | (simp; done) | (simp; omega)) ?_; intro v4 w4 hown4 hg4 hat4; obtain ⟨A4, c4, rfl⟩ := own_shape hown4; have hs4 := hg4.size; simp at hs4))
        have bl3 := (B2.out.alloc (by have := B2.out.size; omega) (.cells #[.int .i64 3, .int .i64 5, .int .i64 0, .int .i64 0, .int .i64 (p1 - p2)] 34)).grown hg3 (by have := B2.out.size; simp; omega) (fun j hj => by simp [Value.ownBlock] at hj)
        have bl4 := (bl3.alloc (by have := B2.out.size; omega) (.cells #[.int .i64 3, .int .i64 5, .int .i64 1, .int .i64 0, .int .i64 (q2 - q1)] 34)).grown hg4 (by have := B2.out.size; simp; omega) (fun j hj => by have := (own_block hown3 hj).1; have := B2.out.size; omega)
        have HL : Hid (ws = [(⟨3, 5, 0, 0, p1 - p2⟩ : NetD), (⟨3, 5, 1, 0, q2 - q1⟩ : NetD)]) := by
          show ws = _
          have hp := HP.out
          have hq := HQ.out
          rw [HWS.out]
          unfold cashW secW
          rw [if_pos hp]
          rw [if_neg (by omega), if_pos hq]
          rfl
        have RW := Lib.hid (Reads.of_own (show w4.ownsRow w2.heap.size 34 5 (.slice A4 2 c4) 2 (nCells [(⟨3, 5, 0, 0, p1 - p2⟩ : NetD), (⟨3, 5, 1, 0, q2 - q1⟩ : NetD)]) from hown4))
        have F2 : Fr (fun j => w2.heap.size ≤ j) w2 w4 := (((((Fr.refl _ _).alloc _).new (Fr.of_grown (S := fun j => w2.heap.size ≤ j) hg3 (fun j hj => by simp [Value.ownBlock] at hj)) (fun j _ h => h)).alloc _).new (Fr.of_grown (S := fun j => w2.heap.size ≤ j) hg4 (fun j hj => by exact (own_block hown3 hj).1)) (fun j _ h => h))
        have RA := Lib.hid ((Reads.of_own (own_fr O2.out F2 (fun j hj h => by have := (own_block O2.out hj).2.1; omega))))
        refine (first_any w4).mono ?_
        rintro e w8 ⟨rfl, hb8⟩
        have b8 := bl4.trans (hb8.mono (by have := B2.out.size; omega))
        have RW8 := Lib.hid ((RW.out.below hb8).more hb8.size)
        have RA8 := Lib.hid ((RA.out.below hb8).more hb8.size)
        go_wp2_with fail
        refine (samenets_two ws [(⟨3, 5, 0, 0, p1 - p2⟩ : NetD), (⟨3, 5, 1, 0, q2 - q1⟩ : NetD)] HL.out A A4 ws.length 2 d c4 rfl rfl w8 RA8.out RW8.out (by rw [HL.out]; simp)).mono ?_
        rintro e w9 ⟨rfl, hb9⟩
        go_wp2_with fail
        go_ret
        exact ⟨rfl, b8.trans (hb9.mono b8.size)⟩
      · have d1 : decide (p2 < p1) = true := decide_eq_true (by omega) -- ARM gteq
        have d2 : decide (p1 < p2) = false := decide_eq_false (by omega)
        have d3 : decide (q2 < q1) = false := decide_eq_false (by omega)
        have d4 : decide (q1 < q2) = false := decide_eq_false (by omega)
        have HP := Lib.hid hp
        have HQ := Lib.hid hq
        clear hp hq
        go_wp2_with (first | (at_builtin; refine wpList_append_any _ rfl (.tmp 59) (.tmp 64) _ rfl w2.heap.size 34 i0 _ 5 40 Try.underlying25 hi0 hz0 hz1 hz2 rfl (by omega) (.slice none 0 0) 0 (nCells []) rfl ((World.ownsRow_nil w2 w2.heap.size 34 5).alloc (.cells #[.int .i64 3, .int .i64 5, .int .i64 0, .int .i64 0, .int .i64 (p1 - p2)] 34)) (w2.heap.size + 1) (some ⟨w2.heap.size, 0, none⟩) 1 1 (encN ⟨3, 5, 0, 0, p1 - p2⟩) rfl (reads_net w2 34 ⟨3, 5, 0, 0, p1 - p2⟩) (by simp [encN, Value.oneCell']) (by simp only [maxLen]; omega) (by omega) (by first | (simp; done) | (simp; omega)) ?_; intro v3 w3 hown3 hg3 hat3; obtain ⟨A3, c3, rfl⟩ := own_shape hown3; have hs3 := hg3.size; simp at hs3))
        have bl3 := (B2.out.alloc (by have := B2.out.size; omega) (.cells #[.int .i64 3, .int .i64 5, .int .i64 0, .int .i64 0, .int .i64 (p1 - p2)] 34)).grown hg3 (by have := B2.out.size; simp; omega) (fun j hj => by simp [Value.ownBlock] at hj)
        have HL : Hid (ws = [(⟨3, 5, 0, 0, p1 - p2⟩ : NetD)]) := by
          show ws = _
          have hp := HP.out
          have hq := HQ.out
          rw [HWS.out]
          unfold cashW secW
          rw [if_pos hp]
          rw [if_neg (by omega), if_neg (by omega)]
          rfl
        have RW := Lib.hid (Reads.of_own (show w3.ownsRow w2.heap.size 34 5 (.slice A3 1 c3) 1 (nCells [(⟨3, 5, 0, 0, p1 - p2⟩ : NetD)]) from hown3))
        have F2 : Fr (fun j => w2.heap.size ≤ j) w2 w3 := (((Fr.refl _ _).alloc _).new (Fr.of_grown (S := fun j => w2.heap.size ≤ j) hg3 (fun j hj => by simp [Value.ownBlock] at hj)) (fun j _ h => h))
        have RA := Lib.hid ((Reads.of_own (own_fr O2.out F2 (fun j hj h => by have := (own_block O2.out hj).2.1; omega))))
        refine (first_any w3).mono ?_
        rintro e w8 ⟨rfl, hb8⟩
        have b8 := bl3.trans (hb8.mono (by have := B2.out.size; omega))
        have RW8 := Lib.hid ((RW.out.below hb8).more hb8.size)
        have RA8 := Lib.hid ((RA.out.below hb8).more hb8.size)
        go_wp2_with fail
        refine (samenets_two ws [(⟨3, 5, 0, 0, p1 - p2⟩ : NetD)] HL.out A A3 ws.length 1 d c3 rfl rfl w8 RA8.out RW8.out (by rw [HL.out]; simp)).mono ?_
        rintro e w9 ⟨rfl, hb9⟩
        go_wp2_with fail
        go_ret
        exact ⟨rfl, b8.trans (hb9.mono b8.size)⟩
    · rcases (show q2 < q1 ∨ q1 < q2 ∨ q1 = q2 by omega) with hq | hq | hq
      · have d1 : decide (p2 < p1) = false := decide_eq_false (by omega) -- ARM ltgt
        have d2 : decide (p1 < p2) = true := decide_eq_true (by omega)
        have d3 : decide (q2 < q1) = true := decide_eq_true (by omega)
        have d4 : decide (q1 < q2) = false := decide_eq_false (by omega)
        have HP := Lib.hid hp
        have HQ := Lib.hid hq
        clear hp hq
        go_wp2_with (first | (at_builtin; refine wpList_append_any _ rfl (.tmp 69) (.tmp 74) _ rfl w2.heap.size 34 i0 _ 5 40 Try.underlying25 hi0 hz0 hz1 hz2 rfl (by omega) (.slice none 0 0) 0 (nCells []) rfl ((World.ownsRow_nil w2 w2.heap.size 34 5).alloc (.cells #[.int .i64 5, .int .i64 3, .int .i64 0, .int .i64 0, .int .i64 (p2 - p1)] 34)) (w2.heap.size + 1) (some ⟨w2.heap.size, 0, none⟩) 1 1 (encN ⟨5, 3, 0, 0, p2 - p1⟩) rfl (reads_net w2 34 ⟨5, 3, 0, 0, p2 - p1⟩) (by simp [encN, Value.oneCell']) (by simp only [maxLen]; omega) (by omega) (by first | (simp; done) | (simp; omega)) ?_; intro v3 w3 hown3 hg3 hat3; obtain ⟨A3, c3, rfl⟩ := own_shape hown3; have hs3 := hg3.size; simp at hs3) | (at_builtin; refine wpList_append_any _ rfl (.tmp 79) (.tmp 84) _ rfl w2.heap.size 34 i0 _ 5 40 Try.underlying25 hi0 hz0 hz1 hz2 rfl (by omega) (.slice A3 1 c3) 1 (nCells [(⟨5, 3, 0, 0, p2 - p1⟩ : NetD)]) rfl ((show w3.ownsRow w2.heap.size 34 5 (.slice A3 1 c3) 1 (nCells [(⟨5, 3, 0, 0, p2 - p1⟩ : NetD)]) from hown3).alloc (.cells #[.int .i64 5, .int .i64 3, .int .i64 1, .int .i64 0, .int .i64 (q1 - q2)] 34)) (w3.heap.size + 1) (some ⟨w3.heap.size, 0, none⟩) 1 1 (encN ⟨5, 3, 1, 0, q1 - q2⟩) rfl (reads_net w3 34 ⟨5, 3, 1, 0, q1 - q2⟩) (by simp [encN, Value.oneCell']) (by simp only [maxLen]; omega) (by omega) (by first | (simp; done) | (simp; omega)) ?_; intro v4 w4 hown4 hg4 hat4; obtain ⟨A4, c4, rfl⟩ := own_shape hown4; have hs4 := hg4.size; simp at hs4))
        have bl3 := (B2.out.alloc (by have := B2.out.size; omega) (.cells #[.int .i64 5, .int .i64 3, .int .i64 0, .int .i64 0, .int .i64 (p2 - p1)] 34)).grown hg3 (by have := B2.out.size; simp; omega) (fun j hj => by simp [Value.ownBlock] at hj)
        have bl4 := (bl3.alloc (by have := B2.out.size; omega) (.cells #[.int .i64 5, .int .i64 3, .int .i64 1, .int .i64 0, .int .i64 (q1 - q2)] 34)).grown hg4 (by have := B2.out.size; simp; omega) (fun j hj => by have := (own_block hown3 hj).1; have := B2.out.size; omega)
        have HL : Hid (ws = [(⟨5, 3, 0, 0, p2 - p1⟩ : NetD), (⟨5, 3, 1, 0, q1 - q2⟩ : NetD)]) := by
          show ws = _
          have hp := HP.out
          have hq := HQ.out
          rw [HWS.out]
          unfold cashW secW
          rw [if_neg (by omega), if_pos hp]
          rw [if_pos hq]
          rfl
        have RW := Lib.hid (Reads.of_own (show w4.ownsRow w2.heap.size 34 5 (.slice A4 2 c4) 2 (nCells [(⟨5, 3, 0, 0, p2 - p1⟩ : NetD), (⟨5, 3, 1, 0, q1 - q2⟩ : NetD)]) from hown4))
        have F2 : Fr (fun j => w2.heap.size ≤ j) w2 w4 := (((((Fr.refl _ _).alloc _).new (Fr.of_grown (S := fun j => w2.heap.size ≤ j) hg3 (fun j hj => by simp [Value.ownBlock] at hj)) (fun j _ h => h)).alloc _).new (Fr.of_grown (S := fun j => w2.heap.size ≤ j) hg4 (fun j hj => by exact (own_block hown3 hj).1)) (fun j _ h => h))
        have RA := Lib.hid ((Reads.of_own (own_fr O2.out F2 (fun j hj h => by have := (own_block O2.out hj).2.1; omega))))
        refine (first_any w4).mono ?_
        rintro e w8 ⟨rfl, hb8⟩
        have b8 := bl4.trans (hb8.mono (by have := B2.out.size; omega))
        have RW8 := Lib.hid ((RW.out.below hb8).more hb8.size)
        have RA8 := Lib.hid ((RA.out.below hb8).more hb8.size)
        go_wp2_with fail
        refine (samenets_two ws [(⟨5, 3, 0, 0, p2 - p1⟩ : NetD), (⟨5, 3, 1, 0, q1 - q2⟩ : NetD)] HL.out A A4 ws.length 2 d c4 rfl rfl w8 RA8.out RW8.out (by rw [HL.out]; simp)).mono ?_
        rintro e w9 ⟨rfl, hb9⟩
        go_wp2_with fail
        go_ret
        exact ⟨rfl, b8.trans (hb9.mono b8.size)⟩
      · have d1 : decide (p2 < p1) = false := decide_eq_false (by omega) -- ARM ltlt
        have d2 : decide (p1 < p2) = true := decide_eq_true (by omega)
        have d3 : decide (q2 < q1) = false := decide_eq_false (by omega)
        have d4 : decide (q1 < q2) = true := decide_eq_true (by omega)
        have HP := Lib.hid hp
        have HQ := Lib.hid hq
        clear hp hq
        go_wp2_with (first | (at_builtin; refine wpList_append_any _ rfl (.tmp 69) (.tmp 74) _ rfl w2.heap.size 34 i0 _ 5 40 Try.underlying25 hi0 hz0 hz1 hz2 rfl (by omega) (.slice none 0 0) 0 (nCells []) rfl ((World.ownsRow_nil w2 w2.heap.size 34 5).alloc (.cells #[.int .i64 5, .int .i64 3, .int .i64 0, .int .i64 0, .int .i64 (p2 - p1)] 34)) (w2.heap.size + 1) (some ⟨w2.heap.size, 0, none⟩) 1 1 (encN ⟨5, 3, 0, 0, p2 - p1⟩) rfl (reads_net w2 34 ⟨5, 3, 0, 0, p2 - p1⟩) (by simp [encN, Value.oneCell']) (by simp only [maxLen]; omega) (by omega) (by first | (simp; done) | (simp; omega)) ?_; intro v3 w3 hown3 hg3 hat3; obtain ⟨A3, c3, rfl⟩ := own_shape hown3; have hs3 := hg3.size; simp at hs3) | (at_builtin; refine wpList_append_any _ rfl (.tmp 89) (.tmp 94) _ rfl w2.heap.size 34 i0 _ 5 40 Try.underlying25 hi0 hz0 hz1 hz2 rfl (by omega) (.slice A3 1 c3) 1 (nCells [(⟨5, 3, 0, 0, p2 - p1⟩ : NetD)]) rfl ((show w3.ownsRow w2.heap.size 34 5 (.slice A3 1 c3) 1 (nCells [(⟨5, 3, 0, 0, p2 - p1⟩ : NetD)]) from hown3).alloc (.cells #[.int .i64 3, .int .i64 5, .int .i64 1, .int .i64 0, .int .i64 (q2 - q1)] 34)) (w3.heap.size + 1) (some ⟨w3.heap.size, 0, none⟩) 1 1 (encN ⟨3, 5, 1, 0, q2 - q1⟩) rfl (reads_net w3 34 ⟨3, 5, 1, 0, q2 - q1⟩) (by simp [encN, Value.oneCell']) (by simp only [maxLen]; omega) (by omega) (by first | (simp; done) | (simp; omega)) ?_; intro v4 w4 hown4 hg4 hat4; obtain ⟨A4, c4, rfl⟩ := own_shape hown4; have hs4 := hg4.size; simp at hs4))
        have bl3 := (B2.out.alloc (by have := B2.out.size; omega) (.cells #[.int .i64 5, .int .i64 3, .int .i64 0, .int .i64 0, .int .i64 (p2 - p1)] 34)).grown hg3 (by have := B2.out.size; simp; omega) (fun j hj => by simp [Value.ownBlock] at hj)
        have bl4 := (bl3.alloc (by have := B2.out.size; omega) (.cells #[.int .i64 3, .int .i64 5, .int .i64 1, .int .i64 0, .int .i64 (q2 - q1)] 34)).grown hg4 (by have := B2.out.size; simp; omega) (fun j hj => by have := (own_block hown3 hj).1; have := B2.out.size; omega)
        have HL : Hid (ws = [(⟨5, 3, 0, 0, p2 - p1⟩ : NetD), (⟨3, 5, 1, 0, q2 - q1⟩ : NetD)]) := by
          show ws = _
          have hp := HP.out
          have hq := HQ.out
          rw [HWS.out]
          unfold cashW secW
          rw [if_neg (by omega), if_pos hp]
          rw [if_neg (by omega), if_pos hq]
          rfl
        have RW := Lib.hid (Reads.of_own (show w4.ownsRow w2.heap.size 34 5 (.slice A4 2 c4) 2 (nCells [(⟨5, 3, 0, 0, p2 - p1⟩ : NetD), (⟨3, 5, 1, 0, q2 - q1⟩ : NetD)]) from hown4))
        have F2 : Fr (fun j => w2.heap.size ≤ j) w2 w4 := (((((Fr.refl _ _).alloc _).new (Fr.of_grown (S := fun j => w2.heap.size ≤ j) hg3 (fun j hj => by simp [Value.ownBlock] at hj)) (fun j _ h => h)).alloc _).new (Fr.of_grown (S := fun j => w2.heap.size ≤ j) hg4 (fun j hj => by exact (own_block hown3 hj).1)) (fun j _ h => h))
        have RA := Lib.hid ((Reads.of_own (own_fr O2.out F2 (fun j hj h => by have := (own_block O2.out hj).2.1; omega))))
        refine (first_any w4).mono ?_
        rintro e w8 ⟨rfl, hb8⟩
        have b8 := bl4.trans (hb8.mono (by have := B2.out.size; omega))
        have RW8 := Lib.hid ((RW.out.below hb8).more hb8.size)
        have RA8 := Lib.hid ((RA.out.below hb8).more hb8.size)
        go_wp2_with fail
        refine (samenets_two ws [(⟨5, 3, 0, 0, p2 - p1⟩ : NetD), (⟨3, 5, 1, 0, q2 - q1⟩ : NetD)] HL.out A A4 ws.length 2 d c4 rfl rfl w8 RA8.out RW8.out (by rw [HL.out]; simp)).mono ?_
        rintro e w9 ⟨rfl, hb9⟩
        go_wp2_with fail
        go_ret
        exact ⟨rfl, b8.trans (hb9.mono b8.size)⟩
      · have d1 : decide (p2 < p1) = false := decide_eq_false (by omega) -- ARM lteq
        have d2 : decide (p1 < p2) = true := decide_eq_true (by omega)
        have d3 : decide (q2 < q1) = false := decide_eq_false (by omega)
        have d4 : decide (q1 < q2) = false := decide_eq_false (by omega)
        have HP := Lib.hid hp
        have HQ := Lib.hid hq
        clear hp hq
        go_wp2_with (first | (at_builtin; refine wpList_append_any _ rfl (.tmp 69) (.tmp 74) _ rfl w2.heap.size 34 i0 _ 5 40 Try.underlying25 hi0 hz0 hz1 hz2 rfl (by omega) (.slice none 0 0) 0 (nCells []) rfl ((World.ownsRow_nil w2 w2.heap.size 34 5).alloc (.cells #[.int .i64 5, .int .i64 3, .int .i64 0, .int .i64 0, .int .i64 (p2 - p1)] 34)) (w2.heap.size + 1) (some ⟨w2.heap.size, 0, none⟩) 1 1 (encN ⟨5, 3, 0, 0, p2 - p1⟩) rfl (reads_net w2 34 ⟨5, 3, 0, 0, p2 - p1⟩) (by simp [encN, Value.oneCell']) (by simp only [maxLen]; omega) (by omega) (by first | (simp; done) | (simp; omega)) ?_; intro v3 w3 hown3 hg3 hat3; obtain ⟨A3, c3, rfl⟩ := own_shape hown3; have hs3 := hg3.size; simp at hs3))
        have bl3 := (B2.out.alloc (by have := B2.out.size; omega) (.cells #[.int .i64 5, .int .i64 3, .int .i64 0, .int .i64 0, .int .i64 (p2 - p1)] 34)).grown hg3 (by have := B2.out.size; simp; omega) (fun j hj => by simp [Value.ownBlock] at hj)
        have HL : Hid (ws = [(⟨5, 3, 0, 0, p2 - p1⟩ : NetD)]) := by
          show ws = _
          have hp := HP.out
          have hq := HQ.out
          rw [HWS.out]
          unfold cashW secW
          rw [if_neg (by omega), if_pos hp]
          rw [if_neg (by omega), if_neg (by omega)]
          rfl
        have RW := Lib.hid (Reads.of_own (show w3.ownsRow w2.heap.size 34 5 (.slice A3 1 c3) 1 (nCells [(⟨5, 3, 0, 0, p2 - p1⟩ : NetD)]) from hown3))
        have F2 : Fr (fun j => w2.heap.size ≤ j) w2 w3 := (((Fr.refl _ _).alloc _).new (Fr.of_grown (S := fun j => w2.heap.size ≤ j) hg3 (fun j hj => by simp [Value.ownBlock] at hj)) (fun j _ h => h))
        have RA := Lib.hid ((Reads.of_own (own_fr O2.out F2 (fun j hj h => by have := (own_block O2.out hj).2.1; omega))))
        refine (first_any w3).mono ?_
        rintro e w8 ⟨rfl, hb8⟩
        have b8 := bl3.trans (hb8.mono (by have := B2.out.size; omega))
        have RW8 := Lib.hid ((RW.out.below hb8).more hb8.size)
        have RA8 := Lib.hid ((RA.out.below hb8).more hb8.size)
        go_wp2_with fail
        refine (samenets_two ws [(⟨5, 3, 0, 0, p2 - p1⟩ : NetD)] HL.out A A3 ws.length 1 d c3 rfl rfl w8 RA8.out RW8.out (by rw [HL.out]; simp)).mono ?_
        rintro e w9 ⟨rfl, hb9⟩
        go_wp2_with fail
        go_ret
        exact ⟨rfl, b8.trans (hb9.mono b8.size)⟩
    · rcases (show q2 < q1 ∨ q1 < q2 ∨ q1 = q2 by omega) with hq | hq | hq
      · have d1 : decide (p2 < p1) = false := decide_eq_false (by omega) -- ARM eqgt
        have d2 : decide (p1 < p2) = false := decide_eq_false (by omega)
        have d3 : decide (q2 < q1) = true := decide_eq_true (by omega)
        have d4 : decide (q1 < q2) = false := decide_eq_false (by omega)
        have HP := Lib.hid hp
        have HQ := Lib.hid hq
        clear hp hq
        go_wp2_with (first | (at_builtin; refine wpList_append_any _ rfl (.tmp 79) (.tmp 84) _ rfl w2.heap.size 34 i0 _ 5 40 Try.underlying25 hi0 hz0 hz1 hz2 rfl (by omega) (.slice none 0 0) 0 (nCells []) rfl ((World.ownsRow_nil w2 w2.heap.size 34 5).alloc (.cells #[.int .i64 5, .int .i64 3, .int .i64 1, .int .i64 0, .int .i64 (q1 - q2)] 34)) (w2.heap.size + 1) (some ⟨w2.heap.size, 0, none⟩) 1 1 (encN ⟨5, 3, 1, 0, q1 - q2⟩) rfl (reads_net w2 34 ⟨5, 3, 1, 0, q1 - q2⟩) (by simp [encN, Value.oneCell']) (by simp only [maxLen]; omega) (by omega) (by first | (simp; done) | (simp; omega)) ?_; intro v3 w3 hown3 hg3 hat3; obtain ⟨A3, c3, rfl⟩ := own_shape hown3; have hs3 := hg3.size; simp at hs3))
        have bl3 := (B2.out.alloc (by have := B2.out.size; omega) (.cells #[.int .i64 5, .int .i64 3, .int .i64 1, .int .i64 0, .int .i64 (q1 - q2)] 34)).grown hg3 (by have := B2.out.size; simp; omega) (fun j hj => by simp [Value.ownBlock] at hj)
        have HL : Hid (ws = [(⟨5, 3, 1, 0, q1 - q2⟩ : NetD)]) := by
          show ws = _
          have hp := HP.out
          have hq := HQ.out
          rw [HWS.out]
          unfold cashW secW
          rw [if_neg (by omega), if_neg (by omega)]
          rw [if_pos hq]
          rfl
        have RW := Lib.hid (Reads.of_own (show w3.ownsRow w2.heap.size 34 5 (.slice A3 1 c3) 1 (nCells [(⟨5, 3, 1, 0, q1 - q2⟩ : NetD)]) from hown3))
        have F2 : Fr (fun j => w2.heap.size ≤ j) w2 w3 := (((Fr.refl _ _).alloc _).new (Fr.of_grown (S := fun j => w2.heap.size ≤ j) hg3 (fun j hj => by simp [Value.ownBlock] at hj)) (fun j _ h => h))
        have RA := Lib.hid ((Reads.of_own (own_fr O2.out F2 (fun j hj h => by have := (own_block O2.out hj).2.1; omega))))
        refine (first_any w3).mono ?_
        rintro e w8 ⟨rfl, hb8⟩
        have b8 := bl3.trans (hb8.mono (by have := B2.out.size; omega))
        have RW8 := Lib.hid ((RW.out.below hb8).more hb8.size)
        have RA8 := Lib.hid ((RA.out.below hb8).more hb8.size)
        go_wp2_with fail
        refine (samenets_two ws [(⟨5, 3, 1, 0, q1 - q2⟩ : NetD)] HL.out A A3 ws.length 1 d c3 rfl rfl w8 RA8.out RW8.out (by rw [HL.out]; simp)).mono ?_
        rintro e w9 ⟨rfl, hb9⟩
        go_wp2_with fail
        go_ret
        exact ⟨rfl, b8.trans (hb9.mono b8.size)⟩
      · have d1 : decide (p2 < p1) = false := decide_eq_false (by omega) -- ARM eqlt
        have d2 : decide (p1 < p2) = false := decide_eq_false (by omega)
        have d3 : decide (q2 < q1) = false := decide_eq_false (by omega)
        have d4 : decide (q1 < q2) = true := decide_eq_true (by omega)
        have HP := Lib.hid hp
        have HQ := Lib.hid hq
        clear hp hq
        go_wp2_with (first | (at_builtin; refine wpList_append_any _ rfl (.tmp 89) (.tmp 94) _ rfl w2.heap.size 34 i0 _ 5 40 Try.underlying25 hi0 hz0 hz1 hz2 rfl (by omega) (.slice none 0 0) 0 (nCells []) rfl ((World.ownsRow_nil w2 w2.heap.size 34 5).alloc (.cells #[.int .i64 3, .int .i64 5, .int .i64 1, .int .i64 0, .int .i64 (q2 - q1)] 34)) (w2.heap.size + 1) (some ⟨w2.heap.size, 0, none⟩) 1 1 (encN ⟨3, 5, 1, 0, q2 - q1⟩) rfl (reads_net w2 34 ⟨3, 5, 1, 0, q2 - q1⟩) (by simp [encN, Value.oneCell']) (by simp only [maxLen]; omega) (by omega) (by first | (simp; done) | (simp; omega)) ?_; intro v3 w3 hown3 hg3 hat3; obtain ⟨A3, c3, rfl⟩ := own_shape hown3; have hs3 := hg3.size; simp at hs3))
        have bl3 := (B2.out.alloc (by have := B2.out.size; omega) (.cells #[.int .i64 3, .int .i64 5, .int .i64 1, .int .i64 0, .int .i64 (q2 - q1)] 34)).grown hg3 (by have := B2.out.size; simp; omega) (fun j hj => by simp [Value.ownBlock] at hj)
        have HL : Hid (ws = [(⟨3, 5, 1, 0, q2 - q1⟩ : NetD)]) := by
          show ws = _
          have hp := HP.out
          have hq := HQ.out
          rw [HWS.out]
          unfold cashW secW
          rw [if_neg (by omega), if_neg (by omega)]
          rw [if_neg (by omega), if_pos hq]
          rfl
        have RW := Lib.hid (Reads.of_own (show w3.ownsRow w2.heap.size 34 5 (.slice A3 1 c3) 1 (nCells [(⟨3, 5, 1, 0, q2 - q1⟩ : NetD)]) from hown3))
        have F2 : Fr (fun j => w2.heap.size ≤ j) w2 w3 := (((Fr.refl _ _).alloc _).new (Fr.of_grown (S := fun j => w2.heap.size ≤ j) hg3 (fun j hj => by simp [Value.ownBlock] at hj)) (fun j _ h => h))
        have RA := Lib.hid ((Reads.of_own (own_fr O2.out F2 (fun j hj h => by have := (own_block O2.out hj).2.1; omega))))
        refine (first_any w3).mono ?_
        rintro e w8 ⟨rfl, hb8⟩
        have b8 := bl3.trans (hb8.mono (by have := B2.out.size; omega))
        have RW8 := Lib.hid ((RW.out.below hb8).more hb8.size)
        have RA8 := Lib.hid ((RA.out.below hb8).more hb8.size)
        go_wp2_with fail
        refine (samenets_two ws [(⟨3, 5, 1, 0, q2 - q1⟩ : NetD)] HL.out A A3 ws.length 1 d c3 rfl rfl w8 RA8.out RW8.out (by rw [HL.out]; simp)).mono ?_
        rintro e w9 ⟨rfl, hb9⟩
        go_wp2_with fail
        go_ret
        exact ⟨rfl, b8.trans (hb9.mono b8.size)⟩
      · have d1 : decide (p2 < p1) = false := decide_eq_false (by omega) -- ARM eqeq
        have d2 : decide (p1 < p2) = false := decide_eq_false (by omega)
        have d3 : decide (q2 < q1) = false := decide_eq_false (by omega)
        have d4 : decide (q1 < q2) = false := decide_eq_false (by omega)
        have HP := Lib.hid hp
        have HQ := Lib.hid hq
        clear hp hq
        go_wp2_with fail
        have HL : Hid (ws = []) := by
          show ws = _
          have hp := HP.out
          have hq := HQ.out
          rw [HWS.out]
          unfold cashW secW
          rw [if_neg (by omega), if_neg (by omega)]
          rw [if_neg (by omega), if_neg (by omega)]
          rfl
        have RW := Lib.hid (Reads.of_own (World.ownsRow_nil w2 w2.heap.size 34 5))
        have RA := Lib.hid (Reads.of_own O2.out)
        refine (first_any w2).mono ?_
        rintro e w8 ⟨rfl, hb8⟩
        have b8 := B2.out.trans (hb8.mono (by have := B2.out.size; omega))
        have RW8 := Lib.hid ((RW.out.below hb8).more hb8.size)
        have RA8 := Lib.hid ((RA.out.below hb8).more hb8.size)
        go_wp2_with fail
        refine (samenets_two ws [] HL.out A none ws.length 0 d 0 rfl rfl w8 RA8.out RW8.out (by rw [HL.out]; simp)).mono ?_
        rintro e w9 ⟨rfl, hb9⟩
        go_wp2_with fail
        go_ret
        exact ⟨rfl, b8.trans (hb9.mono b8.size)⟩
  · have hno : (p1 < 1) ∨ (¬ p1 < 1 ∧ 1000000 < p1) ∨ (¬ p1 < 1 ∧ ¬ 1000000 < p1 ∧ q1 < 1) ∨ (¬ p1 < 1 ∧ ¬ 1000000 < p1 ∧ ¬ q1 < 1 ∧ 1000000 < q1) ∨ (¬ p1 < 1 ∧ ¬ 1000000 < p1 ∧ ¬ q1 < 1 ∧ ¬ 1000000 < q1 ∧ p2 < 1) ∨ (¬ p1 < 1 ∧ ¬ 1000000 < p1 ∧ ¬ q1 < 1 ∧ ¬ 1000000 < q1 ∧ ¬ p2 < 1 ∧ 1000000 < p2) ∨ (¬ p1 < 1 ∧ ¬ 1000000 < p1 ∧ ¬ q1 < 1 ∧ ¬ 1000000 < q1 ∧ ¬ p2 < 1 ∧ ¬ 1000000 < p2 ∧ q2 < 1) ∨ (¬ p1 < 1 ∧ ¬ 1000000 < p1 ∧ ¬ q1 < 1 ∧ ¬ 1000000 < q1 ∧ ¬ p2 < 1 ∧ ¬ 1000000 < p2 ∧ ¬ q2 < 1 ∧ 1000000 < q2) := by omega -- ARM out
    clear hin
    rcases hno with m0 | ⟨m0, m1⟩ | ⟨m0, m1, m2⟩ | ⟨m0, m1, m2, m3⟩ | ⟨m0, m1, m2, m3, m4⟩ | ⟨m0, m1, m2, m3, m4, m5⟩ | ⟨m0, m1, m2, m3, m4, m5, m6⟩ | ⟨m0, m1, m2, m3, m4, m5, m6, m7⟩
    · have a0 : decide (p1 < 1) = true := decide_eq_true m0
      clear m0
      go_enter Try.func4, Try.ntmps4
      go_wp2_with fail
      refine (first_any w).mono ?_
      rintro e w1 ⟨rfl, hb1⟩
      go_wp2_with fail
      refine (first_any w1).mono ?_
      rintro e w2 ⟨rfl, hb2⟩
      go_wp2_with fail
      go_ret
      exact ⟨rfl, hb1.trans (hb2.mono hb1.size)⟩
    · have a0 : decide (p1 < 1) = false := decide_eq_false m0
      have a1 : decide (1000000 < p1) = true := decide_eq_true m1
      clear m0 m1
      go_enter Try.func4, Try.ntmps4
      go_wp2_with fail
      refine (first_any w).mono ?_
      rintro e w1 ⟨rfl, hb1⟩
      go_wp2_with fail
      refine (first_any w1).mono ?_
      rintro e w2 ⟨rfl, hb2⟩
      go_wp2_with fail
      go_ret
      exact ⟨rfl, hb1.trans (hb2.mono hb1.size)⟩
    · have a0 : decide (p1 < 1) = false := decide_eq_false m0
      have a1 : decide (1000000 < p1) = false := decide_eq_false m1
      have a2 : decide (q1 < 1) = true := decide_eq_true m2
      clear m0 m1 m2
      go_enter Try.func4, Try.ntmps4
      go_wp2_with fail
      refine (first_any w).mono ?_
      rintro e w1 ⟨rfl, hb1⟩
      go_wp2_with fail
      refine (first_any w1).mono ?_
      rintro e w2 ⟨rfl, hb2⟩
      go_wp2_with fail
      go_ret
      exact ⟨rfl, hb1.trans (hb2.mono hb1.size)⟩
    · have a0 : decide (p1 < 1) = false := decide_eq_false m0
      have a1 : decide (1000000 < p1) = false := decide_eq_false m1
      have a2 : decide (q1 < 1) = false := decide_eq_false m2
      have a3 : decide (1000000 < q1) = true := decide_eq_true m3
      clear m0 m1 m2 m3
      go_enter Try.func4, Try.ntmps4
      go_wp2_with fail
      refine (first_any w).mono ?_
      rintro e w1 ⟨rfl, hb1⟩
      go_wp2_with fail
      refine (first_any w1).mono ?_
      rintro e w2 ⟨rfl, hb2⟩
      go_wp2_with fail
      go_ret
      exact ⟨rfl, hb1.trans (hb2.mono hb1.size)⟩
    · have a0 : decide (p1 < 1) = false := decide_eq_false m0
      have a1 : decide (1000000 < p1) = false := decide_eq_false m1
      have a2 : decide (q1 < 1) = false := decide_eq_false m2
      have a3 : decide (1000000 < q1) = false := decide_eq_false m3
      have a4 : decide (p2 < 1) = true := decide_eq_true m4
      clear m0 m1 m2 m3 m4
      go_enter Try.func4, Try.ntmps4
      go_wp2_with fail
      refine (first_any w).mono ?_
      rintro e w1 ⟨rfl, hb1⟩
      go_wp2_with fail
      refine (first_any w1).mono ?_
      rintro e w2 ⟨rfl, hb2⟩
      go_wp2_with fail
      go_ret
      exact ⟨rfl, hb1.trans (hb2.mono hb1.size)⟩
    · have a0 : decide (p1 < 1) = false := decide_eq_false m0
      have a1 : decide (1000000 < p1) = false := decide_eq_false m1
      have a2 : decide (q1 < 1) = false := decide_eq_false m2
      have a3 : decide (1000000 < q1) = false := decide_eq_false m3
      have a4 : decide (p2 < 1) = false := decide_eq_false m4
      have a5 : decide (1000000 < p2) = true := decide_eq_true m5
      clear m0 m1 m2 m3 m4 m5
      go_enter Try.func4, Try.ntmps4
      go_wp2_with fail
      refine (first_any w).mono ?_
      rintro e w1 ⟨rfl, hb1⟩
      go_wp2_with fail
      refine (first_any w1).mono ?_
      rintro e w2 ⟨rfl, hb2⟩
      go_wp2_with fail
      go_ret
      exact ⟨rfl, hb1.trans (hb2.mono hb1.size)⟩
    · have a0 : decide (p1 < 1) = false := decide_eq_false m0
      have a1 : decide (1000000 < p1) = false := decide_eq_false m1
      have a2 : decide (q1 < 1) = false := decide_eq_false m2
      have a3 : decide (1000000 < q1) = false := decide_eq_false m3
      have a4 : decide (p2 < 1) = false := decide_eq_false m4
      have a5 : decide (1000000 < p2) = false := decide_eq_false m5
      have a6 : decide (q2 < 1) = true := decide_eq_true m6
      clear m0 m1 m2 m3 m4 m5 m6
      go_enter Try.func4, Try.ntmps4
      go_wp2_with fail
      refine (first_any w).mono ?_
      rintro e w1 ⟨rfl, hb1⟩
      go_wp2_with fail
      refine (first_any w1).mono ?_
      rintro e w2 ⟨rfl, hb2⟩
      go_wp2_with fail
      go_ret
      exact ⟨rfl, hb1.trans (hb2.mono hb1.size)⟩
    · have a0 : decide (p1 < 1) = false := decide_eq_false m0
      have a1 : decide (1000000 < p1) = false := decide_eq_false m1
      have a2 : decide (q1 < 1) = false := decide_eq_false m2
      have a3 : decide (1000000 < q1) = false := decide_eq_false m3
      have a4 : decide (p2 < 1) = false := decide_eq_false m4
      have a5 : decide (1000000 < p2) = false := decide_eq_false m5
      have a6 : decide (q2 < 1) = false := decide_eq_false m6
      have a7 : decide (1000000 < q2) = true := decide_eq_true m7
      clear m0 m1 m2 m3 m4 m5 m6 m7
      go_enter Try.func4, Try.ntmps4
      go_wp2_with fail
      refine (first_any w).mono ?_
      rintro e w1 ⟨rfl, hb1⟩
      go_wp2_with fail
      refine (first_any w1).mono ?_
      rintro e w2 ⟨rfl, hb2⟩
      go_wp2_with fail
      go_ret
      exact ⟨rfl, hb1.trans (hb2.mono hb1.size)⟩
end Go.Proofs.Ytggpdbfkfcoejaa
