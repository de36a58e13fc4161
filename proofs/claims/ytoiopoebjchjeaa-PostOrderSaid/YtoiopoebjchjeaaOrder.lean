/-
  PostOrder: those that wait keep their order; a copy is behind all; what was handed in may be turned behind it.
-/
import Derived.Test.YtoiopoebjchjeaaPutQ
namespace Go.Proofs.Ytoiopoebjchjeaa
open Go.RowKit

def ordP (i : Nat) : Pk := ((i : Int), [UInt8.ofNat i, 1])
def ordL (n : Nat) : List Pk := (List.range n).map ordP
theorem ordL_length (n : Nat) : (ordL n).length = n := by simp [ordL]
theorem ordL_succ (n : Nat) : ordL (n + 1) = ordL n ++ [((n : Int), [UInt8.ofNat n, 1])] := by simp [ordL, List.range_succ, ordP]
theorem ordL_at (n k : Nat) (h : k < (ordL n).length) : (ordL n)[k] = ordP k := by simp [ordL]
/-- The list with one taken out, and put behind all. -/
def ordM (n a : Nat) : List Pk := (ordL n ++ [ordP a]).eraseIdx a
theorem ordM_length (n a : Nat) (h : a < n) : (ordM n a).length = n := by
  unfold ordM
  rw [List.length_eraseIdx, if_pos (by simp [ordL_length]; omega)]
  simp [ordL_length]
theorem ordM_at (n a k : Nat) (h : a < n) (hk : k < n) : atL (ordM n a) (k : Int) = if k < a then ordP k else if k + 1 < n then ordP (k + 1) else ordP a := by
  rw [atL_in (by rw [ordM_length n a h]; exact hk)]
  unfold ordM
  rw [List.getElem_eraseIdx]
  split
  · rw [List.getElem_append_left (by rw [ordL_length]; omega), ordL_at]
  · by_cases h1 : k + 1 < n
    · rw [if_pos h1, List.getElem_append_left (by rw [ordL_length]; omega), ordL_at]
    · rw [if_neg h1, List.getElem_append_right (by rw [ordL_length]; omega)]
      simp

theorem reads_pair (w : World) (b c : UInt8) (m n : Int) (h : (b.toNat : Int) = m) (h' : (c.toNat : Int) = n) (t : TypeId) (fr : Nat × Nat) : Reads (w.alloc (.cells #[.int .u8 m, .int .u8 n] t fr)) (w.heap.size + 1) 1 (some ⟨w.heap.size, 0, none⟩) 2 (bv [b, c]) := by
  subst h
  subst h'
  refine ⟨rfl, fun _ => ⟨_, rfl, by simp, fun j u hu => ?_⟩⟩
  match j, hu with
  | 0, hu =>
    have hu' : Value.int .u8 (b.toNat : Int) = u := by simpa [bv] using hu
    subst hu'
    rw [Addr.add_lit, cell_of_row _ w.heap.size _ #[.int .u8 (b.toNat : Int), .int .u8 (c.toNat : Int)] t fr (heap_alloc_new w _)]
    rfl
  | 1, hu =>
    have hu' : Value.int .u8 (c.toNat : Int) = u := by simpa [bv] using hu
    subst hu'
    rw [Addr.add_lit, cell_of_row _ w.heap.size _ #[.int .u8 (b.toNat : Int), .int .u8 (c.toNat : Int)] t fr (heap_alloc_new w _)]
    rfl
theorem own_pair {w : World} {base : Nat} {e : TypeId} {c : Nat} {A : Option Addr} {x y : Value} (h : w.ownsRow base e 1 (.slice A 2 c) 2 [x, y]) : ∃ g, A = some ⟨g, 0, none⟩ ∧ g < w.heap.size ∧ w.cell? ⟨g, 0, none⟩ = some x ∧ w.cell? ⟨g, 1, none⟩ = some y := by
  obtain ⟨g, cap, hv, _, hlt⟩ := h.form (by omega)
  injection hv with hA _ _
  subst hA
  have h0 := h.cells (g := g) rfl 0 x rfl
  have h1 := h.cells (g := g) rfl 1 y rfl
  rw [Addr.add_lit] at h0 h1
  exact ⟨g, rfl, hlt, by simpa using h0, by simpa using h1⟩
theorem cell_alloc_lt {w : World} {g i : Nat} {o : Obj} (h : g < w.heap.size) : (w.alloc o).cell? ⟨g, i, none⟩ = w.cell? ⟨g, i, none⟩ := World.cell?_alloc_lt w o _ h

/-- What holds at every round's head, while texts are put .. -/
def OrdRel (B : Nat) (w : World) (n : Nat) (i : Value) (wr : World) : Prop :=
  ∃ k : Nat, k ≤ n ∧ i = .int .i64 k ∧ PXE wr B B 150 (ordL k) ∧ Below w.heap.size w wr
/-- .. and while they are looked at. -/
def OrdRel2 (B : Nat) (w : World) (n a : Nat) (i : Value) (wr : World) : Prop :=
  ∃ k : Nat, k ≤ n ∧ i = .int .i64 k ∧ PXE wr B B 150 (ordM n a) ∧ Below w.heap.size w wr

set_option maxRecDepth 100000 in
set_option maxHeartbeats 4000000 in
theorem order_any (n a : Int) (w : World) : Calls Try.prog 5 #[.int .i64 n, .int .i64 a] w fun e w' => e = .returned (.bool true) ∧ Below w.heap.size w w' := by
  by_cases hin : 1 ≤ n ∧ n ≤ 100 ∧ 0 ≤ a ∧ a < n
  · obtain ⟨n1, n2, a1, a2⟩ := hin
    obtain ⟨n, rfl⟩ := Int.eq_ofNat_of_zero_le (by omega : 0 ≤ n)
    obtain ⟨a, rfl⟩ := Int.eq_ofNat_of_zero_le (by omega : 0 ≤ a)
    go_enter Try.func5, Try.ntmps5
    go_wp2_with fail
    refine (first_any w).mono ?_
    rintro e w0 ⟨rfl, hb0⟩
    go_wp2_with fail
    refine (new_in 150 w0 (by omega)).mono ?_
    rintro e w1 ⟨rfl, hx1, hb1⟩
    go_wp2_with fail
    have e1 : decide ((n : Int) < 1) = false := decide_eq_false (by omega)
    have e2 : decide (100 < (n : Int)) = false := decide_eq_false (by omega)
    have e3 : decide ((a : Int) < 0) = false := decide_eq_false (by omega)
    have e4 : decide (n ≤ a) = false := decide_eq_false (by omega)
    simp only [e1, e2, e3, e4, Bool.or_false]
    clear e1 e2 e3 e4
    go_loopw [7] (fun i wr => OrdRel w0.heap.size w n i wr) (fun i _ => 300 - (intOf i).toNat)
    case atStart => exact ⟨0, by omega, rfl, hx1, hb0.trans (hb1.mono hb0.size)⟩
    case round =>
      obtain ⟨k, hk, rfl, hx, hb⟩ := hrel
      have hB := hb0.size
      clear hx1
      obtain ⟨hx0, _, rb, hx⟩ := hx
      have hgr := hx.lt
      by_cases hlt : (k : Int) < (n : Int)
      · have hkb : Hid (((UInt8.ofNat k).toNat : Int) = (k : Int)) := by
          have : (UInt8.ofNat k).toNat = k := by simp; omega
          show _ = _
          omega
        have hq := (hx.pxq (Q := fun j => j ≠ wr.heap.size) (fun j hj e => by omega)).below ((Below.refl _ _).alloc (Nat.le_refl _) (.cells #[.int .u8 k, .int .u8 1] 5))
        have HQ := Lib.hid hq
        have hns : ¬ PS w0.heap.size rb wr.heap.size := by
          rintro (e | e)
          · omega
          · have := (hx.row e).2.1; omega
        have Hns := Lib.hid hns
        clear hx hq hns
        go_wp2_with fail
        refine (put_q w0.heap.size w0.heap.size rb 150 (ordL k) _ k (some ⟨wr.heap.size, 0, none⟩) 2 2 [UInt8.ofNat k, 1] _ HQ.out (by intro j hj e; simp at hj; omega) (by simp; omega) ((reads_pair wr _ _ _ _ hkb.out rfl _ _).more (by simp)) (by simp) (by omega) (by rw [ordL_length]; omega) (by simp)).mono ?_
        rintro e w2 ⟨rb', rfl, hq2, hm2, hf2⟩
        have r2 := (Blk.new wr 5 #[.int .u8 k, .int .u8 1]).fr hf2 Hns.out
        obtain ⟨⟨q0, q1⟩, g0, g1⟩ := Blk.two r2
        have hz2 := r2.lt
        rw [← ordL_succ] at hq2
        have hx3 := hq2.set r2 1 (.int .u8 9)
        have b2 : Below w.heap.size w w2 := ((hb.alloc hb.size _).trans ((hf2.below (B := w0.heap.size) (by simp; omega) (HQ.out.px.ps_ge (Nat.le_refl _))).mono hB))
        have X3 := Lib.hid hx3
        clear hx3 hq2
        go_wp2_with fail
        go_roundw
        case rel => exact ⟨k + 1, by omega, by go_num, ⟨by simp; omega, Nat.le_refl _, rb', X3.out⟩, below_only b2 (set_only _ _ _ _) b2.size (by omega)⟩
        case measure => simp [intOf]; omega
      · obtain rfl : k = n := by omega
        have hal : a < (ordL k).length := by rw [ordL_length]; omega
        have hat : atL (ordL k) (a : Int) = ordP a := by rw [atL_in hal, ordL_at]
        have S1 : copyL 150 (ordL k) (a : Int) = (ordL k ++ [ordP a], 0) := by rw [copyL_yes (okL_in hal), putL_ok (by rw [ordL_length]; omega) (by rw [hat]; simp [ordP]), hat]
        have hl2 : (ordL k ++ [ordP a]).length = k + 1 := by simp [ordL_length]
        have hO2 : okL (ordL k ++ [ordP a]) (k : Int) = true := okL_in (by omega)
        have hA2 : atL (ordL k ++ [ordP a]) (k : Int) = ((a : Int), [UInt8.ofNat a, 1]) := by
          rw [atL_in (by omega), List.getElem_append_right (by rw [ordL_length]; omega)]
          simp [ordP]
        have hO3 : okL (ordL k ++ [ordP a]) (a : Int) = true := okL_in (by omega)
        have hA3 : atL (ordL k ++ [ordP a]) (a : Int) = ((a : Int), [UInt8.ofNat a, 1]) := by
          rw [atL_in (by omega), List.getElem_append_left hal, ordL_at]
          rfl
        have hD3 : dropL (ordL k ++ [ordP a]) (a : Int) = ordM k a := dropL_in (by omega)
        have hML := ordM_length k a (by omega)
        have hab : Hid (((UInt8.ofNat a).toNat : Int) = (a : Int)) := by
          have : (UInt8.ofNat a).toNat = a := by simp; omega
          show _ = _
          omega
        have hMA := fun j (hj : j < k) => ordM_at k a j (by omega) hj
        have S1 := Lib.hid S1
        have O2 := Lib.hid hO2
        have A2 := Lib.hid hA2
        have O3 := Lib.hid hO3
        have A3 := Lib.hid hA3
        have D3 := Lib.hid hD3
        have ML := Lib.hid hML
        have MA := Lib.hid hMA
        have HX := Lib.hid hx
        clear hat hl2 hal hO2 hA2 hO3 hA3 hD3 hML hMA hx
        go_wp2_with fail
        refine (copyp_any w0.heap.size w0.heap.size rb 150 (ordL k) a wr HX.out hx0).mono ?_
        rw [S1.out]
        rintro e w2 ⟨rb2, rfl, hx2, hm2, hf2⟩
        have b2 : Below w.heap.size w w2 := hb.trans ((hf2.below (B := w0.heap.size) hx0 (HX.out.ps_ge (Nat.le_refl _))).mono hB)
        have h02 : w0.heap.size ≤ w2.heap.size := Nat.le_trans hx0 hf2.size
        go_wp2_with fail
        refine (at_any w0.heap.size w0.heap.size rb2 150 _ k w2 hx2).mono ?_
        rintro e w3 ⟨v, rfl, ho3, hb3⟩
        rw [A2.out] at ho3
        rw [O2.out]
        obtain ⟨Ab, cb, rfl, ho3⟩ := ho3
        simp only [List.length_cons, List.length_nil] at ho3 ⊢
        have hx3 := hx2.below hb3
        have b3 : Below w.heap.size w w3 := b2.trans (hb3.mono b2.size)
        have h03 : w0.heap.size ≤ w3.heap.size := Nat.le_trans h02 hb3.size
        have X3 := Lib.hid (hx3.below ((Below.refl _ _).alloc (Nat.le_refl _) (.cells #[.int .i64 a, .slice Ab 2 cb] 37)))
        have hns3 : ¬ PS w0.heap.size rb2 w3.heap.size := by
          rintro (e | e)
          · have := hx3.lt; omega
          · have := (hx3.row e).2.1; omega
        have N3 := Lib.hid hns3
        have P3 : Hid (PD.ok ⟨a, Ab, cb, [UInt8.ofNat a, 1]⟩ (w3.alloc (.cells #[.int .i64 a, .slice Ab 2 cb] 37)) w2.heap.size) := ho3.alloc _
        clear ho3 hx3 hns3 hx2
        go_wp2_with fail
        refine (take_any w0.heap.size w0.heap.size rb2 150 _ a _ X3.out (by simp; omega)).mono ?_
        rintro e w4 ⟨v, rb4, rfl, ho4, hx4, hm4, hf4⟩
        rw [A3.out] at ho4
        rw [O3.out]
        obtain ⟨Ac, cc, rfl, ho4⟩ := ho4
        simp only [List.length_cons, List.length_nil] at ho4 ⊢
        rw [D3.out] at hx4
        have b4 : Below w.heap.size w w4 := (b3.alloc b3.size _).trans ((hf4.below (B := w0.heap.size) (by simp; omega) (X3.out.ps_ge (Nat.le_refl _))).mono hB)
        have r3 := (Blk.new w3 37 #[.int .i64 a, .slice Ab 2 cb]).fr hf4 N3.out
        have ho3 : w4.ownsRow w2.heap.size 5 1 (.slice Ab 2 cb) 2 (bv [UInt8.ofNat a, 1]) := P3.out.fr hf4 X3.out.nobytes
        obtain ⟨gb, rfl, hgb, eb0, eb1⟩ := own_pair ho3
        obtain ⟨gc, rfl, hgc, ec0, ec1⟩ := own_pair ho4
        have eb0' : w4.cell? ⟨gb, 0, none⟩ = some (.int .u8 a) := by rw [eb0, ← hab.out]
        have ec1' : w4.cell? ⟨gc, 1, none⟩ = some (.int .u8 1) := ec1
        obtain ⟨⟨q0, q1⟩, g0, g1⟩ := Blk.two r3
        have hz4 := r3.lt
        have h04 : w0.heap.size ≤ w4.heap.size := by omega
        have X4 := Lib.hid (hx4.below ((Below.refl _ _).alloc (Nat.le_refl _) (.cells #[.int .i64 a, .slice (some ⟨gc, 0, none⟩) 2 cc] 37)))
        clear ho3 ho4 r3 ec1 hx4 eb0 eb1 ec0
        go_wp2_with fail
        go_loopw [13] (fun i wr => OrdRel2 w0.heap.size w k a i wr) (fun i _ => 300 - (intOf i).toNat)
        case atStart => exact ⟨0, by omega, rfl, ⟨by simp; omega, Nat.le_refl _, rb4, X4.out⟩, b4.alloc b4.size _⟩
        case round =>
          obtain ⟨j, hj, rfl, hx, hb⟩ := hrel
          have HX5 := Lib.hid hx
          by_cases hjk : (j : Int) < (k : Int)
          · have hOj : okL (ordM k a) (j : Int) = true := okL_in (by rw [ML.out]; omega)
            have Oj := Lib.hid hOj
            have hAj := MA.out j (by omega)
            by_cases h1 : j < a
            · have Hc := Lib.hid (show atL (ordM k a) (j : Int) = (((j : Nat) : Int), [UInt8.ofNat (j), 1]) from by rw [hAj, if_pos h1]; rfl)
              clear hAj hOj hx
              go_wp2_with fail
              refine (at_b w0.heap.size w0.heap.size 150 _ j _ HX5.out).mono ?_
              rintro e w6 ⟨v, rfl, ho6, hb6⟩
              rw [Hc.out] at ho6
              rw [Oj.out]
              obtain ⟨A6, c6, rfl, ho6⟩ := ho6
              simp only [List.length_cons, List.length_nil] at ho6 ⊢
              have X6 := Lib.hid (HX5.out.below hb6)
              clear ho6
              go_wp2_with fail
              go_roundw
              case rel => exact ⟨j + 1, by omega, by go_num, X6.out.alloc _, (hb.trans (hb6.mono hb.size)).alloc (hb.trans (hb6.mono hb.size)).size _⟩
              case measure => simp [intOf]; omega
            · by_cases h2 : j + 1 < k
              · have Hc := Lib.hid (show atL (ordM k a) (j : Int) = (((j + 1 : Nat) : Int), [UInt8.ofNat (j + 1), 1]) from by rw [hAj, if_neg h1, if_pos h2]; rfl)
                clear hAj hOj hx
                go_wp2_with fail
                refine (at_b w0.heap.size w0.heap.size 150 _ j _ HX5.out).mono ?_
                rintro e w6 ⟨v, rfl, ho6, hb6⟩
                rw [Hc.out] at ho6
                rw [Oj.out]
                obtain ⟨A6, c6, rfl, ho6⟩ := ho6
                simp only [List.length_cons, List.length_nil] at ho6 ⊢
                have X6 := Lib.hid (HX5.out.below hb6)
                clear ho6
                go_wp2_with fail
                go_roundw
                case rel => exact ⟨j + 1, by omega, by go_num, X6.out.alloc _, (hb.trans (hb6.mono hb.size)).alloc (hb.trans (hb6.mono hb.size)).size _⟩
                case measure => simp [intOf]; omega
              · have hjl : j + 1 = k := by omega
                have Hc := Lib.hid (show atL (ordM k a) (j : Int) = (((a : Nat) : Int), [UInt8.ofNat (a), 1]) from by rw [hAj, if_neg h1, if_neg h2]; rfl)
                clear hAj hOj hx
                go_wp2_with fail
                refine (at_b w0.heap.size w0.heap.size 150 _ j _ HX5.out).mono ?_
                rintro e w6 ⟨v, rfl, ho6, hb6⟩
                rw [Hc.out] at ho6
                rw [Oj.out]
                obtain ⟨A6, c6, rfl, ho6⟩ := ho6
                simp only [List.length_cons, List.length_nil] at ho6 ⊢
                have X6 := Lib.hid (HX5.out.below hb6)
                clear ho6
                go_wp2_with fail
                go_roundw
                case rel => exact ⟨j + 1, by omega, by go_num, X6.out.alloc _, (hb.trans (hb6.mono hb.size)).alloc (hb.trans (hb6.mono hb.size)).size _⟩
                case measure => simp [intOf]; omega
          · clear hx
            go_wp2_with fail
            refine (first_any _).mono ?_
            rintro e w7 ⟨rfl, hb7⟩
            have X7 := Lib.hid (HX5.out.below hb7)
            go_wp2_with fail
            refine (len_b w0.heap.size w0.heap.size 150 _ w7 X7.out).mono ?_
            rintro e w8 ⟨rfl, rfl⟩
            rw [ML.out]
            go_wp2_with fail
            go_ret
            exact ⟨rfl, hb.trans (hb7.mono hb.size)⟩
  · have hno : n < 1 ∨ 100 < n ∨ (1 ≤ n ∧ n ≤ 100 ∧ a < 0) ∨ (1 ≤ n ∧ n ≤ 100 ∧ 0 ≤ a ∧ n ≤ a) := by omega
    clear hin
    rcases hno with hno | hno | ⟨m1, m2, hno⟩ | ⟨m1, m2, m3, hno⟩
    all_goals
      go_enter Try.func5, Try.ntmps5
      go_wp2_with fail
      refine (first_any w).mono ?_
      rintro e w0 ⟨rfl, hb0⟩
      go_wp2_with fail
      refine (new_in 150 w0 (by omega)).mono ?_
      rintro e w1 ⟨rfl, hx1, hb1⟩
      go_wp2_with fail
      refine (first_any w1).mono ?_
      rintro e w2 ⟨rfl, hb2⟩
      go_wp2_with fail
      go_ret
      have B1 := hb0.trans (hb1.mono hb0.size)
      exact ⟨rfl, B1.trans (hb2.mono B1.size)⟩
end Go.Proofs.Ytoiopoebjchjeaa
