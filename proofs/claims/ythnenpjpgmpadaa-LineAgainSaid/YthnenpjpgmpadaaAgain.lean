/-
  LineAgain: the same note as often as it is asked for.
-/
import Derived.Test.YthnenpjpgmpadaaFirst
import Derived.Test.YthnenpjpgmpadaaOpen
import Derived.LoopTactic
import Derived.Laws.BitsAllLaws
import Derived.Laws.BitsLemmas
namespace Go.Proofs.Ythnenpjpgmpadaa
open Go.RowKit

theorem ofInt_i64 (a : Nat) (ha : a < 9223372036854775808) : (BitVec.ofInt 64 (a : Int)).toNat = a := by
  rw [BitVec.ofInt_natCast, BitVec.toNat_ofNat]; exact Nat.mod_eq_of_lt (by omega)
theorem i64_and_nat (a b : Nat) (ha : a < 9223372036854775808) (hb : b < 9223372036854775808) : bits .and .i64 (a : Int) (b : Int) = ((a &&& b : Nat) : Int) := by
  have hx : a &&& b < 2 ^ 63 := Nat.and_lt_two_pow _ (by omega)
  show IntKind.i64.wrap ((BitVec.ofInt 64 (a : Int) &&& BitVec.ofInt 64 (b : Int)).toNat : Int) = _
  rw [BitVec.toNat_and, ofInt_i64 a ha, ofInt_i64 b hb, IntKind.wrap_i64]
  omega
theorem and3 (k : Nat) (h : k < 1000) : bits .and .i64 (k : Int) 3 = ((k % 4 : Nat) : Int) := by
  have := i64_and_nat k 3 (by omega) (by omega)
  rw [show ((3 : Nat) : Int) = 3 from rfl] at this
  rw [this]
  congr 1
  exact Nat.and_two_pow_sub_one_eq_mod k 2

/-- The line that waits. -/
def lw (bs : List UInt8) : LineD := ⟨2, 1, 1, true, bs⟩
theorem lw_send (bs : List UInt8) : (fresh 2 1 0).send bs = (⟨2, 1, 0, 1, bs⟩, 0, lw bs) := rfl
theorem lw_again (bs : List UInt8) : (lw bs).again = (⟨2, 1, 0, 1, bs⟩, true) := rfl
theorem lw_got (bs : List UInt8) : (lw bs).got ⟨2, 1, 1, 1, []⟩ = ([], 0, (lw bs).free) := got_ok (by simp [lw]) (by simp [lw])
theorem lw_after (bs : List UInt8) : (lw bs).free.again = (noNote, false) := rfl
theorem lw_seq (bs : List UInt8) (k : Nat) : (lw bs).got ⟨2, 1, 1, 2 + (k : Int), []⟩ = ([], 5, lw bs) := got_stale (by simp [lw]) (by simp [lw]; omega)
theorem lw_way (bs : List UInt8) : (lw bs).got ⟨2, 1, 0, 1, []⟩ = ([], 14, lw bs) := got_party (by simp)
theorem lw_party (bs : List UInt8) : (lw bs).got ⟨3, 1, 1, 1, []⟩ = ([], 14, lw bs) := got_party (by simp [lw])
theorem lw_ledger (bs : List UInt8) : (lw bs).got ⟨2, 0, 1, 1, []⟩ = ([], 14, lw bs) := got_party (by simp [lw])

/-- What holds at every round's head. -/
def AgRel (B nb : Nat) (w : World) (bs : List UInt8) (A : Option Addr) (c : Nat) (t : Int) (i : Value) (wr : World) : Prop :=
  ∃ k : Nat, (k : Int) ≤ t ∧ i = .int .i64 k ∧ XL wr B B (lw bs) ∧ Blk wr nb 28 #[.int .i64 2, .int .i64 1, .int .i64 0, .int .i64 1, .slice A bs.length c] ∧
    wr.ownsRow 0 5 1 (.slice A bs.length c) bs.length (bv bs) ∧ Below w.heap.size w wr

set_option maxRecDepth 100000 in
set_option maxHeartbeats 4000000 in
theorem lineagain_any (x : TextD) (t : Int) (w : World) (hx : x.ok w) : Calls Try.prog 6 #[.slice x.A x.n x.c, .int .i64 t] w fun e w' => e = .returned (.bool true) ∧ Below w.heap.size w w' := by
  obtain ⟨A, n, c, bs⟩ := x
  obtain ⟨hr, hnil, hmax⟩ := hx
  simp only at hr hnil hmax ⊢
  obtain rfl : bs.length = n := by have := hr.1; simp [bv] at this; omega
  have Hnil := Lib.hid hnil
  clear hnil
  unfold maxLen at hmax
  by_cases hbig : 1000 < bs.length
  · have hbig' : (1000 : Int) < (bs.length : Int) := by omega
    go_enter Try.func6, Try.ntmps6
    go_wp2_with fail
    refine (first_any w).mono ?_
    rintro e w0 ⟨rfl, hb0⟩
    go_wp2_with fail
    refine (new_any 2 1 0 w0).mono ?_
    rintro e w1 ⟨rfl, hx1, hb1⟩
    go_wp2_with fail
    refine (first_any w1).mono ?_
    rintro e w2 ⟨rfl, hb2⟩
    go_wp2_with fail
    go_ret
    exact ⟨rfl, (hb0.trans (hb1.mono hb0.size)).trans (hb2.mono (Nat.le_trans hb0.size hb1.size))⟩
  · have h1 : bs.length ≤ 1000 := by omega
    clear hbig
    by_cases h2 : t < 0
    · go_enter Try.func6, Try.ntmps6
      go_wp2_with fail
      refine (first_any w).mono ?_
      rintro e w0 ⟨rfl, hb0⟩
      go_wp2_with fail
      refine (new_any 2 1 0 w0).mono ?_
      rintro e w1 ⟨rfl, hx1, hb1⟩
      go_wp2_with fail
      refine (first_any w1).mono ?_
      rintro e w2 ⟨rfl, hb2⟩
      go_wp2_with fail
      go_ret
      exact ⟨rfl, (hb0.trans (hb1.mono hb0.size)).trans (hb2.mono (Nat.le_trans hb0.size hb1.size))⟩
    · by_cases h3 : 50 < t
      · go_enter Try.func6, Try.ntmps6
        go_wp2_with fail
        refine (first_any w).mono ?_
        rintro e w0 ⟨rfl, hb0⟩
        go_wp2_with fail
        refine (new_any 2 1 0 w0).mono ?_
        rintro e w1 ⟨rfl, hx1, hb1⟩
        go_wp2_with fail
        refine (first_any w1).mono ?_
        rintro e w2 ⟨rfl, hb2⟩
        go_wp2_with fail
        go_ret
        exact ⟨rfl, (hb0.trans (hb1.mono hb0.size)).trans (hb2.mono (Nat.le_trans hb0.size hb1.size))⟩
      · go_enter Try.func6, Try.ntmps6
        go_wp2_with fail
        refine (first_any w).mono ?_
        rintro e w0 ⟨rfl, hb0⟩
        go_wp2_with fail
        refine (new_any 2 1 0 w0).mono ?_
        rintro e w1 ⟨rfl, hx1, hb1⟩
        have hz1 := hx1.lt
        have hB := hb0.size
        have hb01 : Below w.heap.size w w1 := hb0.trans (hb1.mono hb0.size)
        go_wp2_with fail
        refine (xsend_any w0.heap.size w0.heap.size _ _ hx1 (by omega) A bs.length c bs ((hr.below hb01).more hb01.size) Hnil.out (by omega)).mono ?_
        rw [lw_send]
        rintro e w2 ⟨v, rfl, ⟨A2, c2, rfl, ho2⟩, hx2, hg2⟩
        have b2 : Below w.heap.size w w2 := below_only hb01 hg2 hb01.size (by omega)
        have hz2 := hx2.lt
        have X2 := Lib.hid hx2
        have O2 := Lib.hid ho2
        clear hx1 hx2 ho2 hg2 hb1 hb01
        simp only
        go_wp2_with fail
        go_loopw [8] (fun i wr => AgRel w0.heap.size w2.heap.size w bs A2 c2 t i wr) (fun i _ => (t - intOf i).toNat)
        case atStart => exact ⟨0, by omega, rfl, X2.out.below ((Below.refl _ _).alloc (Nat.le_refl _) _), Blk.new _ _ _, own_mono (O2.out.alloc _) (Nat.zero_le _), b2.alloc b2.size _⟩
        case round =>
          obtain ⟨k, hk, rfl, hx, hn, ho, hb⟩ := hrel
          have hzr := hx.lt
          have hzn := hn.lt
          by_cases hlt : (k : Int) < t
          · go_wp2_with fail
            refine (xagain_any w0.heap.size w0.heap.size _ _ hx).mono ?_
            rw [lw_again]
            rintro e w3 ⟨v, rfl, ⟨A4, c4, rfl, ho4⟩, hb3⟩
            have n3 := hn.below hb3 hzn
            obtain ⟨⟨p0, p1, p2, p3, p4⟩, _⟩ := Blk.five n3
            have hz3 := n3.lt
            have X3 := Lib.hid (hx.below hb3)
            have N3 := Lib.hid n3
            have O3 := Lib.hid (own_below ho hb3)
            have O4 := Lib.hid ho4
            have hb3' : Below w.heap.size w w3 := hb.trans (hb3.mono hb.size)
            clear n3 hx hn ho ho4 hb3 hb
            simp only
            go_wp2_with fail
            refine (same_any ⟨2, 1, 0, 1, bs⟩ A4 A2 c4 c2 _ (((Reads.of_own O4.out).alloc (Nat.le_refl _) _).more (by simp)) (((Reads.of_own O3.out).alloc (Nat.le_refl _) _).more (by simp))).mono ?_
            rintro e w4 ⟨rfl, hb4⟩
            have X4 := Lib.hid ((X3.out.below ((Below.refl _ _).alloc (Nat.le_refl _) _)).below hb4)
            have N4 := Lib.hid ((N3.out.alloc _).below hb4 (by simp; omega))
            have O5 := Lib.hid (own_below (O3.out.alloc _) hb4)
            have hb4' : Below w.heap.size w w4 := (hb3'.alloc hb3'.size _).trans (hb4.mono (by have := hb3'.size; simp; omega))
            have hz4 := X4.out.lt
            clear hb4
            have hk50 : k < 50 := by omega
            have hand := and3 k (by omega)
            rcases (show k % 4 = 0 ∨ k % 4 = 1 ∨ k % 4 = 2 ∨ k % 4 = 3 by omega) with h4 | h4 | h4 | h4
            · rw [h4] at hand
              clear h4
              go_wp2_with fail
              refine (xgot_any w0.heap.size w0.heap.size _ _ (X4.out.below ((Below.refl _ _).alloc (Nat.le_refl _) _)) (by simp; omega) ⟨2, 1, 1, 2 + (k : Int), []⟩ none 0 (Reads.none_) (fun _ => ⟨rfl, rfl⟩) (by simp)).mono ?_
              rw [lw_seq]
              rintro e w5 ⟨A5, c5, rfl, ho5, hx5, hg5⟩
              have hb5 : Below w.heap.size w w5 := below_only (hb4'.alloc hb4'.size _) hg5 (by have := hb4'.size; simp; omega) hB
              have X5 := Lib.hid hx5
              have N5 := Lib.hid ((N4.out.alloc _).grown hg5 (fun e => by injection e; omega))
              have O6 := Lib.hid (own_line (O5.out.alloc _) (X4.out.below ((Below.refl _ _).alloc (Nat.le_refl _) _)) hg5)
              clear ho5 hx5 hg5
              simp only [List.length_nil]
              go_wp2_with (first | (go_at_call 10; refine (busy_any w0.heap.size w0.heap.size _ _ X5.out).mono ?_; rintro e w' ⟨rfl, rfl⟩) | (go_at_call 9; refine (seq_any w0.heap.size w0.heap.size _ _ X5.out).mono ?_; rintro e w' ⟨rfl, rfl⟩))
              go_roundw
              case rel => exact ⟨k + 1, by omega, by go_num, X5.out, N5.out, O6.out, hb5⟩
              case measure => simp [intOf]; omega
            · rw [h4] at hand
              clear h4
              go_wp2_with fail
              refine (xgot_any w0.heap.size w0.heap.size _ _ (X4.out.below ((Below.refl _ _).alloc (Nat.le_refl _) _)) (by simp; omega) ⟨2, 1, 0, 1, []⟩ none 0 (Reads.none_) (fun _ => ⟨rfl, rfl⟩) (by simp)).mono ?_
              rw [lw_way]
              rintro e w5 ⟨A5, c5, rfl, ho5, hx5, hg5⟩
              have hb5 : Below w.heap.size w w5 := below_only (hb4'.alloc hb4'.size _) hg5 (by have := hb4'.size; simp; omega) hB
              have X5 := Lib.hid hx5
              have N5 := Lib.hid ((N4.out.alloc _).grown hg5 (fun e => by injection e; omega))
              have O6 := Lib.hid (own_line (O5.out.alloc _) (X4.out.below ((Below.refl _ _).alloc (Nat.le_refl _) _)) hg5)
              clear ho5 hx5 hg5
              simp only [List.length_nil]
              go_wp2_with (first | (go_at_call 10; refine (busy_any w0.heap.size w0.heap.size _ _ X5.out).mono ?_; rintro e w' ⟨rfl, rfl⟩) | (go_at_call 9; refine (seq_any w0.heap.size w0.heap.size _ _ X5.out).mono ?_; rintro e w' ⟨rfl, rfl⟩))
              go_roundw
              case rel => exact ⟨k + 1, by omega, by go_num, X5.out, N5.out, O6.out, hb5⟩
              case measure => simp [intOf]; omega
            · rw [h4] at hand
              clear h4
              go_wp2_with fail
              refine (xgot_any w0.heap.size w0.heap.size _ _ (X4.out.below ((Below.refl _ _).alloc (Nat.le_refl _) _)) (by simp; omega) ⟨3, 1, 1, 1, []⟩ none 0 (Reads.none_) (fun _ => ⟨rfl, rfl⟩) (by simp)).mono ?_
              rw [lw_party]
              rintro e w5 ⟨A5, c5, rfl, ho5, hx5, hg5⟩
              have hb5 : Below w.heap.size w w5 := below_only (hb4'.alloc hb4'.size _) hg5 (by have := hb4'.size; simp; omega) hB
              have X5 := Lib.hid hx5
              have N5 := Lib.hid ((N4.out.alloc _).grown hg5 (fun e => by injection e; omega))
              have O6 := Lib.hid (own_line (O5.out.alloc _) (X4.out.below ((Below.refl _ _).alloc (Nat.le_refl _) _)) hg5)
              clear ho5 hx5 hg5
              simp only [List.length_nil]
              go_wp2_with (first | (go_at_call 10; refine (busy_any w0.heap.size w0.heap.size _ _ X5.out).mono ?_; rintro e w' ⟨rfl, rfl⟩) | (go_at_call 9; refine (seq_any w0.heap.size w0.heap.size _ _ X5.out).mono ?_; rintro e w' ⟨rfl, rfl⟩))
              go_roundw
              case rel => exact ⟨k + 1, by omega, by go_num, X5.out, N5.out, O6.out, hb5⟩
              case measure => simp [intOf]; omega
            · rw [h4] at hand
              clear h4
              go_wp2_with fail
              refine (xgot_any w0.heap.size w0.heap.size _ _ (X4.out.below ((Below.refl _ _).alloc (Nat.le_refl _) _)) (by simp; omega) ⟨2, 0, 1, 1, []⟩ none 0 (Reads.none_) (fun _ => ⟨rfl, rfl⟩) (by simp)).mono ?_
              rw [lw_ledger]
              rintro e w5 ⟨A5, c5, rfl, ho5, hx5, hg5⟩
              have hb5 : Below w.heap.size w w5 := below_only (hb4'.alloc hb4'.size _) hg5 (by have := hb4'.size; simp; omega) hB
              have X5 := Lib.hid hx5
              have N5 := Lib.hid ((N4.out.alloc _).grown hg5 (fun e => by injection e; omega))
              have O6 := Lib.hid (own_line (O5.out.alloc _) (X4.out.below ((Below.refl _ _).alloc (Nat.le_refl _) _)) hg5)
              clear ho5 hx5 hg5
              simp only [List.length_nil]
              go_wp2_with (first | (go_at_call 10; refine (busy_any w0.heap.size w0.heap.size _ _ X5.out).mono ?_; rintro e w' ⟨rfl, rfl⟩) | (go_at_call 9; refine (seq_any w0.heap.size w0.heap.size _ _ X5.out).mono ?_; rintro e w' ⟨rfl, rfl⟩))
              go_roundw
              case rel => exact ⟨k + 1, by omega, by go_num, X5.out, N5.out, O6.out, hb5⟩
              case measure => simp [intOf]; omega
          · go_wp2_with fail
            refine (xgot_any w0.heap.size w0.heap.size _ _ hx (by omega) ⟨2, 1, 1, 1, []⟩ none 0 Reads.none_ (fun _ => ⟨rfl, rfl⟩) (by simp)).mono ?_
            rw [lw_got]
            rintro e w3 ⟨A5, c5, rfl, ho5, hx5, hg5⟩
            have hb3 : Below w.heap.size w w3 := below_only hb hg5 hb.size hB
            have X5 := Lib.hid hx5
            have hz5 := hx5.lt
            clear ho5 hx5 hg5
            go_wp2_with fail
            refine (xagain_any w0.heap.size w0.heap.size _ _ X5.out).mono ?_
            rw [lw_after]
            rintro e w4 ⟨v, rfl, ⟨A4, c4, rfl, ho4⟩, hb4⟩
            have X6 := Lib.hid (X5.out.below hb4)
            have hb4' : Below w.heap.size w w4 := hb3.trans (hb4.mono hb3.size)
            clear ho4 hb4
            go_wp2_with fail
            refine (first_any _).mono ?_
            rintro e w5 ⟨rfl, hb5⟩
            have X7 := Lib.hid ((X6.out.below ((Below.refl _ _).alloc (Nat.le_refl _) _)).below hb5)
            go_wp2_with (first | (go_at_call 10; refine (busy_any w0.heap.size w0.heap.size _ _ X7.out).mono ?_; rintro e w' ⟨rfl, rfl⟩) | (go_at_call 9; refine (seq_any w0.heap.size w0.heap.size _ _ X7.out).mono ?_; rintro e w' ⟨rfl, rfl⟩))
            go_ret
            exact ⟨rfl, (hb4'.alloc hb4'.size _).trans (hb5.mono (by have := hb4'.size; simp; omega))⟩
end Go.Proofs.Ythnenpjpgmpadaa
