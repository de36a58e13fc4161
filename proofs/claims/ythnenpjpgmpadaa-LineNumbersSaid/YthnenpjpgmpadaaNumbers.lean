/-
  LineNumbers: three sends go on from the number that was given.
-/
import Derived.Test.YthnenpjpgmpadaaFirst
import Derived.LoopTactic
import Derived.Deep.LoopGhost
namespace Go.Proofs.Ythnenpjpgmpadaa
open Go.RowKit

/-- What holds at every round's head. -/
def NumRel (B : Nat) (w : World) (p l : Int) (want i : Value) (wr : World) : Prop :=
  ∃ (k : Nat) (q : Int) (body : List UInt8), k ≤ 3 ∧ i = .int .i64 k ∧ want = .int .i64 q ∧ XL wr B B ⟨p, l, q, false, body⟩ ∧ Below w.heap.size w wr

set_option maxRecDepth 100000 in
set_option maxHeartbeats 4000000 in
theorem numbers_any (p l q : Int) (w : World) : Calls Try.prog 3 #[.int .i64 p, .int .i64 l, .int .i64 q] w fun e w' => e = .returned (.bool true) ∧ Below w.heap.size w w' := by
  have kf := fresh_fine p l q
  go_enter Try.func3, Try.ntmps3
  go_wp2_with fail
  refine (first_any w).mono ?_
  rintro e w0 ⟨rfl, hb0⟩
  go_wp2_with fail
  refine (new_any p l q w0).mono ?_
  rintro e w1 ⟨rfl, hx1, hb1⟩
  have hz1 := hx1.lt
  by_cases hin : 0 ≤ q ∧ q ≤ 4294967295
  · rw [fresh_in hin] at hx1
    obtain ⟨hq0, hq1⟩ := hin
    go_wp2_with (first | (go_at_call 10; refine (busy_any w0.heap.size w0.heap.size _ _ hx1).mono ?_; rintro e w' ⟨rfl, rfl⟩) | (go_at_call 9; refine (seq_any w0.heap.size w0.heap.size _ _ hx1).mono ?_; rintro e w' ⟨rfl, rfl⟩))
    go_loopw [9, 10] (fun want i wr => NumRel w0.heap.size w p l want i wr) (fun _ i _ => 3 - (intOf i).toNat)
    case atStart => exact ⟨0, _, _, by omega, rfl, rfl, hx1, (hb0.trans (hb1.mono hb0.size))⟩
    case round =>
      obtain ⟨k, s, body, hk, rfl, rfl, hx, hb⟩ := hrel
      have hzr := hx.lt
      have hsq := hx.1
      unfold LineD.fine at hsq
      simp only at hsq
      obtain ⟨hs0, hs1, hs2⟩ := hsq
      have hB := hb0.size
      clear hx1 hz1
      by_cases hlt : k < 3
      · have hkb : Hid (((UInt8.ofNat k).toNat : Int) = (k : Int)) := by
          have : (UInt8.ofNat k).toNat = k := by simp; omega
          show _ = _
          omega
        by_cases hfull : s = 4294967295
        · subst hfull
          go_wp2_with fail
          refine (xsend_any w0.heap.size w0.heap.size _ _ (hx.below ((Below.refl _ _).alloc (Nat.le_refl _) _)) (by simp; omega) (some ⟨wr.heap.size, 0, none⟩) 1 1 [UInt8.ofNat k] ((reads_num wr _ _ hkb.out _ _).more (by simp)) (by simp) (by omega)).mono ?_
          rw [send_end]
          rintro e w2 ⟨v, rfl, ⟨A2, c2, rfl, ho2⟩, hx2, hg2⟩
          have b2 : Below w.heap.size w w2 := below_only (hb.alloc hb.size _) hg2 (by simp; omega) (by omega)
          have hz2 := hx2.lt
          have X2 := Lib.hid hx2
          clear hx hg2 ho2 hx2
          go_wp2_with fail
          refine (first_any _).mono ?_
          rintro e w3 ⟨rfl, hb3⟩
          have X3 := Lib.hid ((X2.out.below ((Below.refl _ _).alloc (Nat.le_refl _) _)).below hb3)
          go_wp2_with (first | (go_at_call 10; refine (busy_any w0.heap.size w0.heap.size _ _ X3.out).mono ?_; rintro e w' ⟨rfl, rfl⟩) | (go_at_call 9; refine (seq_any w0.heap.size w0.heap.size _ _ X3.out).mono ?_; rintro e w' ⟨rfl, rfl⟩))
          go_ret
          exact ⟨rfl, (b2.alloc b2.size _).trans (hb3.mono (by have := b2.size; simp; omega))⟩
        · go_wp2_with fail
          refine (xsend_any w0.heap.size w0.heap.size _ _ (hx.below ((Below.refl _ _).alloc (Nat.le_refl _) _)) (by simp; omega) (some ⟨wr.heap.size, 0, none⟩) 1 1 [UInt8.ofNat k] ((reads_num wr _ _ hkb.out _ _).more (by simp)) (by simp) (by omega)).mono ?_
          rw [send_fresh _ _ _ _ _ hfull]
          rintro e w2 ⟨v, rfl, ⟨A2, c2, rfl, ho2⟩, hx2, hg2⟩
          have b2 : Below w.heap.size w w2 := below_only (hb.alloc hb.size _) hg2 (by simp; omega) (by omega)
          have hz2 := hx2.lt
          have hlt2 : s < 4294967295 := by omega
          simp only [List.length_cons, List.length_nil] at ho2 ⊢
          have X2 := Lib.hid hx2
          have O2 := Lib.hid ho2
          clear hx hg2 hfull hx2 ho2
          go_wp2_with fail
          refine (xgot_any w0.heap.size w0.heap.size _ _ (X2.out.below ((Below.refl _ _).alloc (Nat.le_refl _) _)) (by simp; omega) ⟨p, l, 1, s + 1, [UInt8.ofNat k]⟩ A2 c2 (((Reads.of_own O2.out).alloc (Nat.le_refl _) _).more (by simp)) (by rintro rfl; exact own_none O2.out) (by simp)).mono ?_
          rw [got_due]
          rintro e w3 ⟨A3, c3, rfl, ho3, hx3, hg3⟩
          have b3 : Below w.heap.size w w3 := below_only (b2.alloc b2.size _) hg3 (by simp; omega) (by omega)
          obtain ⟨g3, rfl, hcell⟩ := own_head ho3
          simp only at hcell
          rw [hkb.out] at hcell
          have X3 := Lib.hid hx3
          clear ho3 hx3 hg3
          simp only [List.length_cons, List.length_nil]
          go_wp2_with fail
          go_roundw
          case rel => exact ⟨k + 1, s + 1, [UInt8.ofNat k], by omega, by go_num, rfl, X3.out, b3⟩
          case measure => simp [intOf]; omega
      · go_wp2_with fail
        refine (first_any wr).mono ?_
        rintro e w2 ⟨rfl, hb2⟩
        go_wp2_with fail
        go_ret
        exact ⟨rfl, hb.trans (hb2.mono hb.size)⟩
  · rw [fresh_out hin] at hx1
    have hno : q < 0 ∨ 4294967295 < q := by omega
    rcases hno with hno | hno
    all_goals
      go_wp2_with (first | (go_at_call 10; refine (busy_any w0.heap.size w0.heap.size _ _ hx1).mono ?_; rintro e w' ⟨rfl, rfl⟩) | (go_at_call 9; refine (seq_any w0.heap.size w0.heap.size _ _ hx1).mono ?_; rintro e w' ⟨rfl, rfl⟩))
      go_loopw [9, 10] (fun want i wr => NumRel w0.heap.size w p l want i wr) (fun _ i _ => 3 - (intOf i).toNat)
      case atStart => exact ⟨0, _, _, by omega, rfl, rfl, hx1, (hb0.trans (hb1.mono hb0.size))⟩
      case round =>
        obtain ⟨k, s, body, hk, rfl, rfl, hx, hb⟩ := hrel
        have hzr := hx.lt
        have hsq := hx.1
        unfold LineD.fine at hsq
        simp only at hsq
        obtain ⟨hs0, hs1, hs2⟩ := hsq
        have hB := hb0.size
        clear hx1 hz1
        by_cases hlt : k < 3
        · have hkb : Hid (((UInt8.ofNat k).toNat : Int) = (k : Int)) := by
            have : (UInt8.ofNat k).toNat = k := by simp; omega
            show _ = _
            omega
          by_cases hfull : s = 4294967295
          · subst hfull
            go_wp2_with fail
            refine (xsend_any w0.heap.size w0.heap.size _ _ (hx.below ((Below.refl _ _).alloc (Nat.le_refl _) _)) (by simp; omega) (some ⟨wr.heap.size, 0, none⟩) 1 1 [UInt8.ofNat k] ((reads_num wr _ _ hkb.out _ _).more (by simp)) (by simp) (by omega)).mono ?_
            rw [send_end]
            rintro e w2 ⟨v, rfl, ⟨A2, c2, rfl, ho2⟩, hx2, hg2⟩
            have b2 : Below w.heap.size w w2 := below_only (hb.alloc hb.size _) hg2 (by simp; omega) (by omega)
            have hz2 := hx2.lt
            have X2 := Lib.hid hx2
            clear hx hg2 ho2 hx2
            go_wp2_with fail
            refine (first_any _).mono ?_
            rintro e w3 ⟨rfl, hb3⟩
            have X3 := Lib.hid ((X2.out.below ((Below.refl _ _).alloc (Nat.le_refl _) _)).below hb3)
            go_wp2_with (first | (go_at_call 10; refine (busy_any w0.heap.size w0.heap.size _ _ X3.out).mono ?_; rintro e w' ⟨rfl, rfl⟩) | (go_at_call 9; refine (seq_any w0.heap.size w0.heap.size _ _ X3.out).mono ?_; rintro e w' ⟨rfl, rfl⟩))
            go_ret
            exact ⟨rfl, (b2.alloc b2.size _).trans (hb3.mono (by have := b2.size; simp; omega))⟩
          · go_wp2_with fail
            refine (xsend_any w0.heap.size w0.heap.size _ _ (hx.below ((Below.refl _ _).alloc (Nat.le_refl _) _)) (by simp; omega) (some ⟨wr.heap.size, 0, none⟩) 1 1 [UInt8.ofNat k] ((reads_num wr _ _ hkb.out _ _).more (by simp)) (by simp) (by omega)).mono ?_
            rw [send_fresh _ _ _ _ _ hfull]
            rintro e w2 ⟨v, rfl, ⟨A2, c2, rfl, ho2⟩, hx2, hg2⟩
            have b2 : Below w.heap.size w w2 := below_only (hb.alloc hb.size _) hg2 (by simp; omega) (by omega)
            have hz2 := hx2.lt
            have hlt2 : s < 4294967295 := by omega
            simp only [List.length_cons, List.length_nil] at ho2 ⊢
            have X2 := Lib.hid hx2
            have O2 := Lib.hid ho2
            clear hx hg2 hfull hx2 ho2
            go_wp2_with fail
            refine (xgot_any w0.heap.size w0.heap.size _ _ (X2.out.below ((Below.refl _ _).alloc (Nat.le_refl _) _)) (by simp; omega) ⟨p, l, 1, s + 1, [UInt8.ofNat k]⟩ A2 c2 (((Reads.of_own O2.out).alloc (Nat.le_refl _) _).more (by simp)) (by rintro rfl; exact own_none O2.out) (by simp)).mono ?_
            rw [got_due]
            rintro e w3 ⟨A3, c3, rfl, ho3, hx3, hg3⟩
            have b3 : Below w.heap.size w w3 := below_only (b2.alloc b2.size _) hg3 (by simp; omega) (by omega)
            obtain ⟨g3, rfl, hcell⟩ := own_head ho3
            simp only at hcell
            rw [hkb.out] at hcell
            have X3 := Lib.hid hx3
            clear ho3 hx3 hg3
            simp only [List.length_cons, List.length_nil]
            go_wp2_with fail
            go_roundw
            case rel => exact ⟨k + 1, s + 1, [UInt8.ofNat k], by omega, by go_num, rfl, X3.out, b3⟩
            case measure => simp [intOf]; omega
        · go_wp2_with fail
          refine (first_any wr).mono ?_
          rintro e w2 ⟨rfl, hb2⟩
          go_wp2_with fail
          go_ret
          exact ⟨rfl, hb.trans (hb2.mono hb.size)⟩
end Go.Proofs.Ythnenpjpgmpadaa
