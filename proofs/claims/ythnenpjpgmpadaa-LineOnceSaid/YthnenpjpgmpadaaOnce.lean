/-
  LineOnce: each number is sent with one text, however often; it is answered once; the next one is one more.
-/
import Derived.Test.YthnenpjpgmpadaaFirst
import Derived.Test.YthnenpjpgmpadaaFewTexts
import Derived.Deep.RegionHeld3
import Derived.Deep.RegionWith
import Derived.RegionTactic
import Derived.BigRegion
import Derived.Lib.QuietBelow
import Derived.BigQuiet
namespace Go.Proofs.Ythnenpjpgmpadaa
open Go.RowKit Go.Sort

theorem again_due (p l q : Int) (bs : List UInt8) : (⟨p, l, q, true, bs⟩ : LineD).again = (⟨p, l, 0, q, bs⟩, true) := rfl
theorem got_old (p l q r : Int) (b : Bool) (bs body : List UInt8) (h : r ≠ q) : (⟨p, l, q, b, body⟩ : LineD).got ⟨p, l, 1, r, bs⟩ = ([], 5, ⟨p, l, q, b, body⟩) := got_stale (by simp) (.inr h)
theorem got_twice (p l q r : Int) (bs body : List UInt8) : (⟨p, l, q, false, body⟩ : LineD).got ⟨p, l, 1, r, bs⟩ = ([], 5, ⟨p, l, q, false, body⟩) := got_stale (by simp) (.inl rfl)

/-- What holds at every round's head. -/
def OnceRel (B : Nat) (w : World) (n : Nat) (i : Value) (wr : World) : Prop :=
  ∃ (k : Nat) (body : List UInt8), k ≤ n ∧ i = .int .i64 k ∧ XL wr B B ⟨3, 1, 7 + (k : Int), false, body⟩ ∧ Below w.heap.size w wr

set_option maxRecDepth 100000 in
set_option maxHeartbeats 2000000 in
theorem lineonce_any (x : TextsD) (w : World) (hx : x.ok w) : Calls Try.prog 5 #[.slice x.A x.n x.c] w fun e w' => e = .returned (.bool true) ∧ Below w.heap.size w w' := by
  have hfew := fun w' h => fewtexts_any x w' h
  obtain ⟨A, n, c, ts⟩ := x
  have hx' := hx
  obtain ⟨hl, hmax, hat, hts⟩ := hx
  simp only at hl hmax hat hts hfew ⊢
  obtain rfl := hl
  unfold maxLen at hmax
  have Hfew := Lib.hid hfew
  clear hfew
  cases hyes : fewT ts with
  | false =>
    rw [hyes] at Hfew
    clear hyes
    go_enter Try.func5, Try.ntmps5
    go_wp2_with fail
    refine (first_any w).mono ?_
    rintro e w0 ⟨rfl, hb0⟩
    go_wp2_with fail
    refine (new_any 3 1 7 w0).mono ?_
    rintro e w1 ⟨rfl, hx1, hb1⟩
    go_wp2_with fail
    refine (Hfew.out w1 ((hx'.below hb0).below hb1)).mono ?_
    rintro e w2 ⟨rfl, rfl⟩
    go_wp2_with fail
    refine (first_any w1).mono ?_
    rintro e w2 ⟨rfl, hb2⟩
    go_wp2_with fail
    go_ret
    exact ⟨rfl, (hb0.trans (hb1.mono hb0.size)).trans (hb2.mono (Nat.le_trans hb0.size hb1.size))⟩
  | true =>
    rw [hyes] at Hfew
    have hlen := fewT_len hyes
    have hsmall := Lib.hid (fewT_mem hyes)
    clear hyes
    go_enter Try.func5, Try.ntmps5
    go_wp2_with fail
    refine (first_any w).mono ?_
    rintro e w0 ⟨rfl, hb0⟩
    go_wp2_with fail
    refine (new_any 3 1 7 w0).mono ?_
    rintro e w1 ⟨rfl, hx1, hb1⟩
    have hz1 := hx1.lt
    have hB := hb0.size
    have hb01 : Below w.heap.size w w1 := hb0.trans (hb1.mono hb0.size)
    have X1 := Lib.hid hx1
    clear hx1
    go_wp2_with fail
    refine (Hfew.out w1 ((hx'.below hb0).below hb1)).mono ?_
    rintro e w2 ⟨rfl, rfl⟩
    clear hb1 hb0
    have Hat := Lib.hid hat
    have Hts := Lib.hid hts
    have Hx := Lib.hid hx'
    clear hat hts hx'
    go_wp2_with fail
    go_loopw [4] (fun i wr => OnceRel w0.heap.size w ts.length i wr) (fun i _ => ts.length - (intOf i).toNat)
    case atStart => exact ⟨0, [], Nat.zero_le _, rfl, X1.out, hb01⟩
    case round =>
      obtain ⟨k, body, hk, rfl, hx, hb⟩ := hrel
      have hzr := hx.lt
      by_cases hlt : k < ts.length
      · obtain ⟨b, o, rfl, hbo, hcell⟩ := Hat.out (by omega)
        have hc00 := hcell k hlt
        have ht := (Hts.out ts[k] (List.getElem_mem hlt))
        have hsm := hsmall.out ts[k] (List.getElem_mem hlt)
        clear hcell
        obtain ⟨tx, htx⟩ : ∃ tx, tx = ts[k] := ⟨_, rfl⟩
        rw [← htx] at hc00 ht hsm
        clear htx
        obtain ⟨At, nt, ct, bs⟩ := tx
        obtain ⟨hr, hnil, _⟩ := ht
        simp only at hc00 hr hnil hsm
        obtain rfl : bs.length = nt := by have := hr.1; simp [bv] at this; omega
        have Hnil := Lib.hid hnil
        have HR := Lib.hid hr
        have HC := Lib.hid hc00
        clear hnil hr hc00
        have hc := (hb.cell (p := ⟨b, o + k, none⟩) hbo).trans HC.out
        have hbow := Nat.lt_of_lt_of_le hbo hb.size
        go_wp2_with fail
        refine (xsend_any w0.heap.size w0.heap.size _ _ hx (by omega) At bs.length ct bs ((HR.out.below hb).more hb.size) Hnil.out (by omega)).mono ?_
        rw [send_fresh _ _ _ _ _ (by omega), show (7 : Int) + (k : Int) + 1 = 8 + (k : Int) from by omega]
        rintro e w2 ⟨v, rfl, ⟨A2, c2, rfl, ho2⟩, hx2, hg2⟩
        have b2 : Below w.heap.size w w2 := below_only hb hg2 hb.size (by omega)
        have hz2 := hx2.lt
        have X2 := Lib.hid hx2
        have O2 := Lib.hid ho2
        clear hx2 ho2 hg2
        simp only
        go_wp2_with fail
        refine (xagain_any w0.heap.size w0.heap.size _ _ (X2.out.below ((Below.refl _ _).alloc (Nat.le_refl _) _))).mono ?_
        rw [again_due]
        rintro e w3 ⟨v, rfl, ⟨A4, c4, rfl, ho4⟩, hb3⟩
        have n3 : Blk w3 w2.heap.size 28 #[.int .i64 3, .int .i64 1, .int .i64 0, .int .i64 (8 + (k : Int)), .slice A2 bs.length c2] := (Blk.new w2 _ _).below hb3 (by simp)
        obtain ⟨⟨p0, p1, p2, p3, p4⟩, _⟩ := Blk.five n3
        have hz3 := n3.lt
        have X3 := Lib.hid ((X2.out.below ((Below.refl _ _).alloc (Nat.le_refl _) _)).below hb3)
        have N3 := Lib.hid n3
        have O3 := Lib.hid (own_below (O2.out.alloc _) hb3)
        have O4 := Lib.hid ho4
        have b3 : Below w.heap.size w w3 := (b2.alloc b2.size _).trans (hb3.mono (by have := b2.size; simp; omega))
        have hc3 := (b3.cell (p := ⟨b, o + k, none⟩) hbo).trans HC.out
        have hbo3 := Nat.lt_of_lt_of_le hbo b3.size
        clear n3 hc ho4 hb3 hx hb
        simp only
        go_wp2_with fail
        have n4 := Blk.five (N3.out.alloc (.cells #[.int .i64 3, .int .i64 1, .int .i64 0, .int .i64 (8 + (k : Int)), .slice A4 bs.length c4] 28))
        have m4 := Blk.five (Blk.new w3 28 #[.int .i64 3, .int .i64 1, .int .i64 0, .int .i64 (8 + (k : Int)), .slice A4 bs.length c4])
        have b4 : Below w.heap.size w (w3.alloc (.cells #[.int .i64 3, .int .i64 1, .int .i64 0, .int .i64 (8 + (k : Int)), .slice A4 bs.length c4] 28)) := b3.alloc b3.size _
        have x4 := (b4.cell (p := ⟨b, o + k, none⟩) hbo).trans HC.out
        have R4 := Lib.hid (Reads.of_own (O4.out.alloc (.cells #[.int .i64 3, .int .i64 1, .int .i64 0, .int .i64 (8 + (k : Int)), .slice A4 bs.length c4] 28)))
        have R3 := Lib.hid (Reads.of_own (O3.out.alloc (.cells #[.int .i64 3, .int .i64 1, .int .i64 0, .int .i64 (8 + (k : Int)), .slice A4 bs.length c4] 28)))
        have RT := Lib.hid ((HR.out.below b4).more b4.size)
        obtain ⟨W4, hW4⟩ : ∃ W4, W4 = w3.alloc (.cells #[.int .i64 3, .int .i64 1, .int .i64 0, .int .i64 (8 + (k : Int)), .slice A4 bs.length c4] 28) := ⟨_, rfl⟩
        have X4 := Lib.hid (X3.out.below ((Below.refl _ _).alloc (Nat.le_refl _) (.cells #[.int .i64 3, .int .i64 1, .int .i64 0, .int .i64 (8 + (k : Int)), .slice A4 bs.length c4] 28)))
        have N4 := Lib.hid (N3.out.alloc (.cells #[.int .i64 3, .int .i64 1, .int .i64 0, .int .i64 (8 + (k : Int)), .slice A4 bs.length c4] 28))
        rw [← hW4] at n4 m4 b4 x4 R4 R3 RT X4 N4 ⊢
        obtain ⟨⟨p0', p1', p2', p3', p4'⟩, _⟩ := n4
        obtain ⟨⟨r0, r1, r2, r3, r4⟩, _⟩ := m4
        have B4 := Lib.hid b4
        clear b4 hW4 p0 p1 p2 p3 p4 hc3 X3 N3 O3 O4
        have k1 := cell_regrown p0'
        have k2 := cell_regrown p1'
        have k3 := cell_regrown p2'
        have k4 := cell_regrown p3'
        have k5 := cell_regrown p4'
        have k6 := cell_regrown r0
        have k7 := cell_regrown r1
        have k8 := cell_regrown r2
        have k9 := cell_regrown r3
        have k10 := cell_regrown r4
        have k11 := cell_regrown x4
        have cS : ∀ d os, Calls Try.prog 16 #[.agg #[.int .i64 3, .int .i64 1, .int .i64 0, .int .i64 (8 + (k : Int)), .slice A4 bs.length c4], .agg #[.int .i64 3, .int .i64 1, .int .i64 0, .int .i64 (8 + (k : Int)), .slice A2 bs.length c2]] (grow (redrawn W4 d) os) fun e w'' => e = .returned (.bool true) ∧ ∃ p : Regrown, w'' = grow (redrawn W4 p.d) p.os :=
          fun d os => Calls.regrown_of (same_any ⟨3, 1, 0, 8 + (k : Int), bs⟩ A4 A2 c4 c2 _ ((R4.out.below (below_regrown W4 d os)).more (below_regrown W4 d os).size) ((R3.out.below (below_regrown W4 d os)).more (below_regrown W4 d os).size))
        have cB : ∀ d os, Calls Try.prog 20 #[.slice A2 bs.length c2, .slice At bs.length ct] (grow (redrawn W4 d) os) fun e w'' => e = .returned (.bool true) ∧ ∃ p : Regrown, w'' = grow (redrawn W4 p.d) p.os :=
          fun d os => Calls.regrown_of ((beqs_any A2 At bs.length c2 bs.length ct bs bs _ ((R3.out.below (below_regrown W4 d os)).more (below_regrown W4 d os).size) ((RT.out.below (below_regrown W4 d os)).more (below_regrown W4 d os).size)).mono fun e w'' ⟨he, hw⟩ => ⟨by rw [he]; simp, by rw [← hw]; exact Below.refl _ _⟩)
        have hw8 := IntWalk.i64_in (8 + (k : Int)) (by omega)
        refine wp_region_quiet_below (by kernel_rfl) (by kernel_rfl) ?_
        repeat (first | go_big_quiet_step (first | exact cS _ _ | exact cB _ _) | quiet_step (first | exact cS _ _ | exact cB _ _))
        refine wpQuiet_nil ?_
        intro _ hw'
        obtain ⟨⟨dq, osq⟩, hw''⟩ := hw'
        subst hw''
        obtain ⟨W5, hW5⟩ : ∃ W5, W5 = grow (redrawn W4 dq) osq := ⟨_, rfl⟩
        have b45 := below_regrown W4 dq osq
        rw [← hW5] at b45 ⊢
        clear hW5 k1 k2 k3 k4 k5 k6 k7 k8 k9 k10 k11 cS cB p0' p1' p2' p4' r0 r1 r2 r3 r4 x4 hw8
        have n5 : W5.cell? ⟨w2.heap.size, 3, none⟩ = some (.int .i64 (8 + (k : Int))) := (b45.cell (p := ⟨w2.heap.size, 3, none⟩) N4.out.lt).trans p3'
        have b5 : Below w.heap.size w W5 := B4.out.trans (b45.mono B4.out.size)
        have x5 := (b5.cell (p := ⟨b, o + k, none⟩) hbo).trans HC.out
        have X5 := Lib.hid (X4.out.below b45)
        have hbo5 := Nat.lt_of_lt_of_le hbo b5.size
        have hz5 := World.block_lt_of_cell? W5 _ n5
        simp only at hz5
        clear b45 p3' R3 R4 RT X4 N4
        go_wp2_with fail
        go_region
        all_goals go_wp2_with fail
        obtain ⟨W6, hW6⟩ : ∃ W6, W6 = ((W5.alloc (.cells #[.int .i64 3, .int .i64 1, .int .i64 1, .int .i64 (8 + (k : Int)), .slice At bs.length ct] 28)).alloc (.cells #[.int .i64 3, .int .i64 1, .int .i64 1, .int .i64 (8 + (k : Int) - 1), .slice At bs.length ct] 28)).drew := ⟨_, rfl⟩
        have b56 : Below W5.heap.size W5 W6 := by rw [hW6]; exact (((Below.refl _ _).alloc (Nat.le_refl _) _).alloc (by simp) _).drew
        have T6 : Hid (Blk W6 W5.heap.size 28 #[.int .i64 3, .int .i64 1, .int .i64 1, .int .i64 (8 + (k : Int)), .slice At bs.length ct]) := by rw [hW6]; exact ((Blk.new W5 _ _).alloc _).drew
        rw [← hW6]
        have b6 : Below w.heap.size w W6 := b5.trans (b56.mono b5.size)
        have X6 := Lib.hid (X5.out.below b56)
        have hz6 := X6.out.lt
        clear hW6 b56 X5 n5 x5
        refine (xgot_any w0.heap.size w0.heap.size _ _ X6.out (by omega) ⟨3, 1, 1, 8 + (k : Int) - 1, bs⟩ At ct ((HR.out.below b6).more b6.size) Hnil.out (by simp only; omega)).mono ?_
        rw [got_old _ _ _ _ _ _ _ (by omega)]
        rintro e w7 ⟨A7, c7, rfl, ho7, hx7, hg7⟩
        have b7 : Below w.heap.size w w7 := below_only b6 hg7 b6.size (by omega)
        have T7 := T6.out.grown hg7 (fun e => by injection e; omega)
        obtain ⟨⟨t0, t1, t2, t3, t4⟩, _⟩ := Blk.five T7
        have X7 := Lib.hid hx7
        have HT7 := Lib.hid T7
        clear ho7 hx7 hg7 T7 T6
        simp only [List.length_nil]
        go_wp2_with fail
        refine (xgot_any w0.heap.size w0.heap.size _ _ X7.out (Nat.le_of_lt X7.out.lt) ⟨3, 1, 1, 8 + (k : Int), bs⟩ At ct ((HR.out.below b7).more b7.size) Hnil.out (by simp only; omega)).mono ?_
        rw [got_due]
        rintro e w8 ⟨A8, c8, rfl, ho8, hx8, hg8⟩
        have b8 : Below w.heap.size w w8 := below_only b7 hg8 b7.size (by omega)
        have T8 := HT7.out.grown hg8 (fun e => by injection e; omega)
        obtain ⟨⟨s0, s1, s2, s3, s4⟩, _⟩ := Blk.five T8
        have X8 := Lib.hid hx8
        have O8 := Lib.hid ho8
        clear ho8 hx8 hg8 T8 HT7 t0 t1 t2 t3 t4 X7
        simp only
        go_wp2_with fail
        refine (xgot_any w0.heap.size w0.heap.size _ _ X8.out (Nat.le_of_lt X8.out.lt) ⟨3, 1, 1, 8 + (k : Int), bs⟩ At ct ((HR.out.below b8).more b8.size) Hnil.out (by simp only; omega)).mono ?_
        rw [got_twice]
        rintro e w9 ⟨A9, c9, rfl, ho9, hx9, hg9⟩
        have b9 : Below w.heap.size w w9 := below_only b8 hg9 b8.size (by omega)
        have x9 := (b9.cell (p := ⟨b, o + k, none⟩) hbo).trans HC.out
        have X9 := Lib.hid hx9
        have O9 := Lib.hid (own_line O8.out X8.out hg9)
        clear ho9 hx9 hg9 O8 X8 s0 s1 s2 s3 s4
        simp only [List.length_nil]
        go_wp2_with (first | (go_at_call 10; refine (busy_any w0.heap.size w0.heap.size _ _ X9.out).mono ?_; rintro e w' ⟨rfl, rfl⟩) | (go_at_call 20; refine (beqs_any A8 At bs.length c8 bs.length ct bs bs _ (Reads.of_own O9.out) ((HR.out.below b9).more b9.size)).mono ?_; rw [beq_self_eq_true]; rintro e w5 ⟨rfl, rfl⟩))
        go_roundw
        case rel => exact ⟨k + 1, bs, by omega, by go_num, by have := X9.out; rw [show (7 : Int) + ((k + 1 : Nat) : Int) = 8 + (k : Int) from by omega]; exact this, b9⟩
        case measure => simp [intOf]; omega
      · go_wp2_with fail
        refine (first_any wr).mono ?_
        rintro e w5 ⟨rfl, hb5⟩
        go_wp2_with fail
        go_ret
        exact ⟨rfl, hb.trans (hb5.mono hb.size)⟩
end Go.Proofs.Ythnenpjpgmpadaa
