/-
  PostPlays: package post's post and the document's answer alike at whatever calls.
-/
import Derived.Test.YtoiopoebjchjeaaPPlaysA
import Derived.Test.YtoiopoebjchjeaaSame
import Derived.Test.YtoiopoebjchjeaaOpsP
import Derived.Deep.Cut
import Derived.Deep.CutRange
import Derived.Deep.CutBlock
import Derived.Deep.RegionWith
import Derived.Deep.RegionHeld3
import Derived.Lib.QuietBelow
import Derived.StillTailTactics
namespace Go.Proofs.Ytoiopoebjchjeaa
open Go.RowKit Go.Deep Go.Sort

set_option maxRecDepth 100000 in
set_option maxHeartbeats 8000000 in
theorem plays_any (most : Int) (x : OpsD) (w : World) (hx : x.ok w) : Calls Try.prog 3 #[.int .i64 most, .slice x.A x.n x.c] w fun e w' => e = .returned (.bool true) ∧ Below w.heap.size w w' := by
  have hfew := fun w' h => fewops_any x w' h
  obtain ⟨A, n, c, ts⟩ := x
  have hx' := hx
  obtain ⟨hl, hmax, hat, hts⟩ := hx
  simp only at hl hmax hat hts hfew ⊢
  obtain rfl := hl
  unfold maxLen at hmax
  have Hfew := Lib.hid hfew
  clear hfew
  cases hyes : fewO ts with
  | false =>
    rw [hyes] at Hfew
    clear hyes
    go_enter Try.func3, Try.ntmps3
    go_wp2_with fail
    refine (first_any w).mono ?_
    rintro e w0 ⟨rfl, hb0⟩
    go_wp2_with fail
    refine (Hfew.out w0 (hx'.below hb0)).mono ?_
    rintro e w1 ⟨rfl, hb1⟩
    have B1 := hb0.trans (hb1.mono hb0.size)
    go_wp2_with fail
    refine (first_any w1).mono ?_
    rintro e w2 ⟨rfl, hb2⟩
    go_wp2_with fail
    go_ret
    exact ⟨rfl, B1.trans (hb2.mono B1.size)⟩
  | true =>
    rw [hyes] at Hfew
    have hlen := fewO_len hyes
    clear hyes
    by_cases hin : 1 ≤ most ∧ most ≤ 200
    · go_enter Try.func3, Try.ntmps3 -- ARM in
      go_wp2_with fail
      refine (first_any w).mono ?_
      rintro e w0 ⟨rfl, hb0⟩
      go_wp2_with fail
      refine (Hfew.out w0 (hx'.below hb0)).mono ?_
      rintro e w1 ⟨rfl, hb1⟩
      have B1 := hb0.trans (hb1.mono hb0.size)
      go_wp2_with fail
      refine (new_any most w1).mono ?_
      rintro e w2 ⟨h, _⟩
      obtain ⟨rfl, hx2, hb2⟩ := h hin
      clear h
      have B2 := B1.trans (hb2.mono B1.size)
      go_wp2_with fail
      refine (newy_any most w2).mono ?_
      rintro e w3 ⟨h, _⟩
      obtain ⟨rfl, hy3, hb3⟩ := h hin
      clear h
      have B3 := B2.trans (hb3.mono B2.size)
      have S3 := Lib.hid (show XYS w w1.heap.size w2.heap.size none none most [] [] w3 from ⟨hx2.below hb3, hy3, B3, B1.size, B2.size, by simp⟩)
      have Hat := Lib.hid hat
      have Hts := Lib.hid hts
      clear hx2 hy3 hat hts hx' hb0 hb1 hb2 hb3 B1 B2 B3
      go_wp2_with fail
      go_loopw [9] (fun i wr => PlRel w w1.heap.size w2.heap.size ts.length most i wr) (fun i _ => ts.length - (intOf i).toNat)
      case atStart => exact ⟨0, [], none, none, Nat.zero_le _, rfl, S3.out⟩
      case round =>
        obtain ⟨k, L, rx, ry, hk, rfl, hs⟩ := hrel
        have HS := Lib.hid hs
        clear hs S3
        by_cases hlt : k < ts.length
        · obtain ⟨b, o, rfl, hbo, hcell⟩ := Hat.out (by omega)
          have hsz := Nat.lt_of_lt_of_le hbo HS.out.b.size
          have hc0 := (HS.out.b.cell (p := ⟨b, o + k * 3, none⟩) hbo).trans (hcell k hlt 0 _ rfl)
          have hc1 := (HS.out.b.cell (p := ⟨b, o + k * 3 + 1, none⟩) hbo).trans (hcell k hlt 1 _ rfl)
          have hc2 := (HS.out.b.cell (p := ⟨b, o + k * 3 + 2, none⟩) hbo).trans (hcell k hlt 2 _ rfl)
          have htk := Hts.out ts[k] (List.getElem_mem hlt)
          clear hcell
          generalize hop : ts[k] = op at hc0 hc1 hc2 htk
          obtain ⟨kd, np, AB, nB, cB, bs⟩ := op
          obtain ⟨hr, hnil, hnm⟩ := htk
          simp only at hc0 hc1 hc2 hr hnil hnm
          unfold maxLen at hnm
          clear hop
          have HR := Lib.hid hr
          have Hnil := Lib.hid hnil
          have hki : (k : Int) < (ts.length : Int) := by omega
          have hk0 : (0 : Int) ≤ (k : Int) := Int.natCast_nonneg _
          have SA := Lib.hid (HS.out.alloc (.cells #[.int .i64 kd, .int .i64 np, .slice AB nB cB] 34))
          have OB := Lib.hid (Blk.new wr 34 #[.int .i64 kd, .int .i64 np, .slice AB nB cB])
          clear hr hnil
          go_upto_block 2 with fail
          go_cut [11, 12, 13, 14, 15] from 46 to 159 (fun ok _ _ _ _ wx => PlMid w w1.heap.size w2.heap.size wr.heap.size most kd np (.slice AB nB cB) ok wx)
          case first => -- ARM first
            have hzo : wr.heap.size < (wr.alloc (.cells #[.int .i64 kd, .int .i64 np, .slice AB nB cB] 34)).heap.size := by simp
            have hbw := SA.out.b
            have HBW := Lib.hid hbw
            have RA := Lib.hid ((HR.out.below hbw).more hbw.size)
            have ox := Lib.hid (SA.out.asidex OB.out (by decide) (by decide))
            have oy := Lib.hid (SA.out.asidey OB.out (by decide) (by decide))
            clear hbw hc0 hc1 hc2 Hat Hts
            by_cases h0 : kd = 0
            · subst h0 -- ARM k0
              go_wp2_with fail
              have oA1 := OB.out.cell 1
              have oA2 := OB.out.cell 2
              simp at oA1 oA2
              go_region_held3 (fun w' => w'.cell? ⟨wr.heap.size, 1, none⟩ = some (.int .i64 np) ∧ w'.cell? ⟨wr.heap.size, 2, none⟩ = some (.slice AB nB cB)) (first | exact ⟨oY1, oY2⟩ | exact ⟨oX1, oX2⟩ | exact ⟨oA1, oA2⟩ | go_keep)
                (first
                | (go_at_call 11; refine (put_any w1.heap.size w1.heap.size rx most L np AB nB cB bs _ SA.out.drew.x (by have := SA.out.x.lt; simp at this ⊢; omega) RA.out.drew Hnil.out hnm).mono ?_; rintro e wX ⟨rX, rfl, hxX, hmX, hfX⟩; have SX := Lib.hid (SA.out.drew.stepx hxX hmX hfX); have oX := OB.out.drew.fr hfX ox.out; have oX1 : wX.cell? ⟨wr.heap.size, 1, none⟩ = some (.int .i64 np) := (oX.cell 1); have oX2 : wX.cell? ⟨wr.heap.size, 2, none⟩ = some (.slice AB nB cB) := (oX.cell 2); have hzX := oX.lt; have RX := Lib.hid ((HR.out.below SX.out.b).more SX.out.b.size))
                | (go_at_call 12; refine (puty_any w2.heap.size w2.heap.size ry most L np AB nB cB bs _ SX.out.y (Nat.le_of_lt SX.out.y.lt) RX.out hnm).mono ?_; rintro e wY ⟨rY, rfl, hyY, hmY, hfY⟩; have SY := Lib.hid (SX.out.stepy hyY hmY hfY); have oYb := (oX.fr hfY (SX.out.asidey oX (by decide) (by decide))); have oY1 : wY.cell? ⟨wr.heap.size, 1, none⟩ = some (.int .i64 np) := (oYb.cell 1); have oY2 : wY.cell? ⟨wr.heap.size, 2, none⟩ = some (.slice AB nB cB) := (oYb.cell 2); have oY := Lib.hid oYb; have hzY := oYb.lt))
              go_wp2_with fail
              go_meet
              exact ⟨by first | rfl | simp, (putL most L np bs).1, rX, rY, SY.out, oY.out⟩
            · by_cases h1 : kd = 1
              · subst h1 -- ARM k1
                have htx : Calls Try.prog 13 #[.pointer (some ⟨w1.heap.size, 0, none⟩), .int .i64 np] (wr.alloc (.cells #[.int .i64 1, .int .i64 np, .slice AB nB cB] 34)) fun e w' => ∃ v rb', e = .returned (.tuple #[v, .bool (okL L np)]) ∧ (∃ A c, v = .agg #[.int .i64 (atL L np).1, .slice A (atL L np).2.length c] ∧ w'.ownsRow w1.heap.size 5 1 (.slice A (atL L np).2.length c) (atL L np).2.length (bv (atL L np).2)) ∧ PX w' w1.heap.size w1.heap.size rb' most (dropL L np) ∧ Moved (wr.alloc (.cells #[.int .i64 1, .int .i64 np, .slice AB nB cB] 34)) rx rb' ∧ Fr (PS w1.heap.size rx) (wr.alloc (.cells #[.int .i64 1, .int .i64 np, .slice AB nB cB] 34)) w' := take_any w1.heap.size w1.heap.size rx most L np _ SA.out.x (Nat.le_of_lt SA.out.x.lt)
                have hty : ∀ w0, PY w0 w2.heap.size w2.heap.size ry most L → w2.heap.size ≤ w0.heap.size → Calls Try.prog 14 #[.pointer (some ⟨w2.heap.size, 0, none⟩), .int .i64 np] w0 fun e w' => ∃ v rb', e = .returned (.tuple #[v, .bool (okL L np)]) ∧ (∃ A c, v = .agg #[.int .i64 (atL L np).1, .slice A (atL L np).2.length c] ∧ w'.ownsRow w2.heap.size 5 1 (.slice A (atL L np).2.length c) (atL L np).2.length (bv (atL L np).2)) ∧ PY w' w2.heap.size w2.heap.size rb' most (dropL L np) ∧ Moved w0 ry rb' ∧ Fr (PS w2.heap.size ry) w0 w' := fun w0 h hle => takey_any w2.heap.size w2.heap.size ry most L np w0 h hle
                generalize okL L np = okv at htx hty
                generalize (atL L np).1 = pt at htx hty
                generalize (atL L np).2 = tx at htx hty
                generalize dropL L np = L' at htx hty
                have TX := Lib.hid htx
                have TY := Lib.hid hty
                have oA1 := OB.out.cell 1
                simp at oA1
                clear htx hty HR RA HBW Hnil
                go_wp2_with fail
                refine TX.out.mono ?_
                rintro e wX ⟨v, rX, rfl, ⟨AX, cX, rfl, hoX⟩, hxX, hmX, hfX⟩
                have SX0 := SA.out.stepx hxX hmX hfX
                have NX := Lib.hid SX0.newy
                have SX := Lib.hid (SX0.alloc (.cells #[.int .i64 pt, .slice AX tx.length cX] 37))
                have oX := (OB.out.fr hfX ox.out).alloc (.cells #[.int .i64 pt, .slice AX tx.length cX] 37)
                have oX1 := oX.cell 1
                simp at oX1
                have hzX := (OB.out.fr hfX ox.out).lt
                have QX : Hid (PD.ok ⟨pt, AX, cX, tx⟩ (wX.alloc (.cells #[.int .i64 pt, .slice AX tx.length cX] 37)) w1.heap.size) := hoX.alloc _
                have OX := Lib.hid oX
                clear SX0 hoX hxX hmX hfX oX TX OB oA1
                go_wp2_with fail
                refine (TY.out _ SX.out.y (Nat.le_of_lt SX.out.y.lt)).mono ?_
                rintro e wY ⟨v, rY, rfl, ⟨AY, cY, rfl, hoY⟩, hyY, hmY, hfY⟩
                have aY := (Blk.new wX 37 #[.int .i64 pt, .slice AX tx.length cX]).fr hfY NX.out
                obtain ⟨⟨p0, p1⟩, _⟩ := Blk.two aY
                have hzY := aY.lt
                have SY := Lib.hid ((SX.out.stepy hyY hmY hfY).alloc (.cells #[.int .i64 pt, .slice AY tx.length cY] 37))
                have oY := Lib.hid ((OX.out.fr hfY (SX.out.asidey OX.out (by decide) (by decide))).alloc (.cells #[.int .i64 pt, .slice AY tx.length cY] 37))
                have R1 := Lib.hid ((Reads.of_own (QX.out.fr hfY SX.out.y.nobytes)).alloc (Nat.le_refl _) (.cells #[.int .i64 pt, .slice AY tx.length cY] 37))
                have R2 := Lib.hid ((Reads.of_own hoY).alloc (Nat.le_refl _) (.cells #[.int .i64 pt, .slice AY tx.length cY] 37))
                clear aY hoY hyY hmY hfY QX NX SX OX TY oX1
                go_wp2_with fail
                refine (samep_any pt pt AX AY cX cY tx tx _ (R1.out.more (by simp)) (R2.out.more (by simp))).mono ?_
                rintro e wZ ⟨rfl, hbZ⟩
                rw [beq_self_eq_true, decide_eq_true rfl]
                have SZ := Lib.hid (SY.out.below hbZ)
                have oZ := Lib.hid (oY.out.below hbZ oY.out.lt)
                clear SY oY hbZ
                go_wp2_with fail
                go_meet
                exact ⟨by first | rfl | simp, L', rX, rY, SZ.out, oZ.out⟩
              · by_cases h2 : kd = 2
                · subst h2 -- ARM k2
                  go_wp2_with fail
                  have oA1 := OB.out.cell 1
                  simp at oA1
                  go_region_held3 (fun w' => w'.cell? ⟨wr.heap.size, 1, none⟩ = some (.int .i64 np)) (first | exact oY1 | exact oX1 | exact oA1 | go_keep)
                    (first
                    | (go_at_call 16; refine (drop_any w1.heap.size w1.heap.size rx most L np _ SA.out.drew.x).mono ?_; rintro e wX ⟨rX, rfl, hxX, hmX, hfX⟩; have SX := Lib.hid (SA.out.drew.stepx hxX hmX hfX); have oX := OB.out.drew.fr hfX ox.out; have oX1 : wX.cell? ⟨wr.heap.size, 1, none⟩ = some (.int .i64 np) := (oX.cell 1); have hzX := oX.lt)
                    | (go_at_call 17; refine (dropy_any w2.heap.size w2.heap.size ry most L np _ SX.out.y (Nat.le_of_lt SX.out.y.lt)).mono ?_; rintro e wY ⟨rY, rfl, hyY, hmY, hfY⟩; have SY := Lib.hid (SX.out.stepy hyY hmY hfY); have oYb := (oX.fr hfY (SX.out.asidey oX (by decide) (by decide))); have oY1 : wY.cell? ⟨wr.heap.size, 1, none⟩ = some (.int .i64 np) := (oYb.cell 1); have oY := Lib.hid oYb; have hzY := oYb.lt))
                  go_wp2_with fail
                  go_meet
                  exact ⟨by first | rfl | simp, dropL L np, rX, rY, SY.out, oY.out⟩
                · by_cases h3 : kd = 3
                  · subst h3 -- ARM k3
                    go_wp2_with fail
                    have oA1 := OB.out.cell 1
                    simp at oA1
                    go_region_held3 (fun w' => w'.cell? ⟨wr.heap.size, 1, none⟩ = some (.int .i64 np)) (first | exact oY1 | exact oX1 | exact oA1 | go_keep)
                      (first
                      | (go_at_call 18; refine (copyp_any w1.heap.size w1.heap.size rx most L np _ SA.out.drew.x (by have := SA.out.x.lt; simp at this ⊢; omega)).mono ?_; rintro e wX ⟨rX, rfl, hxX, hmX, hfX⟩; have SX := Lib.hid (SA.out.drew.stepx hxX hmX hfX); have oX := OB.out.drew.fr hfX ox.out; have oX1 : wX.cell? ⟨wr.heap.size, 1, none⟩ = some (.int .i64 np) := (oX.cell 1); have hzX := oX.lt)
                      | (go_at_call 19; refine (copyy_any w2.heap.size w2.heap.size ry most L np _ SX.out.y (Nat.le_of_lt SX.out.y.lt)).mono ?_; rintro e wY ⟨rY, rfl, hyY, hmY, hfY⟩; have SY := Lib.hid (SX.out.stepy hyY hmY hfY); have oYb := (oX.fr hfY (SX.out.asidey oX (by decide) (by decide))); have oY1 : wY.cell? ⟨wr.heap.size, 1, none⟩ = some (.int .i64 np) := (oYb.cell 1); have oY := Lib.hid oYb; have hzY := oYb.lt))
                    go_wp2_with fail
                    go_meet
                    exact ⟨by first | rfl | simp, (copyL most L np).1, rX, rY, SY.out, oY.out⟩
                  · have e0 : (kd == 0) = false := by simpa using h0 -- ARM kother
                    have e1 : (kd == 1) = false := by simpa using h1
                    have e2 : (kd == 2) = false := by simpa using h2
                    have e3 : (kd == 3) = false := by simpa using h3
                    clear h0 h1 h2 h3
                    go_wp2_with fail
                    go_meet
                    exact ⟨rfl, L, rx, ry, SA.out, OB.out⟩
          case rest => -- ARM rest
            obtain ⟨rfl, L2, rx2, ry2, hs2, hb2⟩ := hcut
            have S2 := Lib.hid hs2
            have o21 := hb2.cell 1
            simp at o21
            have hz2 := hb2.lt
            have hat2 := at_any w1.heap.size w1.heap.size rx2 most L2 np wc hs2.x
            have hay2 : ∀ w', PY w' w2.heap.size w2.heap.size ry2 most L2 → Calls Try.prog 21 #[.pointer (some ⟨w2.heap.size, 0, none⟩), .int .i64 np] w' fun e w'' => ∃ A c, e = .returned (.tuple #[.agg #[.int .i64 (atL L2 np).1, .slice A (atL L2 np).2.length c], .bool (okL L2 np)]) ∧ w''.ownsRow w2.heap.size 5 1 (.slice A (atL L2 np).2.length c) (atL L2 np).2.length (bv (atL L2 np).2) ∧ Below w'.heap.size w' w'' := fun w' h => aty_any w2.heap.size w2.heap.size ry2 most L2 np w' h
            unfold AtR at hat2
            generalize okL L2 np = okv at hat2 hay2
            generalize (atL L2 np).1 = pt at hat2 hay2
            generalize (atL L2 np).2 = tx at hat2 hay2
            have AT := Lib.hid hat2
            have AY := Lib.hid hay2
            have OB2 := Lib.hid hb2
            clear hs2 hb2 hat2 hay2 HS SA OB Hat Hts HR Hnil hc0 hc1 hc2 hbo hsz
            go_wp2_with fail
            refine AT.out.mono ?_
            rintro e w4 ⟨v, rfl, ⟨A4, c4, rfl, ho4⟩, hb4⟩
            have S4 := Lib.hid ((S2.out.below hb4).alloc (.cells #[.int .i64 pt, .slice A4 tx.length c4] 37))
            have ob4 := (OB2.out.below hb4 OB2.out.lt).alloc (.cells #[.int .i64 pt, .slice A4 tx.length c4] 37)
            have o41 := ob4.cell 1
            simp at o41
            have hz4 := Nat.lt_of_lt_of_le hz2 hb4.size
            have R4 := Lib.hid ((Reads.of_own ho4).alloc (Nat.le_refl _) (.cells #[.int .i64 pt, .slice A4 tx.length c4] 37))
            have OB4 := Lib.hid ob4
            clear ho4 hb4 ob4 S2 OB2 AT o21
            go_wp2_with fail
            refine (AY.out _ S4.out.y).mono ?_
            rintro e w6 ⟨A6, c6, rfl, ho6, hb6⟩
            have S6 := Lib.hid ((S4.out.below hb6).alloc (.cells #[.int .i64 pt, .slice A6 tx.length c6] 37))
            have R6 := Lib.hid (((R4.out.more (by simp)).below hb6).more hb6.size)
            have p4 := (Blk.new w4 37 #[.int .i64 pt, .slice A4 tx.length c4]).below hb6 (by simp)
            obtain ⟨⟨p0, p1⟩, _⟩ := Blk.two p4
            have hz6 := p4.lt
            have P4 := Lib.hid p4
            have R6' := Lib.hid (Reads.of_own ho6)
            clear ho6 hb6 p4 S4 R4 AY OB4 o41
            go_wp2_with fail
            obtain ⟨W7, hW7⟩ : ∃ W7, W7 = w6.alloc (.cells #[.int .i64 pt, .slice A6 tx.length c6] 37) := ⟨_, rfl⟩
            have R7 := Lib.hid ((R6.out.alloc (Nat.le_refl _) (.cells #[.int .i64 pt, .slice A6 tx.length c6] 37)).more (by simp : w6.heap.size ≤ (w6.alloc (.cells #[.int .i64 pt, .slice A6 tx.length c6] 37)).heap.size))
            have R7' := Lib.hid ((R6'.out.alloc (Nat.le_refl _) (.cells #[.int .i64 pt, .slice A6 tx.length c6] 37)).more (by simp : w6.heap.size ≤ (w6.alloc (.cells #[.int .i64 pt, .slice A6 tx.length c6] 37)).heap.size))
            obtain ⟨⟨r0, r1⟩, _⟩ := Blk.two (P4.out.alloc (.cells #[.int .i64 pt, .slice A6 tx.length c6] 37))
            obtain ⟨⟨r2, r3⟩, _⟩ := Blk.two (Blk.new w6 37 #[.int .i64 pt, .slice A6 tx.length c6])
            obtain ⟨A8, c8, r4⟩ := S6.out.len
            rw [← hW7] at S6 R7 R7' r0 r1 r2 r3 r4 ⊢
            clear hW7 R6 R6' P4 p0 p1
            have k1 := cell_regrown r0
            have k2 := cell_regrown r1
            have k3 := cell_regrown r2
            have k4 := cell_regrown r3
            have k5 := cell_regrown r4
            have cS : ∀ d os, Calls Try.prog 15 #[.agg #[.int .i64 pt, .slice A4 tx.length c4], .agg #[.int .i64 pt, .slice A6 tx.length c6]] (grow (redrawn W7 d) os) fun e w'' => e = .returned (.bool true) ∧ ∃ p : Regrown, w'' = grow (redrawn W7 p.d) p.os :=
              fun d os => Calls.regrown_of ((samep_any pt pt A4 A6 c4 c6 tx tx _ ((R7.out.below (below_regrown W7 d os)).more (below_regrown W7 d os).size) ((R7'.out.below (below_regrown W7 d os)).more (below_regrown W7 d os).size)).mono fun e w'' ⟨he, hw⟩ => ⟨by rw [he]; simp, hw⟩)
            have cL : ∀ d os, Calls Try.prog 22 #[.pointer (some ⟨w1.heap.size, 0, none⟩)] (grow (redrawn W7 d) os) fun e w'' => e = .returned (.int .i64 L2.length) ∧ ∃ p : Regrown, w'' = grow (redrawn W7 p.d) p.os :=
              fun d os => Calls.regrown_of ((len_any w1.heap.size w1.heap.size rx2 most L2 _ (S6.out.x.below (below_regrown W7 d os))).mono fun e w'' ⟨he, hw⟩ => ⟨he, by rw [← hw]; exact Below.refl _ _⟩)
            have hbb : (okv != okv) = false := bne_self_eq_false okv
            refine wp_region_quiet_below (by kernel_rfl) (by kernel_rfl) ?_
            repeat (first | go_big_quiet_step (first | exact cS _ _ | exact cL _ _) | quiet_step (first | exact cS _ _ | exact cL _ _))
            refine wpQuiet_nil ?_
            intro _ hw'
            obtain ⟨⟨dq, osq⟩, hw''⟩ := hw'
            subst hw''
            obtain ⟨W9, hW9⟩ : ∃ W9, W9 = grow (redrawn W7 dq) osq := ⟨_, rfl⟩
            have b79 := below_regrown W7 dq osq
            rw [← hW9] at b79 ⊢
            have S9 := Lib.hid (S6.out.below b79)
            clear hW9 b79 k1 k2 k3 k4 k5 cS cL r0 r1 r2 r3 r4 hbb R7 R7' S6
            go_wp2_with fail
            go_roundw
            case rel => exact ⟨k + 1, L2, rx2, ry2, by omega, by go_num, S9.out⟩
            case measure => simp [intOf]; omega
        · go_wp2_with fail -- ARM exit
          refine (first_any _).mono ?_
          rintro e w7 ⟨rfl, hb7⟩
          go_wp2_with fail
          go_ret
          exact ⟨rfl, HS.out.b.trans (hb7.mono HS.out.b.size)⟩
    · go_enter Try.func3, Try.ntmps3 -- ARM out
      go_wp2_with fail
      refine (first_any w).mono ?_
      rintro e w0 ⟨rfl, hb0⟩
      go_wp2_with fail
      refine (Hfew.out w0 (hx'.below hb0)).mono ?_
      rintro e w1 ⟨rfl, hb1⟩
      have B1 := hb0.trans (hb1.mono hb0.size)
      go_wp2_with fail
      refine (new_any most w1).mono ?_
      rintro e w2 ⟨_, h⟩
      obtain ⟨rfl, rfl⟩ := h hin
      clear h
      go_wp2_with fail
      refine (newy_any most w1).mono ?_
      rintro e w3 ⟨_, h⟩
      obtain ⟨rfl, rfl⟩ := h hin
      clear h hin
      go_wp2_with fail
      go_loopw [9] (fun i wr => Below w.heap.size w wr ∧ i = .int .i64 0) (fun i _ => ts.length - (intOf i).toNat)
      case atStart => exact ⟨B1, rfl⟩
      case round =>
        obtain ⟨hb, rfl⟩ := hrel
        go_wp2_with fail
        refine (first_any _).mono ?_
        rintro e w7 ⟨rfl, hb7⟩
        go_wp2_with fail
        go_ret
        exact ⟨rfl, hb.trans (hb7.mono hb.size)⟩
end Go.Proofs.Ytoiopoebjchjeaa
