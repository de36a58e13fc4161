/-
  LinePlays: any line, any calls: each answer is the reference's.
-/
import Derived.Test.YthnenpjpgmpadaaFirst
import Derived.Test.YthnenpjpgmpadaaOps
import Derived.RegionTactic
import Derived.BigRegion
namespace Go.Proofs.Ythnenpjpgmpadaa
open Go.RowKit

theorem send_same (s : LineD) (bs : List UInt8) : (s.send bs).2.2.party = s.party ∧ (s.send bs).2.2.which = s.which := by
  unfold LineD.send
  split
  · exact ⟨rfl, rfl⟩
  · split <;> exact ⟨rfl, rfl⟩
theorem got_same (s : LineD) (n : NoteD) : (s.got n).2.2.party = s.party ∧ (s.got n).2.2.which = s.which := by
  unfold LineD.got
  split
  · exact ⟨rfl, rfl⟩
  · split <;> exact ⟨rfl, rfl⟩

/-- What holds at every round's head. -/
def PlRel (gx gy : Nat) (w : World) (n : Nat) (p l : Int) (i : Value) (wr : World) : Prop :=
  ∃ (k : Nat) (s : LineD), k ≤ n ∧ i = .int .i64 k ∧ s.party = p ∧ s.which = l ∧ XL wr gx gx s ∧ YL wr gx gy s ∧ Below w.heap.size w wr
/-- .. and behind a round's switch. -/
structure PlSt (gx gy : Nat) (w : World) (p l : Int) (s : LineD) (wr : World) : Prop where
  hp : s.party = p
  hl : s.which = l
  x : XL wr gx gx s
  y : YL wr gx gy s
  b : Below w.heap.size w wr

theorem quiet_same {P : Program} {f : FuncId} {args : Array Value} {w : World} {n : Nat} {v : Value}
    (h : Calls P f args (w.drewN n) fun e w' => e = .returned v ∧ w.drewN n = w') : Calls P f args (w.drewN n) fun e w'' => e = .returned v ∧ ∃ m, w'' = w.drewN m :=
  h.mono fun _ _ ⟨he, hw⟩ => ⟨he, n, hw.symm⟩
theorem PlSt.drewN {gx gy : Nat} {w : World} {p l : Int} {s : LineD} {wr : World} (h : PlSt gx gy w p l s wr) (n : Nat) : PlSt gx gy w p l s (wr.drewN n) :=
  ⟨h.hp, h.hl, h.x.below (below_drewN (Below.refl _ _) n), h.y.below (below_drewN (Below.refl _ _) n), below_drewN h.b n⟩
theorem PlSt.below {gx gy : Nat} {w : World} {p l : Int} {s : LineD} {wr wr' : World} (h : PlSt gx gy w p l s wr) (hb : Below wr.heap.size wr wr') : PlSt gx gy w p l s wr' :=
  ⟨h.hp, h.hl, h.x.below hb, h.y.below hb, h.b.trans (hb.mono h.b.size)⟩

theorem YL.past {w w' : World} {bx b gx g : Nat} {s s' : LineD} (h : YL w b g s) (hx : XL w bx gx s') (hg : w.grownBy w' (some gx)) : YL w' b g s := by
  obtain ⟨cs, hk⟩ := hx.blk
  exact h.only hk (by decide) (by decide) hg
theorem XL.past {w w' : World} {bx b gx g : Nat} {s s' : LineD} (h : XL w b g s) (hy : YL w bx gx s') (hg : w.grownBy w' (some gx)) : XL w' b g s := by
  obtain ⟨cs, hk⟩ := hy.blk
  exact h.only hk (by decide) (by decide) hg
theorem YL.cells {w : World} {b g : Nat} {s : LineD} (h : YL w b g s) : w.cell? ⟨g, 2, none⟩ = some (.int .i64 s.seq) ∧ w.cell? ⟨g, 3, none⟩ = some (.bool s.busy) ∧ g < w.heap.size := by
  obtain ⟨_, A, c, hk, _⟩ := h
  exact ⟨by rw [hk.cell]; rfl, by rw [hk.cell]; rfl, hk.lt⟩

set_option maxRecDepth 100000 in
set_option maxHeartbeats 8000000 in
theorem lineplays_any (p l q : Int) (x : OpsD) (w : World) (hx : x.ok w) : Calls Try.prog 4 #[.int .i64 p, .int .i64 l, .int .i64 q, .slice x.A x.n x.c] w fun e w' => e = .returned (.bool true) ∧ Below w.heap.size w w' := by
  have hfew := fun w' h => fewops_any x w' h
  obtain ⟨A, n, c, ts⟩ := x
  have hx' := hx
  obtain ⟨hl, hmax, hat, hts⟩ := hx
  simp only at hl hmax hat hts hfew ⊢
  obtain rfl := hl
  unfold maxLen at hmax
  have Hfew := Lib.hid hfew
  clear hfew
  cases hyes : fewO ts with
  | false =>
    rw [hyes] at Hfew
    clear hyes
    go_enter Try.func4, Try.ntmps4
    go_wp2_with fail
    refine (first_any w).mono ?_
    rintro e w0 ⟨rfl, hb0⟩
    go_wp2_with fail
    refine (Hfew.out w0 (hx'.below hb0)).mono ?_
    rintro e w1 ⟨rfl, hb1⟩
    go_wp2_with fail
    refine (first_any w1).mono ?_
    rintro e w2 ⟨rfl, hb2⟩
    go_wp2_with fail
    go_ret
    exact ⟨rfl, (hb0.trans (hb1.mono hb0.size)).trans (hb2.mono (Nat.le_trans hb0.size hb1.size))⟩
  | true =>
    rw [hyes] at Hfew
    have hlen := fewO_len hyes
    have hsmall := Lib.hid (fewO_mem hyes)
    clear hyes
    go_enter Try.func4, Try.ntmps4
    go_wp2_with fail
    refine (first_any w).mono ?_
    rintro e wa ⟨rfl, hba⟩
    go_wp2_with fail
    refine (Hfew.out wa (hx'.below hba)).mono ?_
    rintro e w0 ⟨rfl, hb0'⟩
    have hb0 : Below w.heap.size w w0 := hba.trans (hb0'.mono hba.size)
    clear hba hb0'
    go_wp2_with fail
    refine (new_any p l q w0).mono ?_
    rintro e w1 ⟨rfl, hx1, hb1⟩
    have hz1 := hx1.lt
    go_wp2_with fail
    refine (newy_any p l q w1).mono ?_
    rintro e w2 ⟨rfl, hy2, hb2⟩
    have hz2 := hy2.lt
    have hB := hb0.size
    have b2 : Below w.heap.size w w2 := (hb0.trans (hb1.mono hB)).trans (hb2.mono (by omega))
    have S2 : PlSt w0.heap.size w1.heap.size w p l (fresh p l q) w2 := ⟨rfl, rfl, hx1.below hb2, by obtain ⟨hf, A', c', hk, ho⟩ := hy2; exact ⟨hf, A', c', hk, own_mono ho (by omega)⟩, b2⟩
    have H2 := Lib.hid S2
    have Hat := Lib.hid hat
    have Hts := Lib.hid hts
    clear hat hts hx1 hy2 hb1 hb2 b2 S2 hb0 hx'
    go_wp2_with fail
    go_loopw [11] (fun i wr => PlRel w0.heap.size w1.heap.size w ts.length p l i wr) (fun i _ => ts.length - (intOf i).toNat)
    case atStart => exact ⟨0, _, Nat.zero_le _, rfl, H2.out.hp, H2.out.hl, H2.out.x, H2.out.y, H2.out.b⟩
    case round =>
      obtain ⟨k, s, hk, rfl, hsp, hsl, hx, hy, hb⟩ := hrel
      have hzr := hy.lt
      have HS := Lib.hid (PlSt.mk hsp hsl hx hy hb)
      clear hsp hsl hx hy hb H2
      by_cases hlt : k < ts.length
      · obtain ⟨b, o, rfl, hbo, hcell⟩ := Hat.out (by omega)
        have hsz := Nat.lt_of_lt_of_le hbo HS.out.b.size
        have hc0 := (HS.out.b.cell (p := ⟨b, o + k * 7, none⟩) hbo).trans (hcell k hlt 0 _ rfl)
        have hc1 := (HS.out.b.cell (p := ⟨b, o + k * 7 + 1, none⟩) hbo).trans (hcell k hlt 1 _ rfl)
        have hc2 := (HS.out.b.cell (p := ⟨b, o + k * 7 + 2, none⟩) hbo).trans (hcell k hlt 2 _ rfl)
        have hc3 := (HS.out.b.cell (p := ⟨b, o + k * 7 + 3, none⟩) hbo).trans (hcell k hlt 3 _ rfl)
        have hc4 := (HS.out.b.cell (p := ⟨b, o + k * 7 + 4, none⟩) hbo).trans (hcell k hlt 4 _ rfl)
        have hc5 := (HS.out.b.cell (p := ⟨b, o + k * 7 + 5, none⟩) hbo).trans (hcell k hlt 5 _ rfl)
        have hc6 := (HS.out.b.cell (p := ⟨b, o + k * 7 + 6, none⟩) hbo).trans (hcell k hlt 6 _ rfl)
        have ht := Hts.out ts[k] (List.getElem_mem hlt)
        have hsm := hsmall.out ts[k] (List.getElem_mem hlt)
        clear hcell
        obtain ⟨tx, htx⟩ : ∃ tx, tx = ts[k] := ⟨_, rfl⟩
        rw [← htx] at hc0 hc1 hc2 hc3 hc4 hc5 hc6 ht hsm
        clear htx
        obtain ⟨kd, ⟨AB, nB, cB, bs⟩, np, nl, nw, ns, ⟨Ab, nb, cb, bd⟩⟩ := tx
        obtain ⟨⟨hrB, hnB, _⟩, hrb, hnb, _⟩ := ht
        simp only at hc0 hc1 hc2 hc3 hc4 hc5 hc6 hrB hnB hrb hnb hsm
        obtain ⟨hsm1, hsm2⟩ := hsm
        obtain rfl : bs.length = nB := by have := hrB.1; simp [bv] at this; omega
        obtain rfl : bd.length = nb := by have := hrb.1; simp [bv] at this; omega
        have HnB := Lib.hid hnB
        have Hnb := Lib.hid hnb
        have HRB := Lib.hid hrB
        have HRb := Lib.hid hrb
        clear hnB hnb hrB hrb
        by_cases h0 : kd = 0
        · subst h0
          have gAB := HRB.out.below HS.out.b
          have SA := Lib.hid (HS.out.below ((Below.refl _ _).alloc (Nat.le_refl _) (.cells #[.int .i64 0, .slice AB bs.length cB, .int .i64 np, .int .i64 nl, .int .i64 nw, .int .i64 ns, .slice Ab bd.length cb] 40)))
          have kx := xsend_any w0.heap.size w0.heap.size s _ SA.out.x (Nat.le_of_lt (Nat.lt_trans hz1 (Nat.lt_of_lt_of_le SA.out.y.lt (Nat.le_refl _)))) AB bs.length cB bs ((HRB.out.below SA.out.b).more SA.out.b.size) HnB.out (by omega)
          obtain ⟨r, hr⟩ : ∃ r, r = s.send bs := ⟨_, rfl⟩
          have hsame := send_same s bs
          rw [← hr] at kx hsame
          obtain ⟨nd, code, s'⟩ := r
          obtain ⟨hsp, hsl⟩ := hsame
          have KX := Lib.hid kx
          have HR := Lib.hid hr
          have HSP := Lib.hid hsp
          have HSL := Lib.hid hsl
          clear kx hr hsp hsl gAB
          go_wp2_with fail
          refine KX.out.mono ?_
          rintro e w3 ⟨v, rfl, ⟨A3, c3, rfl, ho3⟩, hx3, hg3⟩
          have o3 := ((Blk.new wr 40 #[.int .i64 0, .slice AB bs.length cB, .int .i64 np, .int .i64 nl, .int .i64 nw, .int .i64 ns, .slice Ab bd.length cb]).grown hg3 (fun e => by injection e; omega))
          have o31 := o3.cell 1
          have hz3 := o3.lt
          simp at o31
          have b3 : Below w.heap.size w w3 := below_only SA.out.b hg3 SA.out.b.size (by omega)
          have X3 := Lib.hid hx3
          have Y3 := Lib.hid (SA.out.y.past SA.out.x hg3)
          have O3 := Lib.hid ho3
          clear ho3 hx3 hg3 o3
          simp only
          go_wp2_with fail
          have hA3 : Below w3.heap.size w3 (w3.alloc (.cells #[.int .i64 nd.party, .int .i64 nd.which, .int .i64 nd.way, .int .i64 nd.seq, .slice A3 nd.body.length c3] 28)) := (Below.refl _ _).alloc (Nat.le_refl _) _
          have ky := ysend_any w0.heap.size w1.heap.size s _ (Y3.out.below hA3) (by have := Y3.out.lt; simp; omega) AB bs.length cB bs ((HRB.out.below (b3.alloc b3.size _)).more (by have := b3.size; simp; omega)) (by omega)
          rw [← HR.out] at ky
          refine ky.mono ?_
          rintro e w4 ⟨v, rfl, ⟨A4, c4, rfl, ho4⟩, hy4, hg4⟩
          have hz34 : w3.heap.size < w4.heap.size := by have := hg4.size; simp at this; omega
          have b4 : Below w.heap.size w w4 := below_only (b3.alloc b3.size _) hg4 (by have := b3.size; simp; omega) (by omega)
          have n4 := (Blk.new w3 28 #[.int .i64 nd.party, .int .i64 nd.which, .int .i64 nd.way, .int .i64 nd.seq, .slice A3 nd.body.length c3]).grown hg4 (fun e => by injection e; have := Y3.out.lt; omega)
          obtain ⟨⟨p0, p1, p2, p3, p4⟩, _⟩ := Blk.five n4
          have X4 := Lib.hid ((X3.out.below hA3).past (Y3.out.below hA3) hg4)
          have Y4 := Lib.hid hy4
          have O34 := Lib.hid (own_liney (O3.out.alloc _) (Y3.out.below hA3) hg4)
          have O4 := Lib.hid ho4
          clear ho4 hy4 hg4 n4 ky hA3 o31
          simp only
          go_wp2_with fail
          refine (same_any nd A3 A4 c3 c4 _ (((Reads.of_own O34.out).alloc (Nat.le_refl _) _).more (by simp)) (((Reads.of_own O4.out).alloc (Nat.le_refl _) _).more (by simp))).mono ?_
          rintro e w5 ⟨rfl, hb5⟩
          have H5 : Hid (PlSt w0.heap.size w1.heap.size w p l s' w5) :=
            (PlSt.mk (HSP.out.trans HS.out.hp) (HSL.out.trans HS.out.hl) X4.out Y4.out b4).below (((Below.refl _ _).alloc (Nat.le_refl _) _).trans (hb5.mono (by simp)))
          clear p0 p1 p2 p3 p4 hb5 HS SA
          obtain ⟨y2, y3, hyz⟩ := H5.out.y.cells
          go_wp2_with fail
          go_quiet (first | (go_at_call 9; exact quiet_same (seq_any w0.heap.size w0.heap.size s' _ (H5.out.drewN _).x)) | (go_at_call 10; exact quiet_same (busy_any w0.heap.size w0.heap.size s' _ (H5.out.drewN _).x)))
          go_wp2_with fail
          go_roundw
          case rel => exact ⟨k + 1, s', by omega, by go_num, H5.out.hp, H5.out.hl, (H5.out.drewN _).x, (H5.out.drewN _).y, (H5.out.drewN _).b⟩
          case measure => simp [intOf]; omega
        · by_cases h1 : kd = 1
          · subst h1
            have SA := Lib.hid (HS.out.below ((Below.refl _ _).alloc (Nat.le_refl _) (.cells #[.int .i64 1, .slice AB bs.length cB, .int .i64 np, .int .i64 nl, .int .i64 nw, .int .i64 ns, .slice Ab bd.length cb] 40)))
            have kx := xagain_any w0.heap.size w0.heap.size s _ SA.out.x
            obtain ⟨r, hr⟩ : ∃ r, r = s.again := ⟨_, rfl⟩
            rw [← hr] at kx
            obtain ⟨nd, ok⟩ := r
            have KX := Lib.hid kx
            have HR := Lib.hid hr
            clear kx hr
            go_wp2_with fail
            refine KX.out.mono ?_
            rintro e w3 ⟨v, rfl, ⟨A3, c3, rfl, ho3⟩, hb3⟩
            have S3 := Lib.hid (SA.out.below hb3)
            have O3 := Lib.hid ho3
            have hzz := hb3.size
            simp at hzz
            clear ho3 hb3
            simp only
            go_wp2_with fail
            have S3' := Lib.hid (S3.out.below ((Below.refl _ _).alloc (Nat.le_refl _) (.cells #[.int .i64 nd.party, .int .i64 nd.which, .int .i64 nd.way, .int .i64 nd.seq, .slice A3 nd.body.length c3] 28)))
            have ky := yagain_any w0.heap.size w1.heap.size s _ S3'.out.y
            rw [← HR.out] at ky
            refine ky.mono ?_
            rintro e w4 ⟨v, rfl, ⟨A4, c4, rfl, ho4⟩, hb4⟩
            have n4 := (Blk.new w3 28 #[.int .i64 nd.party, .int .i64 nd.which, .int .i64 nd.way, .int .i64 nd.seq, .slice A3 nd.body.length c3]).below hb4 (by simp)
            obtain ⟨⟨p0, p1, p2, p3, p4⟩, _⟩ := Blk.five n4
            have hz34 := n4.lt
            have S4 := Lib.hid (S3'.out.below hb4)
            have O34 := Lib.hid (own_below (O3.out.alloc _) hb4)
            have O4 := Lib.hid ho4
            clear ho4 hb4 n4 ky S3 S3' SA HS
            simp only
            go_wp2_with fail
            refine (same_any nd A3 A4 c3 c4 _ (((Reads.of_own O34.out).alloc (Nat.le_refl _) _).more (by simp)) (((Reads.of_own O4.out).alloc (Nat.le_refl _) _).more (by simp))).mono ?_
            rintro e w5 ⟨rfl, hb5⟩
            have H5 : Hid (PlSt w0.heap.size w1.heap.size w p l s w5) := S4.out.below (((Below.refl _ _).alloc (Nat.le_refl _) _).trans (hb5.mono (by simp)))
            clear p0 p1 p2 p3 p4 hb5
            obtain ⟨y2, y3, hyz⟩ := H5.out.y.cells
            go_wp2_with fail
            go_quiet (first | (go_at_call 9; exact quiet_same (seq_any w0.heap.size w0.heap.size s _ (H5.out.drewN _).x)) | (go_at_call 10; exact quiet_same (busy_any w0.heap.size w0.heap.size s _ (H5.out.drewN _).x)))
            go_wp2_with fail
            go_roundw
            case rel => exact ⟨k + 1, s, by omega, by go_num, H5.out.hp, H5.out.hl, (H5.out.drewN _).x, (H5.out.drewN _).y, (H5.out.drewN _).b⟩
            case measure => simp [intOf]; omega
          · by_cases h3 : kd = 3
            · subst h3
              obtain ⟨z2, z3, zz⟩ := HS.out.y.cells
              go_wp2_with fail
              go_region
              all_goals go_wp2_with fail
              have SN := Lib.hid (HS.out.below (((Below.refl _ _).alloc (Nat.le_refl _) (.cells #[.int .i64 3, .slice AB bs.length cB, .int .i64 np, .int .i64 nl, .int .i64 nw, .int .i64 ns, .slice Ab bd.length cb] 40)).alloc (by simp) (.cells #[.int .i64 p, .int .i64 l, .int .i64 1, .int .i64 s.seq, .slice AB bs.length cB] 28)).drew)
              have NB : Hid (Blk _ (wr.heap.size + 1) 28 #[.int .i64 p, .int .i64 l, .int .i64 1, .int .i64 s.seq, .slice AB bs.length cB]) := (by have := (Blk.new (wr.alloc (.cells #[.int .i64 3, .slice AB bs.length cB, .int .i64 np, .int .i64 nl, .int .i64 nw, .int .i64 ns, .slice Ab bd.length cb] 40)) 28 #[.int .i64 p, .int .i64 l, .int .i64 1, .int .i64 s.seq, .slice AB bs.length cB]).drew; simpa using this : Blk ((wr.alloc (.cells #[.int .i64 3, .slice AB bs.length cB, .int .i64 np, .int .i64 nl, .int .i64 nw, .int .i64 ns, .slice Ab bd.length cb] 40)).alloc (.cells #[.int .i64 p, .int .i64 l, .int .i64 1, .int .i64 s.seq, .slice AB bs.length cB] 28)).drew (wr.heap.size + 1) 28 #[.int .i64 p, .int .i64 l, .int .i64 1, .int .i64 s.seq, .slice AB bs.length cB])
              have kx := xgot_any w0.heap.size w0.heap.size s _ SN.out.x (Nat.le_of_lt SN.out.x.lt) ⟨p, l, 1, s.seq, bs⟩ AB cB ((HRB.out.below SN.out.b).more SN.out.b.size) HnB.out (by simp only; omega)
              have ky0 := fun W' (hy : YL W' w0.heap.size w1.heap.size s) (hb : Below w.heap.size w W') => ygot_any w0.heap.size w1.heap.size s W' hy (Nat.le_of_lt (Nat.lt_trans hz1 hy.lt)) ⟨p, l, 1, s.seq, bs⟩ AB cB ((HRB.out.below hb).more hb.size) (by simp only; omega)
              obtain ⟨r, hr⟩ : ∃ r, r = s.got ⟨p, l, 1, s.seq, bs⟩ := ⟨_, rfl⟩
              have hsame := got_same s ⟨p, l, 1, s.seq, bs⟩
              rw [← hr] at kx hsame
              simp only [← hr] at ky0
              obtain ⟨bo, code, s'⟩ := r
              obtain ⟨hsp, hsl⟩ := hsame
              have KX := Lib.hid kx
              have KY := Lib.hid ky0
              have HSP := Lib.hid hsp
              have HSL := Lib.hid hsl
              clear kx ky0 hr hsp hsl
              refine KX.out.mono ?_
              rintro e w3 ⟨A3, c3, rfl, ho3, hx3, hg3⟩
              have hzg := SN.out.x.lt
              have n3 := NB.out.grown hg3 (fun e => by injection e; omega)
              obtain ⟨⟨p0, p1, p2, p3, p4⟩, _⟩ := Blk.five n3
              have b3 : Below w.heap.size w w3 := below_only SN.out.b hg3 SN.out.b.size (by omega)
              have X3 := Lib.hid hx3
              have Y3 := Lib.hid (SN.out.y.past SN.out.x hg3)
              have O3 := Lib.hid ho3
              clear ho3 hx3 hg3 n3
              simp only
              go_wp2_with fail
              refine (KY.out w3 Y3.out b3).mono ?_
              rintro e w4 ⟨A4, c4, rfl, ho4, hy4, hg4⟩
              have b4 : Below w.heap.size w w4 := below_only b3 hg4 b3.size (by omega)
              have O34 := Lib.hid (own_liney O3.out Y3.out hg4)
              have O4 := Lib.hid ho4
              have H5 : Hid (PlSt w0.heap.size w1.heap.size w p l s' w4) := PlSt.mk (HSP.out.trans HS.out.hp) (HSL.out.trans HS.out.hl) (X3.out.past Y3.out hg4) hy4 b4
              clear ho4 hy4 hg4 p0 p1 p2 p3 p4
              simp only
              go_wp2_with fail
              refine (beqs_any A3 A4 bo.length c3 bo.length c4 bo bo _ (Reads.of_own O34.out) (Reads.of_own O4.out)).mono ?_
              rw [beq_self_eq_true]
              rintro e w5 ⟨rfl, rfl⟩
              clear HS SN
              obtain ⟨y2, y3, hyz⟩ := H5.out.y.cells
              go_wp2_with fail
              go_quiet (first | (go_at_call 9; exact quiet_same (seq_any w0.heap.size w0.heap.size s' _ (H5.out.drewN _).x)) | (go_at_call 10; exact quiet_same (busy_any w0.heap.size w0.heap.size s' _ (H5.out.drewN _).x)))
              go_wp2_with fail
              go_roundw
              case rel => exact ⟨k + 1, s', by omega, by go_num, H5.out.hp, H5.out.hl, (H5.out.drewN _).x, (H5.out.drewN _).y, (H5.out.drewN _).b⟩
              case measure => simp [intOf]; omega
            · have e0 : (kd == 0) = false := by simpa using h0
              have e1 : (kd == 1) = false := by simpa using h1
              have e3 : (kd == 3) = false := by simpa using h3
              clear h0 h1 h3
              have SN := Lib.hid (HS.out.below (((Below.refl _ _).alloc (Nat.le_refl _) (.cells #[.int .i64 kd, .slice AB bs.length cB, .int .i64 np, .int .i64 nl, .int .i64 nw, .int .i64 ns, .slice Ab bd.length cb] 40)).alloc (by simp) (.cells #[.int .i64 np, .int .i64 nl, .int .i64 nw, .int .i64 ns, .slice Ab bd.length cb] 28)))
              have NB : Hid (Blk _ (wr.heap.size + 1) 28 #[.int .i64 np, .int .i64 nl, .int .i64 nw, .int .i64 ns, .slice Ab bd.length cb]) := (by have := Blk.new (wr.alloc (.cells #[.int .i64 kd, .slice AB bs.length cB, .int .i64 np, .int .i64 nl, .int .i64 nw, .int .i64 ns, .slice Ab bd.length cb] 40)) 28 #[.int .i64 np, .int .i64 nl, .int .i64 nw, .int .i64 ns, .slice Ab bd.length cb]; simpa using this : Blk ((wr.alloc (.cells #[.int .i64 kd, .slice AB bs.length cB, .int .i64 np, .int .i64 nl, .int .i64 nw, .int .i64 ns, .slice Ab bd.length cb] 40)).alloc (.cells #[.int .i64 np, .int .i64 nl, .int .i64 nw, .int .i64 ns, .slice Ab bd.length cb] 28)) (wr.heap.size + 1) 28 #[.int .i64 np, .int .i64 nl, .int .i64 nw, .int .i64 ns, .slice Ab bd.length cb])
              go_wp2_with fail
              have kx := xgot_any w0.heap.size w0.heap.size s _ SN.out.x (Nat.le_of_lt SN.out.x.lt) ⟨np, nl, nw, ns, bd⟩ Ab cb ((HRb.out.below SN.out.b).more SN.out.b.size) Hnb.out (by simp only; omega)
              have ky0 := fun W' (hy : YL W' w0.heap.size w1.heap.size s) (hb : Below w.heap.size w W') => ygot_any w0.heap.size w1.heap.size s W' hy (Nat.le_of_lt (Nat.lt_trans hz1 hy.lt)) ⟨np, nl, nw, ns, bd⟩ Ab cb ((HRb.out.below hb).more hb.size) (by simp only; omega)
              obtain ⟨r, hr⟩ : ∃ r, r = s.got ⟨np, nl, nw, ns, bd⟩ := ⟨_, rfl⟩
              have hsame := got_same s ⟨np, nl, nw, ns, bd⟩
              rw [← hr] at kx hsame
              simp only [← hr] at ky0
              obtain ⟨bo, code, s'⟩ := r
              obtain ⟨hsp, hsl⟩ := hsame
              have KX := Lib.hid kx
              have KY := Lib.hid ky0
              have HSP := Lib.hid hsp
              have HSL := Lib.hid hsl
              clear kx ky0 hr hsp hsl
              refine KX.out.mono ?_
              rintro e w3 ⟨A3, c3, rfl, ho3, hx3, hg3⟩
              have hzg := SN.out.x.lt
              have n3 := NB.out.grown hg3 (fun e => by injection e; omega)
              obtain ⟨⟨p0, p1, p2, p3, p4⟩, _⟩ := Blk.five n3
              have b3 : Below w.heap.size w w3 := below_only SN.out.b hg3 SN.out.b.size (by omega)
              have X3 := Lib.hid hx3
              have Y3 := Lib.hid (SN.out.y.past SN.out.x hg3)
              have O3 := Lib.hid ho3
              clear ho3 hx3 hg3 n3
              simp only
              go_wp2_with fail
              refine (KY.out w3 Y3.out b3).mono ?_
              rintro e w4 ⟨A4, c4, rfl, ho4, hy4, hg4⟩
              have b4 : Below w.heap.size w w4 := below_only b3 hg4 b3.size (by omega)
              have O34 := Lib.hid (own_liney O3.out Y3.out hg4)
              have O4 := Lib.hid ho4
              have H5 : Hid (PlSt w0.heap.size w1.heap.size w p l s' w4) := PlSt.mk (HSP.out.trans HS.out.hp) (HSL.out.trans HS.out.hl) (X3.out.past Y3.out hg4) hy4 b4
              clear ho4 hy4 hg4 p0 p1 p2 p3 p4
              simp only
              go_wp2_with fail
              refine (beqs_any A3 A4 bo.length c3 bo.length c4 bo bo _ (Reads.of_own O34.out) (Reads.of_own O4.out)).mono ?_
              rw [beq_self_eq_true]
              rintro e w5 ⟨rfl, rfl⟩
              clear HS SN
              obtain ⟨y2, y3, hyz⟩ := H5.out.y.cells
              go_wp2_with fail
              go_quiet (first | (go_at_call 9; exact quiet_same (seq_any w0.heap.size w0.heap.size s' _ (H5.out.drewN _).x)) | (go_at_call 10; exact quiet_same (busy_any w0.heap.size w0.heap.size s' _ (H5.out.drewN _).x)))
              go_wp2_with fail
              go_roundw
              case rel => exact ⟨k + 1, s', by omega, by go_num, H5.out.hp, H5.out.hl, (H5.out.drewN _).x, (H5.out.drewN _).y, (H5.out.drewN _).b⟩
              case measure => simp [intOf]; omega
      · have B0 := HS.out.b
        clear HS
        go_wp2_with fail
        refine (first_any wr).mono ?_
        rintro e w5 ⟨rfl, hb5⟩
        go_wp2_with fail
        go_ret
        exact ⟨rfl, B0.trans (hb5.mono B0.size)⟩
end Go.Proofs.Ythnenpjpgmpadaa
