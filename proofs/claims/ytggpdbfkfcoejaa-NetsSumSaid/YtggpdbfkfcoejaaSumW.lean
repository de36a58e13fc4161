/-
  NetsSum: what each party gets by the nets is what it gets by the trades.
-/
import Derived.Test.YtggpdbfkfcoejaaPlain
import Derived.Test.YtggpdbfkfcoejaaSumLaw
import Derived.Test.YtggpdbfkfcoejaaOrderLaw
namespace Go.Proofs.Ytggpdbfkfcoejaa
open Go.RowKit

/-- One more trade's share, aa the law reckons it. -/
def shareI (x : TrD) (p l a : Int) : Int := if l = 0 then (if x.c = a then (if x.s = p then x.p else 0) - (if x.b = p then x.p else 0) else 0) else (if x.a = a then (if x.b = p then x.q else 0) - (if x.s = p then x.q else 0) else 0)
theorem share_eq (x : TrD) (p l a : Int) (hl : l = 0 ∨ l = 1) : sumI (mvN x) p l a = shareI x p l a := by
  unfold mvN sumI shareI getsI
  rcases hl with rfl | rfl <;> simp
theorem sumI_take (ts : List TrD) (k : Nat) (h : k < ts.length) (p l a : Int) (hl : l = 0 ∨ l = 1) : sumI (mvsN (ts.take (k + 1))) p l a = sumI (mvsN (ts.take k)) p l a + shareI ts[k] p l a := by
  rw [mvsN_take ts k h, sumI_append, share_eq _ _ _ _ hl]
def L1 (w : World) (i : Value) (wr : World) : Prop := ∃ k : Nat, k ≤ 2 ∧ i = .int .i64 k ∧ Below w.heap.size w wr
def L2 (w : World) (i : Value) (wr : World) : Prop := ∃ k : Nat, k ≤ 4 ∧ i = .int .i64 k ∧ Below w.heap.size w wr
def L3 (w : World) (ys : List NetD) (l a : Int) (s i : Value) (wr : World) : Prop := ∃ k : Nat, k ≤ 16 ∧ i = .int .i64 k ∧ s = .int .i64 (IntKind.i64.wrap (sumP k ys l a)) ∧ Below w.heap.size w wr
def L4 (w : World) (ts : List TrD) (p l a : Int) (s i : Value) (wr : World) : Prop := ∃ k : Nat, k ≤ ts.length ∧ i = .int .i64 k ∧ s = .int .i64 (IntKind.i64.wrap (sumI (mvsN (ts.take k)) p l a)) ∧ Below w.heap.size w wr
def L5 (w : World) (n : Nat) (i : Value) (wr : World) : Prop := ∃ k : Nat, k ≤ n ∧ i = .int .i64 k ∧ Below w.heap.size w wr
theorem wrap_sub (a b : Int) : IntKind.i64.wrap (IntKind.i64.wrap a - b) = IntKind.i64.wrap (a - b) := by
  rw [IntKind.wrap_i64, IntKind.wrap_i64, IntKind.wrap_i64]
  omega

set_option maxRecDepth 100000 in
set_option maxHeartbeats 8000000 in
theorem sum_law (t : TrsD) (w : World) (ht : t.ok w) : Calls Try.prog 6 #[.slice t.A t.n t.c] w fun e w' => e = .returned (.bool true) ∧ Below w.heap.size w w' := by
  have hplain := fun w' h => plain_any t w' h
  have hof := fun w' h hn hs => of_ok t w' h hn hs
  have hgross := fun p l a w' h hs => gross_any t p l a w' h hs
  have ht' := ht
  have hform := ht.form
  obtain ⟨A, n, c, ts⟩ := t
  obtain ⟨hl, hmax, hread, hwf⟩ := ht
  simp only at hl hmax hform hwf hplain hof hgross ⊢
  obtain rfl := hl
  unfold maxLen at hmax
  have HPl := Lib.hid hplain
  have HOf := Lib.hid hof
  have HGr := Lib.hid hgross
  have Hf := Lib.hid hform
  have HT := Lib.hid ht'
  clear hplain hof hgross hform hread hwf ht'
  by_cases hin : ts.length ≤ 200 ∧ ∀ x ∈ ts, plainT x
  · obtain ⟨n2, hp⟩ := hin -- ARM in
    have d2 : decide (200 < (ts.length : Int)) = false := decide_eq_false (by omega)
    have hamt : ∀ x ∈ ts, AmtT x := fun x hx => by
      have := hp x hx
      unfold plainT at this
      unfold AmtT
      omega
    have hamm : ∀ x ∈ ts, AmtM x := fun x hx => by
      have := hamt x hx
      unfold AmtT at this
      unfold AmtM
      omega
    have hpar : ∀ x ∈ ts, PartT x := fun x hx => by
      have := hp x hx
      unfold plainT at this
      unfold PartT
      omega
    have hsm := small_amt ts hamt (by omega)
    have HP := Lib.hid hp
    have HA := Lib.hid hamt
    have HAM := Lib.hid hamm
    have HPA := Lib.hid hpar
    have HSM := Lib.hid hsm
    clear hp hamt hamm hpar hsm
    go_enter Try.func6, Try.ntmps6
    go_wp2_with fail
    refine (first_any w).mono ?_
    rintro e w0 ⟨rfl, hb0⟩
    go_wp2_with fail
    refine (HPl.out w0 (HT.out.below hb0)).mono ?_
    rintro e w1 ⟨hy, _, hb1⟩
    obtain rfl := hy HP.out
    clear hy
    have B1 := hb0.trans (hb1.mono hb0.size)
    go_wp2_with fail
    refine (HOf.out w1 (HT.out.below B1) (by omega) HSM.out).mono ?_
    rintro e w2 ⟨v2, ys, rfl, hr2, ho2, hb2⟩
    obtain ⟨A2, c2, rfl⟩ := own_shape ho2
    have B2 := B1.trans (hb2.mono B1.size)
    have HB2 := Lib.hid B2
    have HR2 := Lib.hid hr2
    have RY := Lib.hid (Reads.of_own ho2)
    have hyl := own_len ho2
    have HT2 := Lib.hid (HT.out.below B2)
    have Hf2 := Lib.hid HT2.out.form
    have hnp := nets_parties HPA.out HSM.out.1 hr2
    have hya : ∀ y ∈ ys, AmtN y := fun y hy => by
      obtain ⟨k, _, hlt, rfl⟩ := (hr2.2 y).1 hy
      have e1 := HSM.out.2 k
      have e2 := tot_nonneg HSM.out.1 k.back
      show 0 ≤ (netOf _ k).n ∧ (netOf _ k).n ≤ 4611686018427387904
      simp only [netOf]
      omega
    have HNP := Lib.hid hnp
    have HYA := Lib.hid hya
    clear hb0 hb1 hb2 B1 B2 hr2 ho2 hnp hya HT Hf HOf HPl
    go_wp2_with fail
    go_loopw [5] (fun i wr => L1 w2 i wr) (fun i _ => 2 - (intOf i).toNat)
    case atStart => exact ⟨0, by omega, rfl, Below.refl _ _⟩
    case round =>
      obtain ⟨wh, hwh, rfl, hb1⟩ := hrel
      by_cases hwl : wh < 2
      · have dw : decide ((wh : Int) < 2) = true := decide_eq_true (by omega) -- ARM l2
        have HB1 := Lib.hid hb1
        clear hb1
        go_wp2_with fail
        go_loopw [6] (fun i wr => L2 w2 i wr) (fun i _ => 4 - (intOf i).toNat)
        case atStart => exact ⟨0, by omega, rfl, HB1.out⟩
        case round =>
          obtain ⟨aa, has, rfl, hb2⟩ := hrel
          have HB2' := Lib.hid hb2
          clear hb2 HB1
          by_cases hal : aa < 4
          · have da : decide ((aa : Int) < 4) = true := decide_eq_true (by omega) -- ARM l3
            go_wp2_with fail
            go_loopw [7, 8] (fun s i wr => L3 w2 ys wh aa s i wr) (fun _ i _ => 16 - (intOf i).toNat)
            case atStart => exact ⟨0, by omega, rfl, by show Value.int .i64 0 = .int .i64 (IntKind.i64.wrap 0); rw [wrap_zero], HB2'.out⟩
            case round =>
              obtain ⟨pp, hpp, rfl, rfl, hb3⟩ := hrel
              have HB3 := Lib.hid hb3
              clear hb3 HB2'
              by_cases hpl : pp < 16
              · have dp : decide ((pp : Int) < 16) = true := decide_eq_true (by omega) -- ARM l4
                have hsp := sumP_succ pp ys wh aa
                have hadd := wrap_add (sumP pp ys wh aa) (sumI ys pp wh aa)
                rw [← hsp] at hadd
                obtain ⟨s0, hs0⟩ : ∃ s0, s0 = IntKind.i64.wrap (sumP pp ys wh aa) := ⟨_, rfl⟩
                obtain ⟨s1, hs1⟩ : ∃ s1, s1 = IntKind.i64.wrap (sumP (pp + 1) ys wh aa) := ⟨_, rfl⟩
                rw [← hs0]
                have hadd2 : IntKind.i64.wrap (s0 + IntKind.i64.wrap (sumI ys pp wh aa)) = s1 := by
                  rw [hs0, hs1, ← hadd, Int.add_comm, wrap_add, Int.add_comm, wrap_add]
                have HAD := Lib.hid hadd2
                have HS1 := Lib.hid hs1
                clear hs0 hs1 hadd hadd2 hsp
                go_wp2_with fail
                go_loopw [9, 10] (fun s i wr => L4 w2 ts pp wh aa s i wr) (fun _ i _ => ts.length - (intOf i).toNat)
                case atStart => exact ⟨0, by omega, rfl, by show Value.int .i64 0 = .int .i64 (IntKind.i64.wrap 0); rw [wrap_zero], HB3.out⟩
                case round =>
                  obtain ⟨k, hk, rfl, rfl, hb4⟩ := hrel
                  have HB4 := Lib.hid hb4
                  clear hb4 HB3
                  by_cases hlt : k < ts.length
                  · obtain ⟨b, o, rfl, hbo, hcell⟩ := Hf2.out (by omega) -- ARM inner
                    have hsz := Nat.lt_of_lt_of_le hbo HB4.out.size
                    have hc0 := (HB4.out.cell (p := ⟨b, o + k * 7, none⟩) hbo).trans (hcell k hlt 0 _ rfl)
                    have hc1 := (HB4.out.cell (p := ⟨b, o + k * 7 + 1, none⟩) hbo).trans (hcell k hlt 1 _ rfl)
                    have hc2 := (HB4.out.cell (p := ⟨b, o + k * 7 + 2, none⟩) hbo).trans (hcell k hlt 2 _ rfl)
                    have hc3 := (HB4.out.cell (p := ⟨b, o + k * 7 + 3, none⟩) hbo).trans (hcell k hlt 3 _ rfl)
                    have hc4 := (HB4.out.cell (p := ⟨b, o + k * 7 + 4, none⟩) hbo).trans (hcell k hlt 4 _ rfl)
                    have hc5 := (HB4.out.cell (p := ⟨b, o + k * 7 + 5, none⟩) hbo).trans (hcell k hlt 5 _ rfl)
                    have hc6 := (HB4.out.cell (p := ⟨b, o + k * 7 + 6, none⟩) hbo).trans (hcell k hlt 6 _ rfl)
                    have hxp := HPA.out ts[k] (List.getElem_mem hlt)
                    have hstep := sumI_take ts k hlt pp wh aa (by omega)
                    clear hcell
                    generalize ts[k] = x at hc0 hc1 hc2 hc3 hc4 hc5 hc6 hxp hstep
                    have hki : (k : Int) < (ts.length : Int) := by omega
                    have hk0 : (0 : Int) ≤ (k : Int) := Int.natCast_nonneg _
                    obtain ⟨S, hS⟩ : ∃ S, S = sumI (mvsN (ts.take k)) pp wh aa := ⟨_, rfl⟩
                    rw [← hS] at hstep ⊢
                    have hwa := wrap_add S
                    have hws := wrap_sub S
                    obtain ⟨g, hg⟩ : ∃ g, g = IntKind.i64.wrap S := ⟨_, rfl⟩
                    rw [← hg] at hwa hws ⊢
                    have HW := Lib.hid hwa
                    have HS' := Lib.hid hws
                    have HG := Lib.hid hg
                    have HST := Lib.hid hstep
                    have hbs := hxp.2.2
                    have HBS := Lib.hid hbs
                    clear hS hg hwa hws hstep hxp hbs
                    rcases (show wh = 0 ∨ wh = 1 by omega) with rfl | rfl
                    · rcases (show x.c ≠ aa ∨ (x.c = aa ∧ x.s = pp) ∨ (x.c = aa ∧ x.s ≠ pp ∧ x.b = pp) ∨ (x.c = aa ∧ x.s ≠ pp ∧ x.b ≠ pp) by omega) with m1 | ⟨m1, m2⟩ | ⟨m1, m2, m3⟩ | ⟨m1, m2, m3⟩
                      · have q1 : (x.c == (aa : Int)) = false := by simpa using m1
                        have hval : sumI (mvsN (ts.take (k + 1))) pp ((0 : Nat) : Int) aa = S := by
                          have := HST.out
                          unfold shareI at this
                          rw [if_pos (show ((0 : Nat) : Int) = 0 from rfl)] at this
                          rw [if_neg m1] at this
                          omega
                        have HV := Lib.hid hval
                        clear m1 hval
                        go_wp2_with fail
                        go_roundw
                        case rel => exact ⟨k + 1, by omega, by go_num, by rw [HV.out, ← HG.out], HB4.out.alloc HB4.out.size _⟩
                        case measure => simp [intOf]; omega
                      · have q1 : (x.c == (aa : Int)) = true := by simpa using m1
                        have q2 : (x.s == (pp : Int)) = true := by simpa using m2
                        have q3 : (x.b == (pp : Int)) = false := by simp; intro e; exact HBS.out (by omega)
                        have hval : sumI (mvsN (ts.take (k + 1))) pp ((0 : Nat) : Int) aa = S + x.p := by
                          have := HST.out
                          unfold shareI at this
                          rw [if_pos (show ((0 : Nat) : Int) = 0 from rfl)] at this
                          rw [if_pos m1, if_pos m2, if_neg (fun e => HBS.out (by omega))] at this
                          omega
                        have HV := Lib.hid hval
                        have hw := HW.out x.p
                        obtain ⟨g2, hg2⟩ : ∃ g2, g2 = IntKind.i64.wrap (S + x.p) := ⟨_, rfl⟩
                        rw [← hg2] at hw
                        have HG2 := Lib.hid hg2
                        clear hg2
                        clear m1 m2 hval
                        go_wp2_with fail
                        go_roundw
                        case rel => exact ⟨k + 1, by omega, by go_num, by rw [HV.out, ← HG2.out], HB4.out.alloc HB4.out.size _⟩
                        case measure => simp [intOf]; omega
                      · have q1 : (x.c == (aa : Int)) = true := by simpa using m1
                        have q2 : (x.s == (pp : Int)) = false := by simpa using m2
                        have q3 : (x.b == (pp : Int)) = true := by simpa using m3
                        have hval : sumI (mvsN (ts.take (k + 1))) pp ((0 : Nat) : Int) aa = S - x.p := by
                          have := HST.out
                          unfold shareI at this
                          rw [if_pos (show ((0 : Nat) : Int) = 0 from rfl)] at this
                          rw [if_pos m1, if_neg m2, if_pos m3] at this
                          omega
                        have HV := Lib.hid hval
                        have hw := HS'.out x.p
                        obtain ⟨g2, hg2⟩ : ∃ g2, g2 = IntKind.i64.wrap (S - x.p) := ⟨_, rfl⟩
                        rw [← hg2] at hw
                        have HG2 := Lib.hid hg2
                        clear hg2
                        clear m1 m2 m3 hval
                        go_wp2_with fail
                        go_roundw
                        case rel => exact ⟨k + 1, by omega, by go_num, by rw [HV.out, ← HG2.out], HB4.out.alloc HB4.out.size _⟩
                        case measure => simp [intOf]; omega
                      · have q1 : (x.c == (aa : Int)) = true := by simpa using m1
                        have q2 : (x.s == (pp : Int)) = false := by simpa using m2
                        have q3 : (x.b == (pp : Int)) = false := by simpa using m3
                        have hval : sumI (mvsN (ts.take (k + 1))) pp ((0 : Nat) : Int) aa = S := by
                          have := HST.out
                          unfold shareI at this
                          rw [if_pos (show ((0 : Nat) : Int) = 0 from rfl)] at this
                          rw [if_pos m1, if_neg m2, if_neg m3] at this
                          omega
                        have HV := Lib.hid hval
                        clear m1 m2 m3 hval
                        go_wp2_with fail
                        go_roundw
                        case rel => exact ⟨k + 1, by omega, by go_num, by rw [HV.out, ← HG.out], HB4.out.alloc HB4.out.size _⟩
                        case measure => simp [intOf]; omega
                    · rcases (show x.a ≠ aa ∨ (x.a = aa ∧ x.b = pp) ∨ (x.a = aa ∧ x.b ≠ pp ∧ x.s = pp) ∨ (x.a = aa ∧ x.b ≠ pp ∧ x.s ≠ pp) by omega) with m1 | ⟨m1, m2⟩ | ⟨m1, m2, m3⟩ | ⟨m1, m2, m3⟩
                      · have q1 : (x.a == (aa : Int)) = false := by simpa using m1
                        have hval : sumI (mvsN (ts.take (k + 1))) pp ((1 : Nat) : Int) aa = S := by
                          have := HST.out
                          unfold shareI at this
                          rw [if_neg (show ¬ ((1 : Nat) : Int) = 0 by decide)] at this
                          rw [if_neg m1] at this
                          omega
                        have HV := Lib.hid hval
                        clear m1 hval
                        go_wp2_with fail
                        go_roundw
                        case rel => exact ⟨k + 1, by omega, by go_num, by rw [HV.out, ← HG.out], HB4.out.alloc HB4.out.size _⟩
                        case measure => simp [intOf]; omega
                      · have q1 : (x.a == (aa : Int)) = true := by simpa using m1
                        have q2 : (x.b == (pp : Int)) = true := by simpa using m2
                        have q3 : (x.s == (pp : Int)) = false := by simp; intro e; exact HBS.out (by omega)
                        have hval : sumI (mvsN (ts.take (k + 1))) pp ((1 : Nat) : Int) aa = S + x.q := by
                          have := HST.out
                          unfold shareI at this
                          rw [if_neg (show ¬ ((1 : Nat) : Int) = 0 by decide)] at this
                          rw [if_pos m1, if_pos m2, if_neg (fun e => HBS.out (by omega))] at this
                          omega
                        have HV := Lib.hid hval
                        have hw := HW.out x.q
                        obtain ⟨g2, hg2⟩ : ∃ g2, g2 = IntKind.i64.wrap (S + x.q) := ⟨_, rfl⟩
                        rw [← hg2] at hw
                        have HG2 := Lib.hid hg2
                        clear hg2
                        clear m1 m2 hval
                        go_wp2_with fail
                        go_roundw
                        case rel => exact ⟨k + 1, by omega, by go_num, by rw [HV.out, ← HG2.out], HB4.out.alloc HB4.out.size _⟩
                        case measure => simp [intOf]; omega
                      · have q1 : (x.a == (aa : Int)) = true := by simpa using m1
                        have q2 : (x.b == (pp : Int)) = false := by simpa using m2
                        have q3 : (x.s == (pp : Int)) = true := by simpa using m3
                        have hval : sumI (mvsN (ts.take (k + 1))) pp ((1 : Nat) : Int) aa = S - x.q := by
                          have := HST.out
                          unfold shareI at this
                          rw [if_neg (show ¬ ((1 : Nat) : Int) = 0 by decide)] at this
                          rw [if_pos m1, if_neg m2, if_pos m3] at this
                          omega
                        have HV := Lib.hid hval
                        have hw := HS'.out x.q
                        obtain ⟨g2, hg2⟩ : ∃ g2, g2 = IntKind.i64.wrap (S - x.q) := ⟨_, rfl⟩
                        rw [← hg2] at hw
                        have HG2 := Lib.hid hg2
                        clear hg2
                        clear m1 m2 m3 hval
                        go_wp2_with fail
                        go_roundw
                        case rel => exact ⟨k + 1, by omega, by go_num, by rw [HV.out, ← HG2.out], HB4.out.alloc HB4.out.size _⟩
                        case measure => simp [intOf]; omega
                      · have q1 : (x.a == (aa : Int)) = true := by simpa using m1
                        have q2 : (x.b == (pp : Int)) = false := by simpa using m2
                        have q3 : (x.s == (pp : Int)) = false := by simpa using m3
                        have hval : sumI (mvsN (ts.take (k + 1))) pp ((1 : Nat) : Int) aa = S := by
                          have := HST.out
                          unfold shareI at this
                          rw [if_neg (show ¬ ((1 : Nat) : Int) = 0 by decide)] at this
                          rw [if_pos m1, if_neg m2, if_neg m3] at this
                          omega
                        have HV := Lib.hid hval
                        clear m1 m2 m3 hval
                        go_wp2_with fail
                        go_roundw
                        case rel => exact ⟨k + 1, by omega, by go_num, by rw [HV.out, ← HG.out], HB4.out.alloc HB4.out.size _⟩
                        case measure => simp [intOf]; omega
                  · obtain rfl : k = ts.length := by omega -- ARM after
                    have e1 : sumI (mvsN (ts.take ts.length)) pp wh aa = sumI ys pp wh aa := by
                      rw [List.take_length]
                      exact (sum_nets HPA.out HSM.out.1 HR2.out pp wh aa (WalkArith.wf_i64 (by omega)) (WalkArith.wf_i64 (by omega)) (WalkArith.wf_i64 (by omega))).symm
                    rw [e1]
                    have hsum := fun w' (ha : Reads w' w'.heap.size 5 A2 ys.length (nCells ys)) => sum_any ys A2 c2 pp wh aa w' ha hyl HYA.out
                    have hgr := fun w' h => HGr.out pp wh aa w' h HAM.out
                    rw [show sumI (mvsN ts) pp wh aa = sumI ys pp wh aa from by rw [← e1, List.take_length]] at hgr
                    have hadd := HAD.out
                    generalize IntKind.i64.wrap (sumI ys pp wh aa) = g at hsum hgr hadd ⊢
                    have HSU := Lib.hid hsum
                    have HGR := Lib.hid hgr
                    clear e1 hsum hgr
                    go_wp2_with fail
                    refine (HSU.out _ ((RY.out.below HB4.out).more HB4.out.size)).mono ?_
                    rintro e w5 ⟨rfl, hb5⟩
                    have B5 := HB4.out.trans (hb5.mono HB4.out.size)
                    go_wp2_with fail
                    refine (HGR.out _ (HT2.out.below B5)).mono ?_
                    rintro e w6 ⟨rfl, hb6⟩
                    have B6 := B5.trans (hb6.mono B5.size)
                    go_wp2_with fail
                    go_roundw
                    case rel => exact ⟨pp + 1, by omega, by go_num, by rw [← HS1.out], B6⟩
                    case measure => simp [intOf]; omega
              · obtain rfl : pp = 16 := by omega -- ARM l3end
                have e0 : IntKind.i64.wrap (sumP 16 ys wh aa) = 0 := by rw [sumP_zero ys wh aa 16 (fun y hy => (HNP.out y hy).1), wrap_zero]
                rw [e0]
                clear e0
                have dp : decide (((16 : Nat) : Int) < 16) = false := by decide
                go_wp2_with fail
                go_roundw
                case rel => exact ⟨aa + 1, by omega, by go_num, HB3.out⟩
                case measure => simp [intOf]; omega
          · have da : decide ((aa : Int) < 4) = false := decide_eq_false (by omega) -- ARM l2end
            go_wp2_with fail
            go_roundw
            case rel => exact ⟨wh + 1, by omega, by go_num, HB2'.out⟩
            case measure => simp [intOf]; omega
      · have dw : decide ((wh : Int) < 2) = false := decide_eq_false (by omega) -- ARM tail
        have HB1 := Lib.hid hb1
        clear hb1
        go_wp2_with fail
        go_loopw [13] (fun i wr => L5 w2 ys.length i wr) (fun i _ => ys.length - (intOf i).toNat)
        case atStart => exact ⟨0, Nat.zero_le _, rfl, HB1.out⟩
        case round =>
          obtain ⟨k, hk, rfl, hb⟩ := hrel
          have HB := Lib.hid hb
          clear hb HB1
          by_cases hlt : k < ys.length
          · obtain ⟨b, o, rfl, hbo, hc⟩ := (reads_form5 RY.out rfl) (by omega) -- ARM t5
            have hz := Nat.lt_of_lt_of_le hbo HB.out.size
            have HC := Lib.hid hc
            have a0 := (HB.out.cell (p := ⟨b, o + k * 5, none⟩) hbo).trans (hc k hlt 0 _ (by omega) rfl)
            have a1 := (HB.out.cell (p := ⟨b, o + k * 5 + 1, none⟩) hbo).trans (hc k hlt 1 _ (by omega) rfl)
            have a4 := (HB.out.cell (p := ⟨b, o + k * 5 + 4, none⟩) hbo).trans (hc k hlt 4 _ (by omega) rfl)
            have hx := HNP.out ys[k] (List.getElem_mem hlt)
            clear hc
            obtain ⟨x, hxe⟩ : ∃ x, x = ys[k] := ⟨_, rfl⟩
            rw [← hxe] at a0 a1 a4 hx
            have HXE := Lib.hid hxe
            have q1 : (x.f == x.t) = false := by rw [beq_eq_false_iff_ne]; exact hx.2.1
            have q2 : decide (x.n < 1) = false := decide_eq_false (by omega)
            have hki : (k : Int) < (ys.length : Int) := by omega
            have hk0 : (0 : Int) ≤ (k : Int) := Int.natCast_nonneg _
            clear hx hxe
            go_wp2_with fail
            go_quiet (fail)
            go_wp2_with fail
            go_loopw [14] (fun i wr => L5 w2 k i wr) (fun i _ => k - (intOf i).toNat)
            case atStart => exact ⟨0, Nat.zero_le _, rfl, below_drewN HB.out _⟩
            case round =>
              obtain ⟨j, hj, rfl, hb2⟩ := hrel
              have HB2 := Lib.hid hb2
              clear hb2 HB a0 a1 a4 q1 q2 hz
              by_cases hjk : j < k
              · have hz := Nat.lt_of_lt_of_le hbo HB2.out.size -- ARM t6
                have a0 := (HB2.out.cell (p := ⟨b, o + k * 5, none⟩) hbo).trans (HC.out k hlt 0 _ (by omega) rfl)
                have a1 := (HB2.out.cell (p := ⟨b, o + k * 5 + 1, none⟩) hbo).trans (HC.out k hlt 1 _ (by omega) rfl)
                have a2 := (HB2.out.cell (p := ⟨b, o + k * 5 + 2, none⟩) hbo).trans (HC.out k hlt 2 _ (by omega) rfl)
                have a3 := (HB2.out.cell (p := ⟨b, o + k * 5 + 3, none⟩) hbo).trans (HC.out k hlt 3 _ (by omega) rfl)
                have b0 := (HB2.out.cell (p := ⟨b, o + j * 5, none⟩) hbo).trans (HC.out j (by omega) 0 _ (by omega) rfl)
                have b1 := (HB2.out.cell (p := ⟨b, o + j * 5 + 1, none⟩) hbo).trans (HC.out j (by omega) 1 _ (by omega) rfl)
                have b2 := (HB2.out.cell (p := ⟨b, o + j * 5 + 2, none⟩) hbo).trans (HC.out j (by omega) 2 _ (by omega) rfl)
                have b3 := (HB2.out.cell (p := ⟨b, o + j * 5 + 3, none⟩) hbo).trans (HC.out j (by omega) 3 _ (by omega) rfl)
                have hlt2 := (List.pairwise_iff_getElem.1 HR2.out.1) j k (by omega) hlt hjk
                rw [← HXE.out] at a0 a1 a2 a3 hlt2
                generalize ys[j]'(by omega) = y at b0 b1 b2 b3 hlt2
                have hkey : ¬ (y.l = x.l ∧ y.a = x.a ∧ ((y.f = x.f ∧ y.t = x.t) ∨ (y.f = x.t ∧ y.t = x.f))) := by
                  rintro ⟨e1, e2, e3⟩
                  unfold keyLt at hlt2
                  rcases e3 with ⟨e3, e4⟩ | ⟨e3, e4⟩ <;> rw [e1, e2, e3, e4] at hlt2 <;> omega
                have hji : (j : Int) < (k : Int) := by omega
                have hj0 : (0 : Int) ≤ (j : Int) := Int.natCast_nonneg _
                have hjl : (j : Int) < (ys.length : Int) := by omega
                have dj : decide ((j : Int) < (k : Int)) = true := decide_eq_true hji
                have hcase : y.l ≠ x.l ∨ (y.l = x.l ∧ y.a ≠ x.a) ∨ (y.l = x.l ∧ y.a = x.a ∧ y.f = x.f ∧ y.t ≠ x.t ∧ y.f = x.t ∧ y.t ≠ x.f) ∨ (y.l = x.l ∧ y.a = x.a ∧ y.f = x.f ∧ y.t ≠ x.t ∧ y.f ≠ x.t) ∨ (y.l = x.l ∧ y.a = x.a ∧ y.f ≠ x.f ∧ y.f = x.t ∧ y.t ≠ x.f) ∨ (y.l = x.l ∧ y.a = x.a ∧ y.f ≠ x.f ∧ y.f ≠ x.t) := by omega
                clear hkey hlt2
                go_wp2_with fail
                dsimp only [List.append]
                rcases hcase with m1 | ⟨m1, m2⟩ | ⟨m1, m2, m3, m4, m5, m6⟩ | ⟨m1, m2, m3, m4, m5⟩ | ⟨m1, m2, m3, m5, m6⟩ | ⟨m1, m2, m3, m5⟩
                · as_aux_lemma => -- ARM c0
                    have r1 : (y.l == x.l) = false := by rw [beq_eq_false_iff_ne]; exact m1
                    clear m1
                    go_big_quiet (fail)
                    go_wp2_with fail
                    go_roundw
                    case rel => exact ⟨j + 1, by omega, by go_num, below_drewN HB2.out _⟩
                    case measure => simp [intOf]; omega
                · as_aux_lemma => -- ARM c1
                    have r1 : (y.l == x.l) = true := by rw [beq_iff_eq]; exact m1
                    have r2 : (y.a == x.a) = false := by rw [beq_eq_false_iff_ne]; exact m2
                    clear m1 m2
                    go_big_quiet (fail)
                    go_wp2_with fail
                    go_roundw
                    case rel => exact ⟨j + 1, by omega, by go_num, below_drewN HB2.out _⟩
                    case measure => simp [intOf]; omega
                · as_aux_lemma => -- ARM c2
                    have r1 : (y.l == x.l) = true := by rw [beq_iff_eq]; exact m1
                    have r2 : (y.a == x.a) = true := by rw [beq_iff_eq]; exact m2
                    have r3 : (y.f == x.f) = true := by rw [beq_iff_eq]; exact m3
                    have r4 : (y.t == x.t) = false := by rw [beq_eq_false_iff_ne]; exact m4
                    have r5 : (y.f == x.t) = true := by rw [beq_iff_eq]; exact m5
                    have r6 : (y.t == x.f) = false := by rw [beq_eq_false_iff_ne]; exact m6
                    clear m1 m2 m3 m4 m5 m6
                    go_big_quiet (fail)
                    go_wp2_with fail
                    go_roundw
                    case rel => exact ⟨j + 1, by omega, by go_num, below_drewN HB2.out _⟩
                    case measure => simp [intOf]; omega
                · as_aux_lemma => -- ARM c3
                    have r1 : (y.l == x.l) = true := by rw [beq_iff_eq]; exact m1
                    have r2 : (y.a == x.a) = true := by rw [beq_iff_eq]; exact m2
                    have r3 : (y.f == x.f) = true := by rw [beq_iff_eq]; exact m3
                    have r4 : (y.t == x.t) = false := by rw [beq_eq_false_iff_ne]; exact m4
                    have r5 : (y.f == x.t) = false := by rw [beq_eq_false_iff_ne]; exact m5
                    clear m1 m2 m3 m4 m5
                    go_big_quiet (fail)
                    go_wp2_with fail
                    go_roundw
                    case rel => exact ⟨j + 1, by omega, by go_num, below_drewN HB2.out _⟩
                    case measure => simp [intOf]; omega
                · as_aux_lemma => -- ARM c4
                    have r1 : (y.l == x.l) = true := by rw [beq_iff_eq]; exact m1
                    have r2 : (y.a == x.a) = true := by rw [beq_iff_eq]; exact m2
                    have r3 : (y.f == x.f) = false := by rw [beq_eq_false_iff_ne]; exact m3
                    have r5 : (y.f == x.t) = true := by rw [beq_iff_eq]; exact m5
                    have r6 : (y.t == x.f) = false := by rw [beq_eq_false_iff_ne]; exact m6
                    clear m1 m2 m3 m5 m6
                    go_big_quiet (fail)
                    go_wp2_with fail
                    go_roundw
                    case rel => exact ⟨j + 1, by omega, by go_num, below_drewN HB2.out _⟩
                    case measure => simp [intOf]; omega
                · as_aux_lemma => -- ARM c5
                    have r1 : (y.l == x.l) = true := by rw [beq_iff_eq]; exact m1
                    have r2 : (y.a == x.a) = true := by rw [beq_iff_eq]; exact m2
                    have r3 : (y.f == x.f) = false := by rw [beq_eq_false_iff_ne]; exact m3
                    have r5 : (y.f == x.t) = false := by rw [beq_eq_false_iff_ne]; exact m5
                    clear m1 m2 m3 m5
                    go_big_quiet (fail)
                    go_wp2_with fail
                    go_roundw
                    case rel => exact ⟨j + 1, by omega, by go_num, below_drewN HB2.out _⟩
                    case measure => simp [intOf]; omega
              · have dj : decide ((j : Int) < (k : Int)) = false := decide_eq_false (by omega) -- ARM t6end
                go_wp2_with fail
                go_roundw
                case rel => exact ⟨k + 1, by omega, by go_num, HB2.out⟩
                case measure => simp [intOf]; omega
          · have dk : decide ((k : Int) < (ys.length : Int)) = false := decide_eq_false (by omega) -- ARM t5end
            go_wp2_with fail
            refine (first_any _).mono ?_
            rintro e w7 ⟨rfl, hb7⟩
            go_wp2_with fail
            go_ret
            have B7 := HB2.out.trans (HB.out.mono HB2.out.size)
            exact ⟨rfl, B7.trans (hb7.mono B7.size)⟩
  · rcases (show 200 < ts.length ∨ ts.length ≤ 200 by omega) with n1 | n1 -- ARM out
    · have d1 : decide (200 < (ts.length : Int)) = true := decide_eq_true (by omega)
      clear hin
      go_enter Try.func6, Try.ntmps6
      go_wp2_with fail
      refine (first_any w).mono ?_
      rintro e w0 ⟨rfl, hb0⟩
      go_wp2_with fail
      refine (first_any w0).mono ?_
      rintro e w1 ⟨rfl, hb1⟩
      go_wp2_with fail
      go_ret
      exact ⟨rfl, hb0.trans (hb1.mono hb0.size)⟩
    · have d1 : decide (200 < (ts.length : Int)) = false := decide_eq_false (by omega)
      have hp : ¬ ∀ x ∈ ts, plainT x := fun h => hin ⟨n1, h⟩
      have HP := Lib.hid hp
      clear hin hp
      go_enter Try.func6, Try.ntmps6
      go_wp2_with fail
      refine (first_any w).mono ?_
      rintro e w0 ⟨rfl, hb0⟩
      go_wp2_with fail
      refine (HPl.out w0 (HT.out.below hb0)).mono ?_
      rintro e w1 ⟨_, hy, hb1⟩
      obtain rfl := hy HP.out
      clear hy
      have B1 := hb0.trans (hb1.mono hb0.size)
      go_wp2_with fail
      refine (first_any w1).mono ?_
      rintro e w2 ⟨rfl, hb2⟩
      go_wp2_with fail
      go_ret
      exact ⟨rfl, B1.trans (hb2.mono B1.size)⟩
end Go.Proofs.Ytggpdbfkfcoejaa
