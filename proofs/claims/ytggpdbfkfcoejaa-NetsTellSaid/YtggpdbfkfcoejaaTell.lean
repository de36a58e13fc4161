/-
  NetsTell: the nets of any trades that may be are the reference's.
-/
import Derived.Test.YtggpdbfkfcoejaaRefOf
import Derived.Test.YtggpdbfkfcoejaaOfErr
import Derived.Test.YtggpdbfkfcoejaaRefSum
import Derived.Test.YtggpdbfkfcoejaaSumLaw
import Derived.Test.YtggpdbfkfcoejaaFirstN
namespace Go.Proofs.Ytggpdbfkfcoejaa
open Go.RowKit

def TeRel (w : World) (ts : List TrD) (i : Value) (wr : World) : Prop := ∃ k : Nat, k ≤ ts.length ∧ i = .int .i64 k ∧ (∀ x ∈ ts.take k, mayT x) ∧ Below w.heap.size w wr
theorem mayT.part {x : TrD} (h : mayT x) : PartT x := by
  unfold mayT at h
  unfold PartT
  omega
set_option maxRecDepth 100000 in
set_option maxHeartbeats 8000000 in
theorem tell_law (t : TrsD) (p l a : Int) (w : World) (ht : t.ok w) : Calls Try.prog 5 #[.slice t.A t.n t.c, .int .i64 p, .int .i64 l, .int .i64 a] w fun e w' => e = .returned (.bool true) ∧ Below w.heap.size w w' := by
  have hof := fun w' h hn hs => of_ok t w' h hn hs
  have hoe := fun w' h hn hm hs => of_err t w' h hn hm hs
  have href := fun w' h hn hm => refof_any t w' h hn hm
  have hgr := fun w' h hs => gross_any t p l a w' h hs
  have hrg := fun w' h hs => refgross_any t p l a w' h hs
  have ht' := ht
  have hform := ht.form
  obtain ⟨A, n, c, ts⟩ := t
  obtain ⟨hl, hmax, hread, hwf⟩ := ht
  simp only at hl hmax hform hwf hof hoe href hgr hrg ⊢
  obtain rfl := hl
  unfold maxLen at hmax
  have HOf := Lib.hid hof
  have HOe := Lib.hid hoe
  have HRe := Lib.hid href
  have HGr := Lib.hid hgr
  have HRg := Lib.hid hrg
  have Hf := Lib.hid hform
  have HT := Lib.hid ht'
  clear hof hoe href hgr hrg hform hread hwf ht'
  rcases (show 60 < ts.length ∨ ts.length ≤ 60 by omega) with n1 | n1
  · have d1 : decide (60 < (ts.length : Int)) = true := decide_eq_true (by omega) -- ARM long
    go_enter Try.func5, Try.ntmps5
    go_wp2_with fail
    refine (first_any w).mono ?_
    rintro e w0 ⟨rfl, hb0⟩
    go_wp2_with fail
    refine (first_any w0).mono ?_
    rintro e w1 ⟨rfl, hb1⟩
    go_wp2_with fail
    go_ret
    exact ⟨rfl, hb0.trans (hb1.mono hb0.size)⟩
  · have d1 : decide (60 < (ts.length : Int)) = false := decide_eq_false (by omega) -- ARM short
    go_enter Try.func5, Try.ntmps5
    go_wp2_with fail
    refine (first_any w).mono ?_
    rintro e w0 ⟨rfl, hb0⟩
    have HB0 := Lib.hid hb0
    clear hb0
    go_wp2_with fail
    go_loopw [9] (fun i wr => TeRel w ts i wr) (fun i _ => ts.length - (intOf i).toNat)
    case atStart => exact ⟨0, Nat.zero_le _, rfl, by simp, HB0.out⟩
    case round =>
      obtain ⟨k, hk, rfl, hm, hb⟩ := hrel
      have HM := Lib.hid hm
      have HB := Lib.hid hb
      clear hm hb
      by_cases hlt : k < ts.length
      · obtain ⟨b, o, rfl, hbo, hcell⟩ := Hf.out (by omega) -- ARM may
        have hsz := Nat.lt_of_lt_of_le hbo HB.out.size
        have hc0 := (HB.out.cell (p := ⟨b, o + k * 7, none⟩) hbo).trans (hcell k hlt 0 _ rfl)
        have hc1 := (HB.out.cell (p := ⟨b, o + k * 7 + 1, none⟩) hbo).trans (hcell k hlt 1 _ rfl)
        have hc2 := (HB.out.cell (p := ⟨b, o + k * 7 + 2, none⟩) hbo).trans (hcell k hlt 2 _ rfl)
        have hc3 := (HB.out.cell (p := ⟨b, o + k * 7 + 3, none⟩) hbo).trans (hcell k hlt 3 _ rfl)
        have hc4 := (HB.out.cell (p := ⟨b, o + k * 7 + 4, none⟩) hbo).trans (hcell k hlt 4 _ rfl)
        have hc5 := (HB.out.cell (p := ⟨b, o + k * 7 + 5, none⟩) hbo).trans (hcell k hlt 5 _ rfl)
        have hc6 := (HB.out.cell (p := ⟨b, o + k * 7 + 6, none⟩) hbo).trans (hcell k hlt 6 _ rfl)
        have htk : ts.take (k + 1) = ts.take k ++ [ts[k]] := List.take_succ_eq_append_getElem hlt
        clear hcell
        generalize ts[k] = x at hc0 hc1 hc2 hc3 hc4 hc5 hc6 htk
        have HTK := Lib.hid htk
        have hki : (k : Int) < (ts.length : Int) := by omega
        have hk0 : (0 : Int) ≤ (k : Int) := Int.natCast_nonneg _
        clear htk
        go_wp2_with fail
        refine (may_any x _).mono ?_
        rintro e w1 ⟨⟨r, rfl, h1, h2⟩, hb1⟩
        have B1 := Lib.hid (HB.out.trans (hb1.mono HB.out.size))
        by_cases hx : mayT x
        · obtain rfl := h1 hx -- ARM yes
          have HX := Lib.hid hx
          clear h1 h2 hx hb1
          go_wp2_with fail
          go_roundw
          case rel => exact ⟨k + 1, by omega, by go_num, fun y hy => by
            rw [HTK.out] at hy
            rcases List.mem_append.1 hy with hy | hy
            · exact HM.out y hy
            · simp at hy
              subst hy
              exact HX.out, B1.out⟩
          case measure => simp [intOf]; omega
        · have hr := h2 hx -- ARM no
          have q : (r != 0) = true := by simp only [bne, hr]; rfl
          clear h1 h2 hx hb1 hr
          go_wp2_with fail
          refine (first_any _).mono ?_
          rintro e w2 ⟨rfl, hb2⟩
          go_wp2_with fail
          go_ret
          exact ⟨rfl, B1.out.trans (hb2.mono B1.out.size)⟩
      · obtain rfl : k = ts.length := by omega -- ARM rest
        have hm := HM.out
        rw [List.take_length] at hm
        have hamm : ∀ x ∈ ts, AmtM x := fun x hx => ⟨(hm x hx).p, (hm x hx).q⟩
        have hne : ∀ x ∈ ts, x.b ≠ x.s := fun x hx => (hm x hx).ne
        have hpar : ∀ x ∈ ts, PartT x := fun x hx => (hm x hx).part
        have hgr := fun w' h => HGr.out w' h hamm
        have hrg := fun w' h => HRg.out w' h hne
        generalize IntKind.i64.wrap (sumI (mvsN ts) p l a) = g at hgr hrg
        have HG := Lib.hid hgr
        have HR := Lib.hid hrg
        have HMM := Lib.hid hm
        have HPA := Lib.hid hpar
        clear HM hm hamm hne hpar hgr hrg HGr HRg
        by_cases hs : SmallM (msOf ts)
        · have HSM := Lib.hid hs -- ARM ok
          clear hs
          go_wp2_with fail
          refine (HOf.out _ (HT.out.below HB.out) (by omega) HSM.out).mono ?_
          rintro e w2 ⟨v2, ys, rfl, hr2, ho2, hb2⟩
          obtain ⟨A2, c2, rfl⟩ := own_shape ho2
          have B2 := HB.out.trans (hb2.mono HB.out.size)
          have RY := Reads.of_own ho2
          have hyl := own_len ho2
          clear ho2
          go_wp2_with fail
          refine (HRe.out _ (HT.out.below B2) n1 HMM.out).mono ?_
          rintro e w3 ⟨hor, hb3⟩
          rcases hor with ⟨_, A3, c3, zs, rfl, hr3, hz3, hzl⟩ | ⟨hn, _⟩
          · obtain rfl : zs = ys := netsR_unique hr3 hr2
            have B3 := Lib.hid (B2.trans (hb3.mono B2.size))
            have RA := Lib.hid ((RY.below hb3).more hb3.size)
            have RB := Lib.hid hz3
            have hya : ∀ y ∈ zs, AmtN y := fun y hy => by
              obtain ⟨k, _, hlt, rfl⟩ := (hr2.2 y).1 hy
              have e1 := HSM.out.2 k
              have e2 := tot_nonneg HSM.out.1 k.back
              show 0 ≤ (netOf _ k).n ∧ (netOf _ k).n ≤ 4611686018427387904
              simp only [netOf]
              omega
            have hnp : ∀ y ∈ zs, y.f ≠ y.t := fun y hy => (nets_parties HPA.out HSM.out.1 hr2 y hy).2.1
            have hs1 := fun w' h => sum_any zs A3 c3 p l a w' h hyl hya
            have hs2 := fun w' h => refsum_any zs A3 c3 p l a w' h hyl hnp
            generalize IntKind.i64.wrap (sumI zs p l a) = s at hs1 hs2
            have HS1 := Lib.hid hs1
            have HS2 := Lib.hid hs2
            clear hs1 hs2 hya hnp hz3 hb3 hb2 B2 RY hr2 hr3
            go_wp2_with fail
            refine (first_any _).mono ?_
            rintro e w4 ⟨rfl, hb4⟩
            have B4 := Lib.hid (B3.out.trans (hb4.mono B3.out.size))
            have RA4 := Lib.hid ((RA.out.below hb4).more hb4.size)
            have RB4 := Lib.hid ((RB.out.below hb4).more hb4.size)
            clear hb4 B3 RA RB
            go_wp2_with fail
            refine (samenets_eq zs A2 A3 c2 c3 _ RA4.out RB4.out hyl).mono ?_
            rintro e w5 ⟨rfl, hb5⟩
            have B5 := Lib.hid (B4.out.trans (hb5.mono B4.out.size))
            have RB5 := Lib.hid ((RB4.out.below hb5).more hb5.size)
            clear hb5 B4 RA4 RB4
            go_wp2_with fail
            refine (HG.out _ (HT.out.below B5.out)).mono ?_
            rintro e w6 ⟨rfl, hb6⟩
            have B6 := Lib.hid (B5.out.trans (hb6.mono B5.out.size))
            have RB6 := Lib.hid ((RB5.out.below hb6).more hb6.size)
            clear hb6 B5 RB5
            go_wp2_with fail
            refine (HR.out _ (HT.out.below B6.out)).mono ?_
            rintro e w7 ⟨rfl, hb7⟩
            have B7 := Lib.hid (B6.out.trans (hb7.mono B6.out.size))
            have RB7 := Lib.hid ((RB6.out.below hb7).more hb7.size)
            clear hb7 B6 RB6
            go_wp2_with fail
            refine (HS1.out _ RB7.out).mono ?_
            rintro e w8 ⟨rfl, hb8⟩
            have B8 := Lib.hid (B7.out.trans (hb8.mono B7.out.size))
            have RB8 := Lib.hid ((RB7.out.below hb8).more hb8.size)
            clear hb8 B7 RB7
            go_wp2_with fail
            refine (HS2.out _ RB8.out).mono ?_
            rintro e w9 ⟨rfl, hb9⟩
            have B9 := Lib.hid (B8.out.trans (hb9.mono B8.out.size))
            clear hb9 B8 RB8
            go_wp2_with fail
            go_ret
            exact ⟨rfl, B9.out⟩
          · exact absurd HSM.out hn
        · have HSM := Lib.hid hs -- ARM err
          clear hs
          go_wp2_with fail
          refine (HOe.out _ (HT.out.below HB.out) (by omega) HMM.out HSM.out).mono ?_
          rintro e w2 ⟨rfl, hb2⟩
          have B2 := HB.out.trans (hb2.mono HB.out.size)
          go_wp2_with fail
          refine (HRe.out _ (HT.out.below B2) n1 HMM.out).mono ?_
          rintro e w3 ⟨hor, hb3⟩
          rcases hor with ⟨hn, _⟩ | ⟨_, rfl⟩
          · exact absurd hn HSM.out
          · have B3 := Lib.hid (B2.trans (hb3.mono B2.size))
            have RA : Hid (Reads w3 w3.heap.size 5 none 0 (nCells [])) := Lib.hid Reads.none_
            have RB : Hid (Reads w3 w3.heap.size 5 none 0 (nCells [])) := Lib.hid Reads.none_
            have hs1 := fun w' (h : Reads w' w'.heap.size 5 none 0 (nCells [])) => sum_any [] none 0 p l a w' h (by simp) (by simp)
            have hs2 := fun w' (h : Reads w' w'.heap.size 5 none 0 (nCells [])) => refsum_any [] none 0 p l a w' h (by simp) (by simp)
            generalize IntKind.i64.wrap (sumI [] p l a) = s at hs1 hs2
            simp only [List.length_nil] at hs1 hs2
            have HS1 := Lib.hid hs1
            have HS2 := Lib.hid hs2
            clear hs1 hs2 hb3 hb2 B2
            go_wp2_with fail
            refine (first_any _).mono ?_
            rintro e w4 ⟨rfl, hb4⟩
            have B4 := Lib.hid (B3.out.trans (hb4.mono B3.out.size))
            have RA4 := Lib.hid ((RA.out.below hb4).more hb4.size)
            have RB4 := Lib.hid ((RB.out.below hb4).more hb4.size)
            clear hb4 B3 RA RB
            go_wp2_with fail
            refine (samenets_two [] [] rfl none none 0 0 0 0 rfl rfl _ RA4.out RB4.out (by omega)).mono ?_
            rintro e w5 ⟨rfl, hb5⟩
            have B5 := Lib.hid (B4.out.trans (hb5.mono B4.out.size))
            have RB5 := Lib.hid ((RB4.out.below hb5).more hb5.size)
            clear hb5 B4 RA4 RB4
            go_wp2_with fail
            refine (HG.out _ (HT.out.below B5.out)).mono ?_
            rintro e w6 ⟨rfl, hb6⟩
            have B6 := Lib.hid (B5.out.trans (hb6.mono B5.out.size))
            have RB6 := Lib.hid ((RB5.out.below hb6).more hb6.size)
            clear hb6 B5 RB5
            go_wp2_with fail
            refine (HR.out _ (HT.out.below B6.out)).mono ?_
            rintro e w7 ⟨rfl, hb7⟩
            have B7 := Lib.hid (B6.out.trans (hb7.mono B6.out.size))
            have RB7 := Lib.hid ((RB6.out.below hb7).more hb7.size)
            clear hb7 B6 RB6
            go_wp2_with fail
            refine (HS1.out _ RB7.out).mono ?_
            rintro e w8 ⟨rfl, hb8⟩
            have B8 := Lib.hid (B7.out.trans (hb8.mono B7.out.size))
            have RB8 := Lib.hid ((RB7.out.below hb8).more hb8.size)
            clear hb8 B7 RB7
            go_wp2_with fail
            refine (HS2.out _ RB8.out).mono ?_
            rintro e w9 ⟨rfl, hb9⟩
            have B9 := Lib.hid (B8.out.trans (hb9.mono B8.out.size))
            clear hb9 B8 RB8
            go_wp2_with fail
            go_ret
            exact ⟨rfl, B9.out⟩
end Go.Proofs.Ytggpdbfkfcoejaa
