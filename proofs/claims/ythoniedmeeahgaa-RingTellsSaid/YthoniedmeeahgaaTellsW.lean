/-
  RingTells: the rings, and what is left, are what the reference answers; whether two are alike; the walk.
-/
import Derived.Test.YthoniedmeeahgaaRefRings
import Derived.Test.YthoniedmeeahgaaSameRings
import Derived.Test.YthoniedmeeahgaaSameNets
namespace Go.Proofs.Ythoniedmeeahgaa
open Go.RowKit Go.Maps Go.Sort

set_option maxRecDepth 100000 in
set_option maxHeartbeats 16000000 in
theorem tells_law (t : NsD) (w : World) (ht : t.ok w) (hsz : t.n ≤ 9223372036854775807) : Calls Try.prog 7 #[.slice t.A t.n t.c] w fun e w' => e = .returned (.bool true) ∧ Below w.heap.size w w' := by
  have HT := Lib.hid ht
  clear ht
  go_enter Try.func7, Try.ntmps7
  go_wp2_with fail
  refine (first_any w).mono ?_
  rintro e w1 ⟨rfl, hb1⟩
  have HB1 := Lib.hid hb1
  clear hb1
  go_wp2_with fail
  refine (may_any t w1 (HT.out.below HB1.out) hsz).mono ?_
  rintro e w2 ⟨r, rfl, hr, hb2⟩
  have HB2 := Lib.hid (HB1.out.trans (hb2.mono HB1.out.size))
  have HR := Lib.hid hr
  clear hb2 hr
  cases r with
  | false => -- ARM bad
    clear HT HR
    go_wp2_with fail
    refine (first_any w2).mono ?_
    rintro e w3 ⟨rfl, hb3⟩
    go_wp2_with fail
    go_ret
    exact ⟨rfl, HB2.out.trans (hb3.mono HB2.out.size)⟩
  | true =>
    have hmx := HR.out.1 rfl -- ARM good
    have hok := ringsOf_ok (fun x hx => (hmx.each x hx).ne)
    have hlen := hmx.len
    have HMX := Lib.hid hmx
    have HOK := Lib.hid hok
    clear HR hmx hok
    go_wp2_with fail
    refine (of_any t w2 (HT.out.below HB2.out) HMX.out).mono ?_
    rintro e w3 ⟨v1, v2, cs, rfl, ho1, hri, ho2, hb3⟩
    have HB3 := Lib.hid (HB2.out.trans (hb3.mono HB2.out.size))
    have hra : RgsAt w3 v1 (ringsOf t.xs).1 := ⟨_, cs, ho1, hri⟩
    have hlf := left_row ho2
    obtain ⟨hsh, hr100, hl100⟩ := short_of HOK.out HMX.out
    have HSH := Lib.hid hsh
    have HT3 := Lib.hid (HT.out.below HB3.out)
    obtain ⟨Al, cl, rfl, hlf⟩ := hlf
    obtain ⟨Ar, cr, rfl⟩ := hra.shape
    have HRA := Lib.hid hra
    have HLF := Lib.hid hlf
    clear hb3 ho1 hri ho2 hsh hra hlf
    go_wp2_with fail
    refine (rings_any t w3 HT3.out HMX.out).mono ?_
    rintro e w4 ⟨v3, v4, rfl, hrc, ⟨Ad, cd, rfl, hld⟩, hb4⟩
    have HRA4 := Lib.hid (HRA.out.below hb4)
    have HRC4 := Lib.hid hrc
    have HLF4 := Lib.hid (fun hn => by
      obtain ⟨b, e, hN⟩ := HLF.out hn
      exact ⟨b, 0, e, hN.below hb4⟩ : 0 < (ringsOf t.xs).2.length → ∃ b o, Al = some ⟨b, o, none⟩ ∧ NetAt w4 (ringsOf t.xs).2 b o)
    have HLD4 := Lib.hid hld
    have HB4 := Lib.hid (HB3.out.trans (hb4.mono HB3.out.size))
    obtain ⟨Ac, cc, rfl⟩ := hrc.shape
    generalize ringsOf t.xs = R at HRA4 HRC4 HLF4 HLD4 HSH hr100 hl100 ⊢
    obtain ⟨rs, lf⟩ := R
    simp only at HRA4 HRC4 HLF4 HLD4 HSH hr100 hl100 ⊢
    clear hrc hld hb4 HRA HLF HB1 HB2 HB3 HT HT3 HMX HOK
    go_wp2_with fail
    refine (samerings_eq HRA4.out HRC4.out (by omega) HSH.out).mono ?_
    rintro e w5 ⟨rfl, hb5⟩
    have HB5 := Lib.hid hb5
    clear hb5
    go_wp2_with fail
    refine (samenets_eq lf Al Ad cl cd w5 (fun hn => by
      obtain ⟨b, o, e, hN⟩ := HLF4.out hn
      exact ⟨b, o, e, hN.below HB5.out⟩) (fun hn => by
      obtain ⟨b, o, e, hN⟩ := HLD4.out hn
      exact ⟨b, o, e, hN.below HB5.out⟩) (by omega)).mono ?_
    rintro e w6 ⟨rfl, hb6⟩
    have hb46 := HB5.out.trans (hb6.mono HB5.out.size)
    have HRA6 := Lib.hid (HRA4.out.below hb46)
    have HRC6 := Lib.hid (HRC4.out.below hb46)
    have HB6 := Lib.hid (HB4.out.trans (hb46.mono HB4.out.size))
    clear hb6 hb46 HLF4 HLD4 HRA4 HRC4 HB4 HB5
    go_wp2_with fail
    go_loopw [7] (fun i wr => ∃ k : Nat, k ≤ rs.length ∧ i = .int .i64 k ∧ Below w6.heap.size w6 wr) (fun i _ => rs.length - (intOf i).toNat)
    case atStart => exact ⟨0, Nat.zero_le _, rfl, Below.refl _ _⟩
    case round =>
      obtain ⟨k, hk, rfl, hb⟩ := hrel
      have hk0 : (0 : Int) ≤ (k : Int) := Int.natCast_nonneg _
      by_cases hlt : k < rs.length
      · have hki : (k : Int) < (rs.length : Int) := by omega -- ARM round
        have hpi : (0 : Int) < (rs.length : Int) := by omega
        have ek : IntKind.i64.wrap ((k : Int) + 1) = (k : Int) + 1 := by rw [IntKind.wrap_i64]; omega
        obtain ⟨g1, e1, r1, hz1, hc1⟩ := HRA6.out.get (by omega)
        obtain ⟨g2, e2, r2, hz2, hc2⟩ := HRC6.out.get (by omega)
        injection r1 with r1 _ r1'
        injection r2 with r2 _ r2'
        subst r1 r1' r2 r2'
        obtain ⟨p1, l1, a0, a1, hr1⟩ := hc1 k hlt
        obtain ⟨p2, l2, b0, b1, hr2⟩ := hc2 0 (by omega)
        simp only [Nat.zero_mul, Nat.zero_add] at b0 b1
        have x0 := (hb.cell (p := ⟨g1, k * 2, none⟩) hz1).trans a0
        have x1 := (hb.cell (p := ⟨g1, k * 2 + 1, none⟩) hz1).trans a1
        have y0 := (hb.cell (p := ⟨g2, 0, none⟩) hz2).trans b0
        have y1 := (hb.cell (p := ⟨g2, 1, none⟩) hz2).trans b1
        have s1 := Nat.lt_of_lt_of_le hz1 hb.size
        have s2 := Nat.lt_of_lt_of_le hz2 hb.size
        have HR1 := Lib.hid (hr1.kept (TK3.of_below hb))
        have HR2 := Lib.hid (hr2.kept (TK3.of_below hb))
        have hsk := HSH.out _ (List.getElem_mem hlt)
        obtain ⟨q, hq⟩ : ∃ q, q = decide (rs[k] = rs[0]'(by omega)) := ⟨_, rfl⟩
        have k0 := cell_regrown x0
        have k1 := cell_regrown x1
        have k2 := cell_regrown y0
        have k3 := cell_regrown y1
        have cS : ∀ d os, Calls Try.prog 15 #[.agg #[p1, l1], .agg #[p2, l2]] (grow (redrawn wr d) os) fun e w'' => e = .returned (.bool q) ∧ ∃ pp : Regrown, w'' = grow (redrawn wr pp.d) pp.os :=
          fun d os => Calls.regrown_of (same_any (HR1.out.kept (TK3.of_below (below_regrown wr d os))) (HR2.out.kept (TK3.of_below (below_regrown wr d os))) hsk.1 hsk.2.1 hsk.2.2 q hq)
        have cR : ∀ d os, Calls Try.prog 16 #[.agg #[p1, l1], .agg #[p2, l2]] (grow (redrawn wr d) os) fun e w'' => e = .returned (.bool q) ∧ ∃ pp : Regrown, w'' = grow (redrawn wr pp.d) pp.os :=
          fun d os => Calls.regrown_of (samering_any (HR1.out.kept (TK3.of_below (below_regrown wr d os))) (HR2.out.kept (TK3.of_below (below_regrown wr d os))) hsk.1 hsk.2.1 hsk.2.2 q hq)
        have hbb : ((!q) != (!q)) = false := bne_self_eq_false _
        have HBK := Lib.hid hb
        clear hc1 hc2 a0 a1 b0 b1 hr1 hr2 hb hsk hq
        go_wp2_with fail
        refine wp_region_quiet_below (by kernel_rfl) (by kernel_rfl) ?_
        repeat (first | go_big_quiet_step (first | exact cS _ _ | exact cR _ _) | quiet_step (first | exact cS _ _ | exact cR _ _))
        refine wpQuiet_nil ?_
        intro _ hw'
        obtain ⟨⟨dq, osq⟩, hw''⟩ := hw'
        subst hw''
        have HB9 := Lib.hid (HBK.out.trans ((below_regrown wr dq osq).mono HBK.out.size))
        obtain ⟨W9, hW9⟩ : ∃ W9, W9 = grow (redrawn wr dq) osq := ⟨_, rfl⟩
        rw [← hW9] at HB9 ⊢
        clear hW9 k0 k1 k2 k3 cS cR x0 x1 y0 y1
        go_wp2_with fail
        exact ⟨⟨k + 1, hlt, rfl, HB9.out⟩, by simp only [intOf]; omega⟩
      · obtain rfl : k = rs.length := by omega -- ARM fin
        have hki : ¬ ((rs.length : Int) < (rs.length : Int)) := by omega
        have HB := Lib.hid hb
        clear hb
        go_wp2_with fail
        refine (first_any _).mono ?_
        rintro e w8 ⟨rfl, hb8⟩
        go_wp2_with fail
        go_ret
        have h1 := HB6.out.trans (HB.out.mono HB6.out.size)
        exact ⟨rfl, h1.trans (hb8.mono h1.size)⟩
end Go.Proofs.Ythoniedmeeahgaa
