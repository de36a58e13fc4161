/-
  RingNone: what is left goes round nowhere; the walk.
-/
import Derived.Test.YthoniedmeeahgaaMayX
import Derived.Test.YthoniedmeeahgaaNoneLaw
namespace Go.Proofs.Ythoniedmeeahgaa
open Go.RowKit Go.Maps

theorem left_at {w : World} {base : Nat} {v : Value} {xs : List NetD} (h : w.ownsRow base 38 5 v xs.length (nCells xs)) : ∃ A c, v = .slice A xs.length c ∧ (0 < xs.length → ∃ b, A = some ⟨b, 0, none⟩ ∧ NetAt w xs b 0) := by
  obtain ⟨A, c, rfl⟩ := own_shape h
  refine ⟨A, c, rfl, fun hn => ?_⟩
  obtain ⟨g, cap, hv, _, hlt⟩ := h.form hn
  injection hv with hA _ _
  subst hA
  refine ⟨g, rfl, hlt, fun k hk => ?_⟩
  have hc : ∀ j u, (encN xs[k])[j]? = some u → w.cell? ⟨g, 0 + k * 5 + j, none⟩ = some u := fun j u e => by
    have h1 := h.cells (g := g) rfl (k * 5 + j) _ (nCells_at xs k hk j u e)
    rw [Addr.add_lit, ← Nat.add_assoc] at h1
    exact h1
  exact ⟨hc 0 _ rfl, hc 1 _ rfl, hc 2 _ rfl, hc 3 _ rfl, hc 4 _ rfl⟩
/-- The cells of who is gone. -/
def goneV (G : List Bool) : Array Value := (G.map Value.bool).toArray
theorem goneV_at {G : List Bool} {k : Nat} (h : k < G.length) : (goneV G)[k]? = some (.bool (G.getD k false)) := by
  unfold goneV
  rw [getD_eq h]
  simp [h]
theorem goneV_set (G : List Bool) (k : Nat) : (goneV G).setIfInBounds k (.bool true) = goneV (G.set k true) := by
  unfold goneV
  simp [List.map_set]
theorem gives_succ {l : List NetD} {k : Nat} (hk : k < l.length) (G : List Bool) (p : Nat) : givesL (l.take (k + 1)) G p = (givesL (l.take k) G p || (l[k].f == (p : Int) && !G.getD l[k].t.toNat false)) := by
  unfold givesL
  rw [List.take_succ_eq_append_getElem hk, List.any_append]
  simp
def bOf : Value → Bool
  | .bool b => b
  | _ => false
set_option maxRecDepth 100000 in
set_option maxHeartbeats 16000000 in
theorem none_law (t : NsD) (w : World) (ht : t.ok w) (hsz : t.n ≤ 9223372036854775807) : Calls Try.prog 4 #[.slice t.A t.n t.c] w fun e w' => e = .returned (.bool true) ∧ Below w.heap.size w w' := by
  have HT := Lib.hid ht
  clear ht
  go_enter Try.func4, Try.ntmps4
  go_wp2_with fail
  refine (first_any w).mono ?_
  rintro e w1 ⟨rfl, hb1⟩
  have HB1 := Lib.hid hb1
  clear hb1
  go_wp2_with fail
  refine (may_any t w1 (HT.out.below HB1.out) hsz).mono ?_
  rintro e w2 ⟨r, rfl, hr, hb2⟩
  have HB2 := Lib.hid (HB1.out.trans (hb2.mono HB1.out.size))
  have HR := Lib.hid hr
  clear hb2 hr
  cases r with
  | false => -- ARM bad
    clear HT HR
    go_wp2_with fail
    refine (first_any w2).mono ?_
    rintro e w3 ⟨rfl, hb3⟩
    go_wp2_with fail
    go_ret
    exact ⟨rfl, HB2.out.trans (hb3.mono HB2.out.size)⟩
  | true =>
    have hmx := HR.out.1 rfl -- ARM good
    have hok := ringsOf_ok (fun x hx => (hmx.each x hx).ne)
    have hlen := hmx.len
    have HMX := Lib.hid hmx
    have HOK := Lib.hid hok
    clear HR hmx hok
    go_wp2_with fail
    refine (of_any t w2 (HT.out.below HB2.out) HMX.out).mono ?_
    rintro e w3 ⟨v1, v2, cs, rfl, ho1, hri, ho2, hb3⟩
    have HB3 := Lib.hid (HB2.out.trans (hb3.mono HB2.out.size))
    have hbd : ∀ x ∈ (ringsOf t.xs).2, 0 ≤ x.f ∧ x.f ≤ 15 ∧ 0 ≤ x.t ∧ x.t ≤ 15 := fun x hx => by
      have hm := HMX.out.each x (HOK.out.perm.mem_iff.1 (List.mem_append_right _ hx))
      exact ⟨hm.f.1, hm.f.2, hm.t.1, hm.t.2⟩
    have hsw : ∀ p, p < 16 → (sweeps (ringsOf t.xs).2 17).getD p false = true := fun p hp => sweeps_all HOK.out.none hbd hp
    have hll : (ringsOf t.xs).2.length ≤ 100 := by
      have := HOK.out.perm.length_eq
      rw [List.length_append] at this
      omega
    have hlf := left_at ho2
    generalize (ringsOf t.xs).2 = l at hbd hsw hll hlf
    obtain ⟨A, c, rfl, hna⟩ := hlf
    have HBD := Lib.hid hbd
    have HSW := Lib.hid hsw
    have HN := Lib.hid hna
    clear hbd hsw hna hb3 ho1 ho2 hri HB1 HB2 HT HMX HOK
    go_wp2_with fail
    have hB0 := Below.refl w3.heap.size w3
    have HBA := Lib.hid (hB0.alloc (Nat.le_refl _) (.cells (goneV (sweeps l 0)) 39))
    have HGA := Lib.hid (Blk.new w3 39 (goneV (sweeps l 0)))
    clear hB0
    obtain ⟨g, hg⟩ : ∃ g, g = w3.heap.size := ⟨_, rfl⟩
    have HGE := Lib.hid hg
    rw [← hg] at HBA HGA ⊢
    clear hg
    go_loopw [6] (fun i wr => ∃ r : Nat, r ≤ 17 ∧ i = .int .i64 r ∧ Below g w3 wr ∧ Blk wr g 39 (goneV (sweeps l r))) (fun i _ => 17 - (intOf i).toNat)
    case atStart => exact ⟨0, by omega, rfl, HBA.out, HGA.out⟩
    case round =>
      obtain ⟨r, hr, rfl, hbr, hgr⟩ := hrel
      have hr0 : (0 : Int) ≤ (r : Int) := Int.natCast_nonneg _
      by_cases hlr : r < 17
      · have hri : (r : Int) < 17 := by omega -- ARM round
        have dr : decide ((r : Int) < 17) = true := decide_eq_true hri
        have er : IntKind.i64.wrap ((r : Int) + 1) = (r : Int) + 1 := by rw [IntKind.wrap_i64]; omega
        obtain ⟨G, hG⟩ : ∃ G, G = sweeps l r := ⟨_, rfl⟩
        rw [← hG] at hgr
        have hGl : G.length = 16 := by rw [hG]; exact sweeps_len l r
        have HG := Lib.hid hG
        have HBR := Lib.hid hbr
        have HGR := Lib.hid hgr
        clear hG hbr hgr
        go_wp2_with fail
        go_loopw [7] (fun i wp => ∃ p : Nat, p ≤ 16 ∧ i = .int .i64 p ∧ Below g w3 wp ∧ Blk wp g 39 (goneV (sweep l G p))) (fun i _ => 16 - (intOf i).toNat)
        case atStart => exact ⟨0, by omega, rfl, HBR.out, HGR.out⟩
        case round =>
          obtain ⟨p, hp, rfl, hbp, hgp⟩ := hrel
          have hp0 : (0 : Int) ≤ (p : Int) := Int.natCast_nonneg _
          by_cases hlp : p < 16
          · have hpi : (p : Int) < 16 := by omega -- ARM party
            have dp : decide ((p : Int) < 16) = true := decide_eq_true hpi
            have ep : IntKind.i64.wrap ((p : Int) + 1) = (p : Int) + 1 := by rw [IntKind.wrap_i64]; omega
            obtain ⟨S, hS⟩ : ∃ S, S = sweep l G p := ⟨_, rfl⟩
            rw [← hS] at hgp
            have hSl : S.length = 16 := by rw [hS, sweep_len]; exact hGl
            have hss : sweep l G (p + 1) = if givesL l S p = true then S else S.set p true := by rw [hS]; rfl
            have HSS := Lib.hid hss
            have HBP := Lib.hid hbp
            have HGP := Lib.hid hgp
            clear hS hbp hgp hss
            go_wp2_with fail
            go_loopw [8, 9] (fun z i wk => ∃ k : Nat, k ≤ l.length ∧ i = .int .i64 k ∧ z = .bool (givesL (l.take k) S p) ∧ Below g w3 wk ∧ Blk wk g 39 (goneV S)) (fun _ i _ => l.length - (intOf i).toNat)
            case atStart => exact ⟨0, Nat.zero_le _, rfl, rfl, HBP.out, HGP.out⟩
            case round =>
              obtain ⟨k, hk, rfl, rfl, hbk, hgk⟩ := hrel
              have hk0 : (0 : Int) ≤ (k : Int) := Int.natCast_nonneg _
              by_cases hlk : k < l.length
              · obtain ⟨b, rfl, hN0⟩ := HN.out (by omega) -- ARM net
                have hki : (k : Int) < (l.length : Int) := by omega
                have ek : IntKind.i64.wrap ((k : Int) + 1) = (k : Int) + 1 := by rw [IntKind.wrap_i64]; omega
                have hbg : b < g := by rw [HGE.out]; exact hN0.1
                have hszb : b < wr.heap.size := Nat.lt_trans hbg hgk.lt
                obtain ⟨h0, h1, h2, h3, h4⟩ := hN0.2 k hlk
                have c0 := (hbk.cell (p := ⟨b, 0 + k * 5, none⟩) hbg).trans h0
                have c1 := (hbk.cell (p := ⟨b, 0 + k * 5 + 1, none⟩) hbg).trans h1
                have c2 := (hbk.cell (p := ⟨b, 0 + k * 5 + 2, none⟩) hbg).trans h2
                have c3 := (hbk.cell (p := ⟨b, 0 + k * 5 + 3, none⟩) hbg).trans h3
                have c4 := (hbk.cell (p := ⟨b, 0 + k * 5 + 4, none⟩) hbg).trans h4
                simp only [Nat.zero_add] at c0 c1 c2 c3 c4
                obtain ⟨m1, m2, m3, m4⟩ := HBD.out l[k] (List.getElem_mem hlk)
                have hgs := gives_succ hlk S p
                obtain ⟨x, hx⟩ : ∃ x, x = l[k] := ⟨_, rfl⟩
                rw [← hx] at c0 c1 c2 c3 c4 m1 m2 m3 m4 hgs
                obtain ⟨xf, xt, xl, xa, xn⟩ := x
                simp only at c0 c1 c2 c3 c4 m1 m2 m3 m4 hgs
                obtain ⟨tt, rfl⟩ : ∃ tt : Nat, xt = (tt : Int) := ⟨xt.toNat, by omega⟩
                rw [Int.toNat_natCast] at hgs
                have d0 : decide (xf < 0) = false := decide_eq_false (by omega)
                have d1 : decide ((15 : Int) < xf) = false := decide_eq_false (by omega)
                have d2 : decide ((tt : Int) < 0) = false := decide_eq_false (by omega)
                have d3 : decide ((15 : Int) < (tt : Int)) = false := decide_eq_false (by omega)
                have hti : (tt : Int) < 16 := by omega
                have hti0 : (0 : Int) ≤ (tt : Int) := Int.natCast_nonneg _
                have htn : tt < 16 := by omega
                have gc := (hgk.cell tt).trans (goneV_at (by omega))
                have hgl := hgk.lt
                obtain ⟨z, hz⟩ : ∃ z, z = givesL (l.take k) S p := ⟨_, rfl⟩
                obtain ⟨q, hq⟩ : ∃ q, q = S.getD tt false := ⟨_, rfl⟩
                rw [← hz] at hgs ⊢
                rw [← hq] at hgs gc
                have hbk2 := hbk.alloc (show g ≤ wr.heap.size by omega) (.cells #[.int .i64 xf, .int .i64 (tt : Nat), .int .i64 xl, .int .i64 xa, .int .i64 xn] 38)
                have hgk2 := hgk.alloc (.cells #[.int .i64 xf, .int .i64 (tt : Nat), .int .i64 xl, .int .i64 xa, .int .i64 xn] 38)
                have HBK := Lib.hid hbk2
                have HGK := Lib.hid hgk2
                clear hx hN0 hz hq h0 h1 h2 h3 h4 m1 m2 m3 m4 hbk hgk hbk2 hgk2
                have c5 : ∀ o, (wr.alloc o).cell? ⟨g, tt, none⟩ = some (.bool q) := fun o => (World.cell?_alloc_lt wr o ⟨g, tt, none⟩ hgl).trans gc
                cases z with
                | true =>
                  · skip -- ARM z
                    have HGS := Lib.hid (show givesL (l.take (k + 1)) S p = true from hgs.trans rfl)
                    clear hgs
                    go_wp2_with fail
                    exact ⟨⟨k + 1, hlk, rfl, by rw [HGS.out], HBK.out, HGK.out⟩, by simp only [intOf]; omega⟩
                | false =>
                  by_cases hf : xf = (p : Int)
                  case neg =>
                    · skip -- ARM nf
                      have ef : (xf == (p : Int)) = false := by simpa using hf
                      have df : decide (xf = (p : Int)) = false := decide_eq_false hf
                      clear hf
                      rw [ef] at hgs
                      have HGS := Lib.hid (show givesL (l.take (k + 1)) S p = false from hgs.trans rfl)
                      clear hgs
                      go_wp2_with fail
                      exact ⟨⟨k + 1, hlk, rfl, by rw [HGS.out], HBK.out, HGK.out⟩, by simp only [intOf]; omega⟩
                  case pos =>
                    cases q with
                    | true =>
                      · skip -- ARM gq
                        have ef : (xf == (p : Int)) = true := by simpa using hf
                        have df : decide (xf = (p : Int)) = true := decide_eq_true hf
                        clear hf
                        rw [ef] at hgs
                        have HGS := Lib.hid (show givesL (l.take (k + 1)) S p = false from hgs.trans rfl)
                        clear hgs
                        go_wp2_with fail
                        exact ⟨⟨k + 1, hlk, rfl, by rw [HGS.out], HBK.out, HGK.out⟩, by simp only [intOf]; omega⟩
                    | false =>
                      · skip -- ARM gn
                        have ef : (xf == (p : Int)) = true := by simpa using hf
                        have df : decide (xf = (p : Int)) = true := decide_eq_true hf
                        clear hf
                        rw [ef] at hgs
                        have HGS := Lib.hid (show givesL (l.take (k + 1)) S p = true from hgs.trans rfl)
                        clear hgs
                        go_wp2_with fail
                        exact ⟨⟨k + 1, hlk, rfl, by rw [HGS.out], HBK.out, HGK.out⟩, by simp only [intOf]; omega⟩
              · obtain rfl : k = l.length := by omega -- ARM swept
                have hki : ¬ ((l.length : Int) < (l.length : Int)) := by omega
                rw [List.take_length]
                have hss := HSS.out
                have hpc := (hgk.cell p).trans (goneV_at (by omega))
                have hgl := hgk.lt
                have hfz := hgk.frozen p
                have hst := hgk.set_ p (.bool true)
                rw [goneV_set] at hst
                have hbt := hbk.setCell (p := ⟨g, p, none⟩) (Nat.le_refl _) (.bool true)
                obtain ⟨z, hz⟩ : ∃ z, z = givesL l S p := ⟨_, rfl⟩
                rw [← hz] at hss ⊢
                have HST := Lib.hid hst
                have HBT := Lib.hid hbt
                have HBK := Lib.hid hbk
                have HGK := Lib.hid hgk
                clear hst hbt hbk hgk hz
                cases z with
                | true => -- ARM keeps
                  have HSE := Lib.hid (show sweep l G (p + 1) = S from hss)
                  clear hss
                  go_wp2_with fail
                  exact ⟨⟨p + 1, hlp, rfl, HBK.out, by rw [HSE.out]; exact HGK.out⟩, by simp only [intOf]; omega⟩
                | false => -- ARM goes
                  have HSE := Lib.hid (show sweep l G (p + 1) = S.set p true from hss)
                  clear hss
                  go_wp2_with fail
                  exact ⟨⟨p + 1, hlp, rfl, HBT.out, by rw [HSE.out]; exact HST.out⟩, by simp only [intOf]; omega⟩
          · obtain rfl : p = 16 := by omega -- ARM endp
            have hpi : ¬ (((16 : Nat) : Int) < 16) := by omega
            have dp : decide (((16 : Nat) : Int) < 16) = false := decide_eq_false hpi
            have HBP := Lib.hid hbp
            have HGP := Lib.hid hgp
            clear hbp hgp
            go_wp2_with fail
            exact ⟨⟨r + 1, by omega, rfl, HBP.out, by rw [sweeps, ← HG.out]; exact HGP.out⟩, by simp only [intOf]; omega⟩
      · obtain rfl : r = 17 := by omega -- ARM endr
        have hri : ¬ (((17 : Nat) : Int) < 17) := by omega
        have dr : decide (((17 : Nat) : Int) < 17) = false := decide_eq_false hri
        have HBR := Lib.hid hbr
        have HGR := Lib.hid hgr
        clear hbr hgr
        go_wp2_with fail
        go_loopw [11] (fun i wq => ∃ p : Nat, p ≤ 16 ∧ i = .int .i64 p ∧ wq = wr) (fun i _ => 16 - (intOf i).toNat)
        case atStart => exact ⟨0, by omega, rfl, rfl⟩
        case round =>
          obtain ⟨p, hp, rfl, rfl⟩ := hrel
          have hp0 : (0 : Int) ≤ (p : Int) := Int.natCast_nonneg _
          by_cases hlp : p < 16
          · have hpi : (p : Int) < 16 := by omega -- ARM look
            have dp : decide ((p : Int) < 16) = true := decide_eq_true hpi
            have ep : IntKind.i64.wrap ((p : Int) + 1) = (p : Int) + 1 := by rw [IntKind.wrap_i64]; omega
            have gc := (HGR.out.cell p).trans (goneV_at (by rw [sweeps_len]; exact hlp))
            rw [HSW.out p hlp] at gc
            have hgl := HGR.out.lt
            go_wp2_with fail
            exact ⟨⟨p + 1, hlp, rfl, by trivial⟩, by simp only [intOf]; omega⟩
          · obtain rfl : p = 16 := by omega -- ARM fin
            have hpi : ¬ (((16 : Nat) : Int) < 16) := by omega
            have dp : decide (((16 : Nat) : Int) < 16) = false := decide_eq_false hpi
            go_wp2_with fail
            refine (first_any _).mono ?_
            rintro e w4 ⟨rfl, hb4⟩
            go_wp2_with fail
            go_ret
            have h1 := HB3.out
            have h2 := HBR.out
            have h3 := hb4
            rw [HGE.out] at h2
            exact ⟨rfl, h1.trans ((h2.mono h1.size).trans (h3.mono (Nat.le_trans h1.size h2.size)))⟩
end Go.Proofs.Ythoniedmeeahgaa
