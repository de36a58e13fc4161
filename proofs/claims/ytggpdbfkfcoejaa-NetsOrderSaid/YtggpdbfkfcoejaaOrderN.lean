/-
  NetsOrder: trades in another order, and one with its opposite beside them: the same nets.
-/
import Derived.Test.YtggpdbfkfcoejaaPlain
import Derived.Test.YtggpdbfkfcoejaaOrderLaw
namespace Go.Proofs.Ytggpdbfkfcoejaa
open Go.RowKit

theorem trade_info : (Try.prog.info? 30).map (fun i => (i.zero, i.size, i.bytes)) = some (some (.agg #[.int .i64 0, .int .i64 0, .int .i64 0, .int .i64 0, .int .i64 0, .int .i64 0, .int .i64 0]), 7, 56) := by kernel_rfl
theorem trCells_one (ts : List TrD) : ∀ u ∈ trCells ts, u.oneCell' = true := by
  intro u hu
  obtain ⟨x, _, hx⟩ := List.mem_flatMap.1 hu
  simp [TrD.cells] at hx
  rcases hx with rfl | rfl | rfl | rfl | rfl | rfl | rfl <;> rfl
theorem trCells_append (a b : List TrD) : trCells (a ++ b) = trCells a ++ trCells b := by simp [trCells]
theorem reads_trs (w : World) (t : TypeId) (ts : List TrD) (cs : Array Value) (hcs : cs = (trCells ts).toArray) : Reads (w.alloc (.cells cs t)) (w.heap.size + 1) 7 (some ⟨w.heap.size, 0, none⟩) ts.length (trCells ts) := by
  subst hcs
  refine ⟨trCells_length ts, fun _ => ⟨_, rfl, by simp, fun j u hu => ?_⟩⟩
  have hb := Blk.new w t (trCells ts).toArray
  rw [Addr.add_lit, Nat.zero_add, hb.cell, ← hu]
  simp
/-- What holds while the second list is laid. -/
def BackRel (w w2 : World) (ts : List TrD) (out i : Value) (wr : World) : Prop :=
  ∃ m : Nat, m ≤ ts.length ∧ i = .int .i64 ((m : Int) - 1) ∧ wr.ownsRow w2.heap.size 30 7 out (ts.length - m) (trCells (ts.reverse.take (ts.length - m))) ∧ Fr (fun j => w2.heap.size ≤ j) w2 wr ∧ Below w.heap.size w wr

set_option maxRecDepth 100000 in
set_option maxHeartbeats 8000000 in
theorem order_law (t : TrsD) (a : Int) (w : World) (ht : t.ok w) : Calls Try.prog 3 #[.slice t.A t.n t.c, .int .i64 a] w fun e w' => e = .returned (.bool true) ∧ Below w.heap.size w w' := by
  have hplain := fun w' h => plain_any t w' h
  have hof := fun w' h hn hs => of_ok t w' h hn hs
  have ht' := ht
  have hform := ht.form
  obtain ⟨A, n, c, ts⟩ := t
  obtain ⟨hl, hmax, hread, hwf⟩ := ht
  simp only at hl hmax hform hwf hplain hof ⊢
  obtain rfl := hl
  unfold maxLen at hmax
  have HPl := Lib.hid hplain
  have HOf := Lib.hid hof
  have Hf := Lib.hid hform
  have Hwf := Lib.hid hwf
  have HT := Lib.hid ht'
  clear hplain hof hform hread hwf ht'
  by_cases hin : 1 ≤ ts.length ∧ ts.length ≤ 100 ∧ (∀ x ∈ ts, plainT x) ∧ 0 ≤ a
  · obtain ⟨n1, n2, hp, ha⟩ := hin -- ARM in
    obtain ⟨a, rfl⟩ := Int.eq_ofNat_of_zero_le ha
    have d1 : decide ((ts.length : Int) < 1) = false := decide_eq_false (by omega)
    have d2 : decide (100 < (ts.length : Int)) = false := decide_eq_false (by omega)
    have d3 : decide ((a : Int) < 0) = false := decide_eq_false (by omega)
    have hamt : ∀ x ∈ ts, AmtT x := fun x hx => by
      have := hp x hx
      unfold plainT at this
      unfold AmtT
      omega
    have HP := Lib.hid hp
    have HA := Lib.hid hamt
    clear hp hamt
    obtain ⟨i0, hi0, hz0, hz1, hz2⟩ := info_parts trade_info
    go_enter Try.func3, Try.ntmps3
    go_wp2_with fail
    refine (first_any w).mono ?_
    rintro e w0 ⟨rfl, hb0⟩
    go_wp2_with fail
    refine (HPl.out w0 (HT.out.below hb0)).mono ?_
    rintro e w1 ⟨hy, _, hb1⟩
    obtain rfl := hy HP.out
    clear hy
    have B1 := hb0.trans (hb1.mono hb0.size)
    go_wp2_with fail
    refine (HOf.out w1 (HT.out.below B1) (by omega) (small_amt ts HA.out (by omega))).mono ?_
    rintro e w2 ⟨v2, ys, rfl, hr2, ho2, hb2⟩
    obtain ⟨A2, c2, rfl⟩ := own_shape ho2
    have B2 := B1.trans (hb2.mono B1.size)
    have HB2 := Lib.hid B2
    have HR2 := Lib.hid hr2
    have HO2 := Lib.hid ho2
    have hs1 := B1.size
    have hs2 := hb2.size
    clear hb0 hb1 hb2 B1 B2 hr2 ho2
    go_wp2_with fail
    go_loopw [7, 8] (fun out i wr => BackRel w w2 ts out i wr) (fun _ i _ => ((intOf i) + 1).toNat)
    case atStart => exact ⟨ts.length, Nat.le_refl _, by go_num, by simpa [trCells] using World.ownsRow_nil _ _ _ _, Fr.refl _ _, HB2.out⟩
    case round =>
      obtain ⟨m, hm, hi, hown, hfr, hbw⟩ := hrel
      by_cases hm0 : m = 0
      · subst hm0 -- ARM zero
        rw [show (((0 : Nat) : Int) - 1) = -1 from rfl] at hi
        subst hi
        obtain ⟨b, o, rfl, hbo, hcell⟩ := Hf.out (by omega)
        have hk : a % ts.length < ts.length := Nat.mod_lt _ (by omega)
        have hrem : ((a : Int)).tmod (ts.length : Int) = ((a % ts.length : Nat) : Int) := (Int.ofNat_tmod a ts.length).symm
        obtain ⟨k, hkd⟩ : ∃ k, k = a % ts.length := ⟨_, rfl⟩
        rw [← hkd] at hk hrem
        clear hkd
        have hsz := Nat.lt_of_lt_of_le hbo hbw.size
        have hc0 := (hbw.cell (p := ⟨b, o + k * 7, none⟩) hbo).trans (hcell k hk 0 _ rfl)
        have hc1 := (hbw.cell (p := ⟨b, o + k * 7 + 1, none⟩) hbo).trans (hcell k hk 1 _ rfl)
        have hc2 := (hbw.cell (p := ⟨b, o + k * 7 + 2, none⟩) hbo).trans (hcell k hk 2 _ rfl)
        have hc3 := (hbw.cell (p := ⟨b, o + k * 7 + 3, none⟩) hbo).trans (hcell k hk 3 _ rfl)
        have hc4 := (hbw.cell (p := ⟨b, o + k * 7 + 4, none⟩) hbo).trans (hcell k hk 4 _ rfl)
        have hc5 := (hbw.cell (p := ⟨b, o + k * 7 + 5, none⟩) hbo).trans (hcell k hk 5 _ rfl)
        have hc6 := (hbw.cell (p := ⟨b, o + k * 7 + 6, none⟩) hbo).trans (hcell k hk 6 _ rfl)
        have hxm : ts[k] ∈ ts := List.getElem_mem hk
        clear hcell
        generalize ts[k] = x at hc0 hc1 hc2 hc3 hc4 hc5 hc6 hxm
        have HXM := Lib.hid hxm
        have hki : (k : Int) < (ts.length : Int) := by omega
        have hk0 : (0 : Int) ≤ (k : Int) := Int.natCast_nonneg _
        have hn0 : ((ts.length : Int) == 0) = false := by rw [beq_eq_false_iff_ne]; omega
        rw [Nat.sub_zero, List.take_of_length_le (by simp)] at hown
        obtain ⟨A3, c3, rfl⟩ := own_shape hown
        have HFR := Lib.hid hfr
        have HBW := Lib.hid hbw
        have HOW := Lib.hid hown
        have hf2 := hfr.size
        clear hfr hbw hown hxm
        go_wp2_with fail
        go_region
        all_goals go_wp2_with (at_builtin; refine wpList_append_any _ rfl (.tmp 66) (.tmp 69) _ rfl w2.heap.size 30 i0 _ 7 56 Try.underlying22 hi0 hz0 hz1 hz2 rfl (by omega) (.slice A3 ts.length c3) ts.length (trCells ts.reverse) rfl ((((HOW.out.alloc (.cells #[.int .i64 x.id, .int .i64 x.b, .int .i64 x.s, .int .i64 x.c, .int .i64 x.p, .int .i64 x.a, .int .i64 x.q] 30)).alloc (.cells #[.int .i64 x.id, .int .i64 x.s, .int .i64 x.b, .int .i64 x.c, .int .i64 x.p, .int .i64 x.a, .int .i64 x.q] 30)).alloc (.cells #[.int .i64 x.id, .int .i64 x.b, .int .i64 x.s, .int .i64 x.c, .int .i64 x.p, .int .i64 x.a, .int .i64 x.q, .int .i64 x.id, .int .i64 x.s, .int .i64 x.b, .int .i64 x.c, .int .i64 x.p, .int .i64 x.a, .int .i64 x.q] 30)).drew) (wr.heap.size + 1 + 1 + 1) (some ⟨wr.heap.size + 1 + 1, 0, none⟩) 2 2 (trCells [x, x.opp]) rfl (by have := (reads_trs ((wr.alloc (.cells #[.int .i64 x.id, .int .i64 x.b, .int .i64 x.s, .int .i64 x.c, .int .i64 x.p, .int .i64 x.a, .int .i64 x.q] 30)).alloc (.cells #[.int .i64 x.id, .int .i64 x.s, .int .i64 x.b, .int .i64 x.c, .int .i64 x.p, .int .i64 x.a, .int .i64 x.q] 30)) 30 [x, x.opp] #[.int .i64 x.id, .int .i64 x.b, .int .i64 x.s, .int .i64 x.c, .int .i64 x.p, .int .i64 x.a, .int .i64 x.q, .int .i64 x.id, .int .i64 x.s, .int .i64 x.b, .int .i64 x.c, .int .i64 x.p, .int .i64 x.a, .int .i64 x.q] rfl).drew; simpa using this) (trCells_one _) (by simp only [maxLen]; omega) (by omega) (by simp; omega) ?_; intro v4 w4 hown4 hg4 hat4)
        all_goals
          obtain ⟨A4, c4, rfl⟩ := own_shape hown4
          rw [← trCells_append] at hown4
          have hrd := Reads.of_own hown4
          have hok : TrsD.ok ⟨A4, ts.length + 2, c4, backL ts x⟩ w4 := by
            refine ⟨by simp [backL], by simp only [maxLen]; omega, hrd, fun y hy => ?_⟩
            rcases List.mem_append.1 hy with hy | hy
            · exact Hwf.out y (List.mem_reverse.1 hy)
            · have hw := Hwf.out x HXM.out
              simp at hy
              rcases hy with rfl | rfl
              · exact hw
              · exact ⟨hw.1, hw.2.2.1, hw.2.1, hw.2.2.2.1, hw.2.2.2.2.1, hw.2.2.2.2.2.1, hw.2.2.2.2.2.2⟩
          have ham : ∀ y ∈ backL ts x, AmtT y := by
            intro y hy
            rcases List.mem_append.1 hy with hy | hy
            · exact HA.out y (List.mem_reverse.1 hy)
            · have hw := HA.out x HXM.out
              simp at hy
              rcases hy with rfl | rfl
              · exact hw
              · exact hw
          have hsB := HBW.out.size
          have B4 : Below w.heap.size w w4 := ((((HBW.out.alloc (by omega) (.cells #[.int .i64 x.id, .int .i64 x.b, .int .i64 x.s, .int .i64 x.c, .int .i64 x.p, .int .i64 x.a, .int .i64 x.q] 30)).alloc (by simp; omega) (.cells #[.int .i64 x.id, .int .i64 x.s, .int .i64 x.b, .int .i64 x.c, .int .i64 x.p, .int .i64 x.a, .int .i64 x.q] 30)).alloc (by simp; omega) (.cells #[.int .i64 x.id, .int .i64 x.b, .int .i64 x.s, .int .i64 x.c, .int .i64 x.p, .int .i64 x.a, .int .i64 x.q, .int .i64 x.id, .int .i64 x.s, .int .i64 x.b, .int .i64 x.c, .int .i64 x.p, .int .i64 x.a, .int .i64 x.q] 30)).drew).grown hg4 (by simp; omega) (fun j hj => by have := (own_block HOW.out hj).1; omega)
          have F4 : Fr (fun j => w2.heap.size ≤ j) w2 w4 := ((((HFR.out.alloc _).alloc _).alloc _).drew).new (Fr.of_grown (S := fun j => w2.heap.size ≤ j) hg4 (fun j hj => (own_block HOW.out hj).1)) (fun j _ h => h)
          have RA4 := Reads.of_own (own_fr HO2.out F4 (fun j hj h => by have := (own_block HO2.out hj).2.1; omega))
          have RA := Lib.hid RA4
          have HOK := Lib.hid (of_ok ⟨A4, ts.length + 2, c4, backL ts x⟩ w4 hok (by simp only; omega) (small_amt (backL ts x) ham (by simp [backL]; omega)))
          clear RA4 hok ham hrd hown4 hg4 hat4 F4 hc0 hc1 hc2 hc3 hc4 hc5 hc6
          go_wp2_with fail
          refine HOK.out.mono ?_
          rintro e w5 ⟨v5, ys5, rfl, hr5, ho5, hb5⟩
          obtain ⟨A5, c5, rfl⟩ := own_shape ho5
          have hys := netsR_unique HR2.out (show NetsR (tot (msOf ts)) ys from HR2.out)
          have hy5 : ys5 = ys := netsR_unique hr5 (nets_back ts x HR2.out)
          subst hy5
          have R5 := Lib.hid (Reads.of_own ho5)
          have RA5 := Lib.hid ((RA.out.below hb5).more hb5.size)
          have B5 := B4.trans (hb5.mono B4.size)
          clear hr5 ho5 hb5 hys
          go_wp2_with fail
          refine (first_any w5).mono ?_
          rintro e w6 ⟨rfl, hb6⟩
          have R6 := Lib.hid ((R5.out.below hb6).more hb6.size)
          have RA6 := Lib.hid ((RA5.out.below hb6).more hb6.size)
          have B6 := B5.trans (hb6.mono B5.size)
          clear hb6
          go_wp2_with fail
          refine (samenets_eq ys5 A2 A5 c2 c5 w6 RA6.out R6.out (own_len HO2.out)).mono ?_
          rintro e w7 ⟨rfl, hb7⟩
          go_wp2_with fail
          go_ret
          exact ⟨rfl, B6.trans (hb7.mono B6.size)⟩
      · obtain ⟨m, rfl⟩ : ∃ m', m = m' + 1 := ⟨m - 1, by omega⟩ -- ARM succ
        rw [show (((m + 1 : Nat) : Int) - 1) = (m : Int) by omega] at hi
        subst hi
        obtain ⟨A3, c3, rfl⟩ := own_shape hown
        obtain ⟨b, o, rfl, hbo, hcell⟩ := Hf.out (by omega)
        have hsz := Nat.lt_of_lt_of_le hbo hbw.size
        have hc0 := (hbw.cell (p := ⟨b, o + m * 7, none⟩) hbo).trans (hcell m (by omega) 0 _ rfl)
        have hc1 := (hbw.cell (p := ⟨b, o + m * 7 + 1, none⟩) hbo).trans (hcell m (by omega) 1 _ rfl)
        have hc2 := (hbw.cell (p := ⟨b, o + m * 7 + 2, none⟩) hbo).trans (hcell m (by omega) 2 _ rfl)
        have hc3 := (hbw.cell (p := ⟨b, o + m * 7 + 3, none⟩) hbo).trans (hcell m (by omega) 3 _ rfl)
        have hc4 := (hbw.cell (p := ⟨b, o + m * 7 + 4, none⟩) hbo).trans (hcell m (by omega) 4 _ rfl)
        have hc5 := (hbw.cell (p := ⟨b, o + m * 7 + 5, none⟩) hbo).trans (hcell m (by omega) 5 _ rfl)
        have hc6 := (hbw.cell (p := ⟨b, o + m * 7 + 6, none⟩) hbo).trans (hcell m (by omega) 6 _ rfl)
        have htk : ts.reverse.take (ts.length - m) = ts.reverse.take (ts.length - (m + 1)) ++ [ts[m]] := by
          have hidx : ts.length - 1 - (ts.length - (m + 1)) = m := by omega
          rw [show ts.length - m = (ts.length - (m + 1)) + 1 by omega, List.take_succ_eq_append_getElem (by simp; omega), List.getElem_reverse]
          simp only [hidx]
        clear hcell
        generalize ts[m]'(by omega) = x at hc0 hc1 hc2 hc3 hc4 hc5 hc6 htk
        have hmi : (m : Int) < (ts.length : Int) := by omega
        have hm00 : (0 : Int) ≤ (m : Int) := Int.natCast_nonneg _
        have dge : decide (0 ≤ (m : Int)) = true := decide_eq_true hm00
        have HTK := Lib.hid htk
        have HFR := Lib.hid hfr
        have HBW := Lib.hid hbw
        have HOW := Lib.hid hown
        have hf2 := hfr.size
        have hleft : ts.length - (m + 1) + 1 = ts.length - m := by omega
        have HLf := Lib.hid hleft
        clear htk hfr hbw hown hleft hm0
        go_wp2_with (at_builtin; refine wpList_append_any _ rfl (.tmp 45) (.tmp 50) _ rfl w2.heap.size 30 i0 _ 7 56 Try.underlying22 hi0 hz0 hz1 hz2 rfl (by omega) (.slice A3 (ts.length - (m + 1)) c3) (ts.length - (m + 1)) (trCells (ts.reverse.take (ts.length - (m + 1)))) rfl (HOW.out.alloc _) (wr.heap.size + 1) (some ⟨wr.heap.size, 0, none⟩) 1 1 (trCells [x]) rfl (reads_trs wr 30 [x] _ rfl) (trCells_one [x]) (by simp only [maxLen]; omega) (by omega) (by simp; omega) ?_; intro v4 w4 hown4 hg4 hat4)
        go_roundw
        case rel =>
          refine ⟨m, by omega, rfl, ?_, (HFR.out.alloc _).new (Fr.of_grown (S := fun j => w2.heap.size ≤ j) hg4 (fun j hj => (own_block HOW.out hj).1)) (fun j _ h => h), (HBW.out.alloc (by have := HBW.out.size; omega) _).grown hg4 (by have := HBW.out.size; simp; omega) (fun j hj => by have := (own_block HOW.out hj).1; omega)⟩
          rw [HLf.out, ← trCells_append, ← HTK.out] at hown4
          exact hown4
        case measure => simp [intOf]
  · rcases (show ts.length < 1 ∨ (1 ≤ ts.length ∧ 100 < ts.length) ∨ (1 ≤ ts.length ∧ ts.length ≤ 100) by omega) with n1 | ⟨n1, n2⟩ | ⟨n1, n2⟩ -- ARM out
    · have d1 : decide ((ts.length : Int) < 1) = true := decide_eq_true (by omega)
      clear hin
      go_enter Try.func3, Try.ntmps3
      go_wp2_with fail
      refine (first_any w).mono ?_
      rintro e w0 ⟨rfl, hb0⟩
      go_wp2_with fail
      refine (first_any w0).mono ?_
      rintro e w1 ⟨rfl, hb1⟩
      go_wp2_with fail
      go_ret
      exact ⟨rfl, hb0.trans (hb1.mono hb0.size)⟩
    · have d1 : decide ((ts.length : Int) < 1) = false := decide_eq_false (by omega)
      have d2 : decide (100 < (ts.length : Int)) = true := decide_eq_true (by omega)
      clear hin
      go_enter Try.func3, Try.ntmps3
      go_wp2_with fail
      refine (first_any w).mono ?_
      rintro e w0 ⟨rfl, hb0⟩
      go_wp2_with fail
      refine (first_any w0).mono ?_
      rintro e w1 ⟨rfl, hb1⟩
      go_wp2_with fail
      go_ret
      exact ⟨rfl, hb0.trans (hb1.mono hb0.size)⟩
    · have d1 : decide ((ts.length : Int) < 1) = false := decide_eq_false (by omega)
      have d2 : decide (100 < (ts.length : Int)) = false := decide_eq_false (by omega)
      by_cases hp : ∀ x ∈ ts, plainT x
      · have d3 : decide (a < 0) = true := decide_eq_true (by
          apply Classical.byContradiction
          intro h
          exact hin ⟨n1, n2, hp, by omega⟩)
        have HP := Lib.hid hp
        clear hin hp
        go_enter Try.func3, Try.ntmps3
        go_wp2_with fail
        refine (first_any w).mono ?_
        rintro e w0 ⟨rfl, hb0⟩
        go_wp2_with fail
        refine (HPl.out w0 (HT.out.below hb0)).mono ?_
        rintro e w1 ⟨hy, _, hb1⟩
        obtain rfl := hy HP.out
        clear hy
        have B1 := hb0.trans (hb1.mono hb0.size)
        go_wp2_with fail
        refine (first_any w1).mono ?_
        rintro e w2 ⟨rfl, hb2⟩
        go_wp2_with fail
        go_ret
        exact ⟨rfl, B1.trans (hb2.mono B1.size)⟩
      · have HP := Lib.hid hp
        clear hin hp
        go_enter Try.func3, Try.ntmps3
        go_wp2_with fail
        refine (first_any w).mono ?_
        rintro e w0 ⟨rfl, hb0⟩
        go_wp2_with fail
        refine (HPl.out w0 (HT.out.below hb0)).mono ?_
        rintro e w1 ⟨_, hy, hb1⟩
        obtain rfl := hy HP.out
        clear hy
        have B1 := hb0.trans (hb1.mono hb0.size)
        go_wp2_with fail
        refine (first_any w1).mono ?_
        rintro e w2 ⟨rfl, hb2⟩
        go_wp2_with fail
        go_ret
        exact ⟨rfl, B1.trans (hb2.mono B1.size)⟩
end Go.Proofs.Ytggpdbfkfcoejaa
