/-
  nets.Of where an amount does not fit: by contract.
-/
import Derived.Test.YtggpdbfkfcoejaaNetOf
import Derived.Test.YtggpdbfkfcoejaaGiven
namespace Go.Proofs.Ytggpdbfkfcoejaa
open Go.RowKit Go.Maps

theorem add_no (a b : Int) (w : World) (h : (0 ≤ a ∧ a ≤ 4611686018427387904) ∧ (0 ≤ b ∧ b ≤ 4611686018427387904) ∧ 4611686018427387904 < a + b) : Calls Try.prog 18 #[.int .i64 a, .int .i64 b] w fun e w' => e = .returned (.tuple #[.int .i64 0, .int .i64 1]) ∧ w = w' := by
  obtain ⟨⟨h0, h1⟩, ⟨h2, h3⟩, h4⟩ := h
  have d1 : decide (0 ≤ a) = true := decide_eq_true h0
  have d2 : decide (a ≤ 4611686018427387904) = true := decide_eq_true h1
  have d3 : decide (0 ≤ b) = true := decide_eq_true h2
  have d4 : decide (b ≤ 4611686018427387904) = true := decide_eq_true h3
  by_cases hs : a + b ≤ 9223372036854775807
  · have ew : IntKind.i64.wrap (a + b) = a + b := by rw [IntKind.wrap_i64]; omega
    have d5 : decide (0 ≤ a + b) = true := decide_eq_true (by omega)
    have d6 : decide (a + b ≤ 4611686018427387904) = false := decide_eq_false (by omega)
    clear h0 h1 h2 h3 h4 hs
    go_enter Try.func18, Try.ntmps18
    go_wp2
    go_ret2
    exact ⟨rfl, rfl⟩
  · have ew : IntKind.i64.wrap (a + b) = a + b - 18446744073709551616 := by rw [IntKind.wrap_i64]; omega
    have d5 : decide (0 ≤ a + b - 18446744073709551616) = false := decide_eq_false (by omega)
    have d6 : decide (18446744073709551616 ≤ a + b) = false := decide_eq_false (by omega)
    have d7 : a + b < 18446744073709551616 := by omega
    clear h0 h1 h2 h3 h4 hs
    go_enter Try.func18, Try.ntmps18
    go_wp2
    go_ret2
    exact ⟨rfl, rfl⟩
def OfRelE (w : World) (ts : List TrD) (i : Value) (wr : World) : Prop :=
  ∃ k : Nat, k ≤ ts.length ∧ i = .int .i64 k ∧ MapT wr w.heap.size (2 * k) (tot (msOf (ts.take k))) ∧ Below w.heap.size w wr ∧ ∀ K, tot (msOf (ts.take k)) K ≤ 4611686018427387904
def OfRel2E (w : World) (ms : List (KeyD × Int)) (t : TrD) (n : Nat) (i : Value) (wr : World) : Prop :=
  ∃ j : Nat, j ≤ 2 ∧ i = .int .i64 j ∧ MapT wr w.heap.size (n + j) (tot (ms ++ (mv t).take j)) ∧ Below w.heap.size w wr ∧ ∀ K, tot (ms ++ (mv t).take j) K ≤ 4611686018427387904
set_option maxRecDepth 100000 in
set_option maxHeartbeats 8000000 in
theorem of_err (t : TrsD) (w : World) (ht : t.ok w) (hn : t.n ≤ 1000000) (hmay : ∀ x ∈ t.ts, mayT x) (hno : ¬ SmallM (msOf t.ts)) : Calls Try.prog 9 #[.slice t.A t.n t.c] w fun e w' => e = .returned (.tuple #[.slice none 0 0, .int .i64 1]) ∧ Below w.heap.size w w' := by
  have hform := ht.form
  obtain ⟨A, n, c, ts⟩ := t
  obtain ⟨hl, hmax, hread, hwf⟩ := ht
  simp only at hl hmax hform hwf hn hmay hno ⊢
  obtain rfl := hl
  unfold maxLen at hmax
  have Hf := Lib.hid hform
  have Hwf := Lib.hid hwf
  have HMay := Lib.hid hmay
  have Hno := Lib.hid hno
  have hmm := @run_makeMap Try.prog
  clear hform hwf hmay hno hread
  go_enter Try.func9, Try.ntmps9
  go_wp2_with fail
  clear hmm
  go_loopw [19] (fun i wr => OfRelE w ts i wr) (fun i _ => ts.length - (intOf i).toNat)
  case atStart => exact ⟨0, Nat.zero_le _, rfl, by simpa [msOf, tot] using MapT.made w, (Below.refl _ _).alloc (Nat.le_refl _) _, fun K => by simp [msOf, tot]⟩
  case round =>
    obtain ⟨k, hk, rfl, hm, hb, hbd⟩ := hrel
    have HBD := Lib.hid hbd
    have HM := Lib.hid hm
    have HB := Lib.hid hb
    clear hm hb hbd
    by_cases hlt : k < ts.length
    · obtain ⟨b, o, rfl, hbo, hcell⟩ := Hf.out (by omega) -- ARM round
      have hsz := Nat.lt_of_lt_of_le hbo HB.out.size
      have hc0 := (HB.out.cell (p := ⟨b, o + k * 7, none⟩) hbo).trans (hcell k hlt 0 _ rfl)
      have hc1 := (HB.out.cell (p := ⟨b, o + k * 7 + 1, none⟩) hbo).trans (hcell k hlt 1 _ rfl)
      have hc2 := (HB.out.cell (p := ⟨b, o + k * 7 + 2, none⟩) hbo).trans (hcell k hlt 2 _ rfl)
      have hc3 := (HB.out.cell (p := ⟨b, o + k * 7 + 3, none⟩) hbo).trans (hcell k hlt 3 _ rfl)
      have hc4 := (HB.out.cell (p := ⟨b, o + k * 7 + 4, none⟩) hbo).trans (hcell k hlt 4 _ rfl)
      have hc5 := (HB.out.cell (p := ⟨b, o + k * 7 + 5, none⟩) hbo).trans (hcell k hlt 5 _ rfl)
      have hc6 := (HB.out.cell (p := ⟨b, o + k * 7 + 6, none⟩) hbo).trans (hcell k hlt 6 _ rfl)
      have hwk := Hwf.out ts[k] (List.getElem_mem hlt)
      have htake := msOf_take ts k hlt
      have hnn := tot_nonneg (fun m hm => may_nonneg HMay.out m (by rw [msOf_split ts k hlt]; simp [hm]) : ∀ m ∈ msOf (ts.take k), 0 ≤ m.2)
      have hx := HMay.out ts[k] (List.getElem_mem hlt)
      clear hcell
      generalize hop : ts[k] = tr at hc0 hc1 hc2 hc3 hc4 hc5 hc6 hwk htake hx
      have hki : (k : Int) < (ts.length : Int) := by omega
      have hk0 : (0 : Int) ≤ (k : Int) := Int.natCast_nonneg _
      have Htake := Lib.hid htake
      have HNN := Lib.hid hnn
      have hxp := hx.p
      have hxq := hx.q
      have HXP := Lib.hid hxp
      have HXQ := Lib.hid hxq
      have HNE := Lib.hid hx.ne
      have Hwk := Lib.hid hwk
      clear hop htake hwk hx hnn hxp hxq
      have hbs := HNE.out
      · have hd : (tr.b == tr.s) = false := by rw [beq_eq_false_iff_ne]; exact hbs -- ARM ne
        go_wp2_with fail
        refine (moves_any tr _).mono ?_
        rintro e w1 ⟨rfl, hb1⟩
        have hmv : mvs tr = mv tr := by unfold mvs; rw [if_neg hbs]
        have B1 := (HB.out.alloc HB.out.size (.cells #[.int .i64 tr.id, .int .i64 tr.b, .int .i64 tr.s, .int .i64 tr.c, .int .i64 tr.p, .int .i64 tr.a, .int .i64 tr.q] 30)).trans (hb1.mono (by have := HB.out.size; simp; omega))
        have M1 := Lib.hid ((HM.out.alloc (.cells #[.int .i64 tr.id, .int .i64 tr.b, .int .i64 tr.s, .int .i64 tr.c, .int .i64 tr.p, .int .i64 tr.a, .int .i64 tr.q] 30)).below hb1)
        have B1 := Lib.hid B1
        have Hmv := Lib.hid hmv
        have Hms := Lib.hid (rfl : msOf (ts.take k) = msOf (ts.take k))
        clear hb1 hmv HM
        rw [Hmv.out] at Htake
        clear hbs
        unfold mvCells
        go_wp2_with fail
        go_loopw [30] (fun i wr => OfRel2E w (msOf (ts.take k)) tr (2 * k) i wr) (fun i _ => 2 - (intOf i).toNat)
        case atStart => exact ⟨0, by omega, rfl, by simpa using M1.out, B1.out, by simpa using HBD.out⟩
        case round =>
          obtain ⟨j, hj, rfl, hm2, hb2, hbd2⟩ := hrel
          have HBD2 := Lib.hid hbd2
          clear hbd2 HBD
          rcases (show j = 0 ∨ j = 1 ∨ j = 2 by omega) with hj0 | hj1 | hj2
          · subst hj0 -- ARM j0
            have hix := @index_net0
            have M2 := Lib.hid hm2
            have B2 := Lib.hid hb2
            have hz2 := hm2.lt
            clear hm2 hb2
            have hkw : KeyD.wf ⟨tr.b, tr.s, 0, tr.c⟩ := ⟨Hwk.out.2.1, Hwk.out.2.2.1, rfl, Hwk.out.2.2.2.1⟩
            have M2' : Hid (MapT wr w.heap.size (2 * k + 0) (tot (msOf (ts.take k)))) := by show MapT _ _ _ _; first | exact M2.out | simpa using M2.out
            have M3 := Lib.hid ((M2'.out.alloc (.cells #[.int .i64 tr.b, .int .i64 tr.s, .int .i64 0, .int .i64 tr.c, .int .i64 tr.p] 34)).alloc (.cells #[.int .i64 tr.b, .int .i64 tr.s, .int .i64 0, .int .i64 tr.c] 44))
            have hlk : ∀ m, (Instr.lookup 40 (.map (some w.heap.size)) (.agg #[.int .i64 tr.b, .int .i64 tr.s, .int .i64 0, .int .i64 tr.c]) false).run Try.prog (((wr.alloc (.cells #[.int .i64 tr.b, .int .i64 tr.s, .int .i64 0, .int .i64 tr.c, .int .i64 tr.p] 34)).alloc (.cells #[.int .i64 tr.b, .int .i64 tr.s, .int .i64 0, .int .i64 tr.c] 44)).drewN m) = .ok (.int .i64 (tot (msOf (ts.take k)) (⟨tr.b, tr.s, 0, tr.c⟩ : KeyD))) (((wr.alloc (.cells #[.int .i64 tr.b, .int .i64 tr.s, .int .i64 0, .int .i64 tr.c, .int .i64 tr.p] 34)).alloc (.cells #[.int .i64 tr.b, .int .i64 tr.s, .int .i64 0, .int .i64 tr.c] 44)).drewN m) := fun m => (M3.out.drewN m).look hkw
            have HT0 := Lib.hid (show 0 ≤ tot (msOf (ts.take k)) (⟨tr.b, tr.s, 0, tr.c⟩ : KeyD) ∧ tot (msOf (ts.take k)) (⟨tr.b, tr.s, 0, tr.c⟩ : KeyD) ≤ 4611686018427387904 from ⟨HNN.out _, by have := HBD2.out ⟨tr.b, tr.s, 0, tr.c⟩; simpa using this⟩)
            have HT1 := Lib.hid (tot_snoc_self (msOf (ts.take k)) (⟨tr.b, tr.s, 0, tr.c⟩ : KeyD) tr.p)
            have HT2 := Lib.hid (fun k' (h : k' ≠ (⟨tr.b, tr.s, 0, tr.c⟩ : KeyD)) => tot_snoc_other (msOf (ts.take k)) (k := (⟨tr.b, tr.s, 0, tr.c⟩ : KeyD)) tr.p h)
            have Hkw := Lib.hid hkw
            clear hkw M2
            go_wp2_with fail
            generalize tot (msOf (ts.take k)) (⟨tr.b, tr.s, 0, tr.c⟩ : KeyD) = T0 at hlk HT1 HT0
            by_cases hsum : T0 + tr.p ≤ 4611686018427387904
            · have hsum0 := hsum -- ARM ok0
              have hfit : 0 ≤ T0 ∧ 0 ≤ tr.p ∧ T0 + tr.p ≤ 4611686018427387904 := ⟨HT0.out.1, HXP.out.1, hsum⟩
              have HBD3 := Lib.hid (fun K' => by
                by_cases hK : K' = (⟨tr.b, tr.s, 0, tr.c⟩ : KeyD)
                · rw [hK, HT1.out]; exact hsum
                · rw [HT2.out K' hK]; have := HBD2.out K'; simpa using this : ∀ K', tot (msOf (ts.take k) ++ [((⟨tr.b, tr.s, 0, tr.c⟩ : KeyD), tr.p)]) K' ≤ 4611686018427387904)
              go_quiet (first | (go_at_call 18; exact quiet_left (add_ok T0 tr.p _ hfit)))
              have hw64 : wf64 (T0 + tr.p) := by unfold wf64; exact WalkArith.wf_i64 (by omega)
              go_wp2_with (at_mapUpdate; refine wpList_update (M3.out.drewN nq) rfl _ _ _ rfl (⟨tr.b, tr.s, 0, tr.c⟩ : KeyD) (T0 + tr.p) Hkw.out hw64 (by unfold maxLen; omega) rfl rfl rfl HT1.out HT2.out ?_; intro w5 hm5 hg5)
              go_roundw
              case rel => exact ⟨1, by omega, by go_num, by exact hm5, below_only (below_drewN ((B2.out.alloc B2.out.size (.cells #[.int .i64 tr.b, .int .i64 tr.s, .int .i64 0, .int .i64 tr.c, .int .i64 tr.p] 34)).alloc (by have := B2.out.size; simp; omega) (.cells #[.int .i64 tr.b, .int .i64 tr.s, .int .i64 0, .int .i64 tr.c] 44)) nq) hg5 (by have := B2.out.size; simp; omega) (Nat.le_refl _), HBD3.out⟩
              case measure => simp [intOf]
            · have hbig : (0 ≤ T0 ∧ T0 ≤ 4611686018427387904) ∧ (0 ≤ tr.p ∧ tr.p ≤ 4611686018427387904) ∧ 4611686018427387904 < T0 + tr.p := ⟨HT0.out, HXP.out, by omega⟩ -- ARM no0
              go_quiet (first | (go_at_call 18; exact quiet_left (add_no T0 tr.p _ hbig)))
              go_wp2_with fail
              go_ret2
              exact ⟨rfl, below_drewN ((B2.out.alloc B2.out.size (.cells #[.int .i64 tr.b, .int .i64 tr.s, .int .i64 0, .int .i64 tr.c, .int .i64 tr.p] 34)).alloc (by have := B2.out.size; simp; omega) (.cells #[.int .i64 tr.b, .int .i64 tr.s, .int .i64 0, .int .i64 tr.c] 44)) _⟩
          · subst hj1 -- ARM j1
            have hix := @index_net1
            have M2 := Lib.hid hm2
            have B2 := Lib.hid hb2
            have hz2 := hm2.lt
            clear hm2 hb2
            have hkw : KeyD.wf ⟨tr.s, tr.b, 1, tr.a⟩ := ⟨Hwk.out.2.2.1, Hwk.out.2.1, rfl, Hwk.out.2.2.2.2.2.1⟩
            have M2' : Hid (MapT wr w.heap.size (2 * k + 1) (tot (msOf (ts.take k) ++ [((⟨tr.b, tr.s, 0, tr.c⟩ : KeyD), tr.p)]))) := by show MapT _ _ _ _; first | exact M2.out | simpa using M2.out
            have M3 := Lib.hid ((M2'.out.alloc (.cells #[.int .i64 tr.s, .int .i64 tr.b, .int .i64 1, .int .i64 tr.a, .int .i64 tr.q] 34)).alloc (.cells #[.int .i64 tr.s, .int .i64 tr.b, .int .i64 1, .int .i64 tr.a] 44))
            have hlk : ∀ m, (Instr.lookup 40 (.map (some w.heap.size)) (.agg #[.int .i64 tr.s, .int .i64 tr.b, .int .i64 1, .int .i64 tr.a]) false).run Try.prog (((wr.alloc (.cells #[.int .i64 tr.s, .int .i64 tr.b, .int .i64 1, .int .i64 tr.a, .int .i64 tr.q] 34)).alloc (.cells #[.int .i64 tr.s, .int .i64 tr.b, .int .i64 1, .int .i64 tr.a] 44)).drewN m) = .ok (.int .i64 (tot (msOf (ts.take k) ++ [((⟨tr.b, tr.s, 0, tr.c⟩ : KeyD), tr.p)]) (⟨tr.s, tr.b, 1, tr.a⟩ : KeyD))) (((wr.alloc (.cells #[.int .i64 tr.s, .int .i64 tr.b, .int .i64 1, .int .i64 tr.a, .int .i64 tr.q] 34)).alloc (.cells #[.int .i64 tr.s, .int .i64 tr.b, .int .i64 1, .int .i64 tr.a] 44)).drewN m) := fun m => (M3.out.drewN m).look hkw
            have HT0 := Lib.hid (show 0 ≤ tot (msOf (ts.take k) ++ [((⟨tr.b, tr.s, 0, tr.c⟩ : KeyD), tr.p)]) (⟨tr.s, tr.b, 1, tr.a⟩ : KeyD) ∧ tot (msOf (ts.take k) ++ [((⟨tr.b, tr.s, 0, tr.c⟩ : KeyD), tr.p)]) (⟨tr.s, tr.b, 1, tr.a⟩ : KeyD) ≤ 4611686018427387904 from ⟨by rw [tot_append]; have h1 := HNN.out ⟨tr.s, tr.b, 1, tr.a⟩; have h2 := tot_nonneg (ms := [((⟨tr.b, tr.s, 0, tr.c⟩ : KeyD), tr.p)]) (fun m hm => by simp at hm; subst hm; exact HXP.out.1) ⟨tr.s, tr.b, 1, tr.a⟩; omega, by have := HBD2.out ⟨tr.s, tr.b, 1, tr.a⟩; simpa [mv] using this⟩)
            have HT1 := Lib.hid (tot_snoc_self (msOf (ts.take k) ++ [((⟨tr.b, tr.s, 0, tr.c⟩ : KeyD), tr.p)]) (⟨tr.s, tr.b, 1, tr.a⟩ : KeyD) tr.q)
            have HT2 := Lib.hid (fun k' (h : k' ≠ (⟨tr.s, tr.b, 1, tr.a⟩ : KeyD)) => tot_snoc_other (msOf (ts.take k) ++ [((⟨tr.b, tr.s, 0, tr.c⟩ : KeyD), tr.p)]) (k := (⟨tr.s, tr.b, 1, tr.a⟩ : KeyD)) tr.q h)
            have Hkw := Lib.hid hkw
            clear hkw M2
            go_wp2_with fail
            generalize tot (msOf (ts.take k) ++ [((⟨tr.b, tr.s, 0, tr.c⟩ : KeyD), tr.p)]) (⟨tr.s, tr.b, 1, tr.a⟩ : KeyD) = T0 at hlk HT1 HT0
            by_cases hsum : T0 + tr.q ≤ 4611686018427387904
            · have hsum0 := hsum -- ARM ok1
              have hfit : 0 ≤ T0 ∧ 0 ≤ tr.q ∧ T0 + tr.q ≤ 4611686018427387904 := ⟨HT0.out.1, HXQ.out.1, hsum⟩
              have HBD3 := Lib.hid (fun K' => by
                by_cases hK : K' = (⟨tr.s, tr.b, 1, tr.a⟩ : KeyD)
                · rw [hK, HT1.out]; exact hsum
                · rw [HT2.out K' hK]; have := HBD2.out K'; simpa [mv] using this : ∀ K', tot (msOf (ts.take k) ++ [((⟨tr.b, tr.s, 0, tr.c⟩ : KeyD), tr.p)] ++ [((⟨tr.s, tr.b, 1, tr.a⟩ : KeyD), tr.q)]) K' ≤ 4611686018427387904)
              go_quiet (first | (go_at_call 18; exact quiet_left (add_ok T0 tr.q _ hfit)))
              have hw64 : wf64 (T0 + tr.q) := by unfold wf64; exact WalkArith.wf_i64 (by omega)
              go_wp2_with (at_mapUpdate; refine wpList_update (M3.out.drewN nq) rfl _ _ _ rfl (⟨tr.s, tr.b, 1, tr.a⟩ : KeyD) (T0 + tr.q) Hkw.out hw64 (by unfold maxLen; omega) rfl rfl rfl HT1.out HT2.out ?_; intro w5 hm5 hg5)
              go_roundw
              case rel => exact ⟨2, by omega, by go_num, by have := hm5; rw [List.append_assoc] at this; exact this, below_only (below_drewN ((B2.out.alloc B2.out.size (.cells #[.int .i64 tr.s, .int .i64 tr.b, .int .i64 1, .int .i64 tr.a, .int .i64 tr.q] 34)).alloc (by have := B2.out.size; simp; omega) (.cells #[.int .i64 tr.s, .int .i64 tr.b, .int .i64 1, .int .i64 tr.a] 44)) nq) hg5 (by have := B2.out.size; simp; omega) (Nat.le_refl _), fun K => by have h := HBD3.out K; rw [List.append_assoc] at h; exact h⟩
              case measure => simp [intOf]
            · have hbig : (0 ≤ T0 ∧ T0 ≤ 4611686018427387904) ∧ (0 ≤ tr.q ∧ tr.q ≤ 4611686018427387904) ∧ 4611686018427387904 < T0 + tr.q := ⟨HT0.out, HXQ.out, by omega⟩ -- ARM no1
              go_quiet (first | (go_at_call 18; exact quiet_left (add_no T0 tr.q _ hbig)))
              go_wp2_with fail
              go_ret2
              exact ⟨rfl, below_drewN ((B2.out.alloc B2.out.size (.cells #[.int .i64 tr.s, .int .i64 tr.b, .int .i64 1, .int .i64 tr.a, .int .i64 tr.q] 34)).alloc (by have := B2.out.size; simp; omega) (.cells #[.int .i64 tr.s, .int .i64 tr.b, .int .i64 1, .int .i64 tr.a] 44)) _⟩
          · subst hj2 -- ARM j2
            have M2 := Lib.hid hm2
            have B2 := Lib.hid hb2
            clear hm2 hb2
            go_wp2_with fail
            go_roundw
            case rel =>
              refine ⟨k + 1, by omega, by go_num, ?_, B2.out, ?_⟩
              · rw [Htake.out]
                exact M2.out
              · rw [Htake.out]
                exact HBD2.out
            case measure => simp [intOf]; omega
    · obtain rfl : k = ts.length := by omega -- ARM rest
      have h := HBD.out
      rw [List.take_length] at h
      exact absurd ⟨may_nonneg HMay.out, h⟩ Hno.out
end Go.Proofs.Ytggpdbfkfcoejaa
