/-
  The reference's Rings by contract.
-/
import Derived.Test.YthoniedmeeahgaaRefMem
import Derived.StillTailTactics
import Derived.Deep.RegionHeld3
import Derived.RegionTactic
namespace Go.Proofs.Ythoniedmeeahgaa
open Go.RowKit Go.Maps Go.Sort

theorem reads_ring1 (w : World) (t : TypeId) (x y : Value) : Reads (w.alloc (.cells #[x, y] t)) (w.heap.size + 1) 2 (some ⟨w.heap.size, 0, none⟩) 1 [x, y] := by
  refine ⟨rfl, fun _ => ⟨_, rfl, by simp, fun j u hu => ?_⟩⟩
  have hb := Blk.new w t #[x, y]
  rw [Addr.add_lit, Nat.zero_add, hb.cell, ← hu]
  simp
def lenOf : Value → Nat
  | .slice _ n _ => n
  | _ => 0
def RingsP (w : World) (xs : List NetD) (e : Ending) (w' : World) : Prop :=
  ∃ v1 v2, e = .returned (.tuple #[v1, v2]) ∧ RgsAt w' v1 (ringsOf xs).1 ∧ (∃ A c, v2 = .slice A (ringsOf xs).2.length c ∧ (0 < (ringsOf xs).2.length → ∃ b o, A = some ⟨b, o, none⟩ ∧ NetAt w' (ringsOf xs).2 b o)) ∧ Below w.heap.size w w'
theorem wfP {all : List Int} {xs : List NetD} (h : all = allOf xs) : all.Pairwise (· < ·) := by rw [h]; exact (allOf_ok xs).1
set_option maxRecDepth 100000 in
set_option maxHeartbeats 16000000 in
theorem rings_any (t : NsD) (w : World) (ht : t.ok w) (hm : MayX t.xs) : Calls Try.prog 13 #[.slice t.A t.n t.c] w (RingsP w t.xs) := by
  obtain ⟨i0, hi0, hz0, hz1, hz2⟩ := info_parts int_row
  obtain ⟨ir, hir, hr0, hr1, hr2⟩ := info_parts ringR_row
  obtain ⟨il, hil, hl0, hl1, hl2⟩ := info_parts ring_row
  obtain ⟨A, n, c, xs⟩ := t
  have hat := ht.at_
  obtain ⟨hl, _⟩ := ht
  simp only at hl hat hm ⊢
  obtain rfl := hl
  have hlen := hm.len
  have HAT := Lib.hid hat
  have HMX := Lib.hid hm
  clear hat hm
  go_enter Try.func13, Try.ntmps13
  go_wp2_with fail
  go_loopw [4, 5] (fun v i wr => ∃ k : Nat, k ≤ xs.length ∧ i = .int .i64 k ∧ wr.ownsRow w.heap.size 3 1 v (partsOf (xs.take k)).length (iCells (partsOf (xs.take k))) ∧ Below w.heap.size w wr) (fun _ i _ => xs.length - (intOf i).toNat)
  case atStart => exact ⟨0, Nat.zero_le _, rfl, World.ownsRow_nil _ _ _ _, Below.refl _ _⟩
  case round =>
    obtain ⟨k, hk, rfl, ho, hb⟩ := hrel
    have hk0 : (0 : Int) ≤ (k : Int) := Int.natCast_nonneg _
    obtain ⟨Av, cv, rfl⟩ := own_shape ho
    by_cases hlt : k < xs.length
    · obtain ⟨b, o, rfl, hN⟩ := HAT.out (by omega) -- ARM part
      have hki : (k : Int) < (xs.length : Int) := by omega
      have ek : IntKind.i64.wrap ((k : Int) + 1) = (k : Int) + 1 := by rw [IntKind.wrap_i64]; omega
      have hsz := Nat.lt_of_lt_of_le hN.1 hb.size
      obtain ⟨a0, a1, _, _, _⟩ := (hN.below hb).2 k hlt
      have hpt := parts_take hlt
      have hpl := parts_len (xs.take k)
      rw [List.length_take] at hpl
      obtain ⟨x, hx⟩ : ∃ x, x = xs[k] := ⟨_, rfl⟩
      obtain ⟨P, hP⟩ : ∃ P, P = partsOf (xs.take k) := ⟨_, rfl⟩
      rw [← hx] at a0 a1 hpt
      rw [← hP] at ho hpt hpl ⊢
      have hPl : P.length ≤ 200 := by omega
      have HO := Lib.hid ho
      have HB := Lib.hid hb
      have HPT := Lib.hid hpt
      obtain ⟨d0, d1, _⟩ := hN.2 k hlt
      rw [← hx] at d0 d1
      have hbw := hN.1
      have h2c : ∀ u ∈ [Value.int .i64 x.f, Value.int .i64 x.t], u.oneCell' = true := by simp [Value.oneCell']
      have hfit : (P.length + 2) * 8 ≤ 140737488355328 := by omega
      have hmx : P.length + 2 ≤ maxLen := by simp only [maxLen]; omega
      clear hx hP ho hb hN hpt hpl
      go_wp2_with fail
      go_region_held3 (fun w' => w'.cell? ⟨b, o + k * 5, none⟩ = some (.int .i64 x.f) ∧ w'.cell? ⟨b, o + k * 5 + 1, none⟩ = some (.int .i64 x.t)) (first | exact s2 | go_keep) (first
        | (refine step_append_any _ rfl (.tmp 23) (.tmp 34) 29 rfl w.heap.size 3 i0 _ 1 8 Try.underlying29 hi0 hz0 hz1 hz2 rfl (by omega) (.slice Av P.length cv) (P.length) (iCells P) (by simp [Act.eval, Act.put]) ((HO.out.alloc (.cells #[.int .i64 x.f, .int .i64 x.t] 3)).drew) (wr.heap.size + 1) (some ⟨wr.heap.size, 0, none⟩) 2 2 [.int .i64 x.f, .int .i64 x.t] (by simp [Act.eval, Act.put]) ((reads_twoI wr 3 (.int .i64 x.f) (.int .i64 x.t)).drew) h2c hmx hfit (Nat.le_trans HB.out.size (by simp)) ?_; intro v6 w6 hown6 hg6 hat6; have bw6 : Below w.heap.size w w6 := Below.grown (HB.out.alloc HB.out.size (.cells #[.int .i64 x.f, .int .i64 x.t] 3)).drew hg6 (Nat.le_trans HB.out.size (by simp)) (fun j hj => (own_block HO.out hj).1); have s2 : w6.cell? ⟨b, o + k * 5, none⟩ = some (.int .i64 x.f) ∧ w6.cell? ⟨b, o + k * 5 + 1, none⟩ = some (.int .i64 x.t) := ⟨(bw6.cell (p := ⟨b, o + k * 5, none⟩) hbw).trans d0, (bw6.cell (p := ⟨b, o + k * 5 + 1, none⟩) hbw).trans d1⟩))
      clear s2 d0 d1 hat6
      go_wp2_with fail
      exact ⟨⟨k + 1, hlt, rfl, by rw [HPT.out, List.length_append]; simpa [iCells] using hown6, bw6⟩, by simp only [intOf]; omega⟩
    · obtain rfl : k = xs.length := by omega -- ARM sort
      have hki : ¬ ((xs.length : Int) < (xs.length : Int)) := by omega
      rw [List.take_length] at ho ⊢
      have HPL := Lib.hid (show (partsOf xs).length ≤ 1000000 from by rw [parts_len]; omega)
      have HO := Lib.hid ho
      have HB := Lib.hid hb
      clear ho hb
      go_wp2_with fail
      refine (refsorted_any (partsOf xs) Av cv wr (Reads.of_own HO.out) HPL.out).mono ?_
      rintro e w1 ⟨vA, os, rfl, hoA, hris, hmem, _, hb1⟩
      have hos : os = allOf xs := all_one hris hmem
      obtain ⟨all, hall⟩ : ∃ all, all = allOf xs := ⟨_, rfl⟩
      rw [← hall] at hos
      subst hos
      have hal : os.length ≤ 16 := by rw [hall]; exact all_len HMX.out
      have HALL := Lib.hid hall
      obtain ⟨AA, cA, rfl⟩ := own_shape hoA
      have hB1 := HB.out.trans (hb1.mono HB.out.size)
      have hR0 : RfM w (.slice AA os.length cA) (.slice none 0 0) (.slice A xs.length c) os [] xs [] w1 :=
        ⟨RdT.own hoA, World.ownsRow_nil _ _ _ _, ⟨rfl, fun k u hu => by simp at hu⟩, ⟨A, c, rfl, fun hn => by
          obtain ⟨b, o, e, hN⟩ := HAT.out hn
          exact ⟨b, o, e, hN.below hB1, .inl hN.1⟩⟩, hB1⟩
      have HR0 := Lib.hid hR0
      have HPS := Lib.hid (show PairsSt xs os [] xs (pairsOf (os.drop 0)) from by unfold PairsSt; rw [List.drop_zero, List.nil_append])
      clear hoA hris hmem hb1 hB1 hR0 HO HB hall
      go_wp2_with fail
      go_loopw [0, 6, 7] (fun vL vO iv wr => ∃ (i : Nat) (rs : List RingD) (cur : List NetD) (cs : List (Value × Value)), i ≤ os.length ∧ iv = .int .i64 i ∧ MayX cur ∧ cur.length ≤ xs.length ∧ cs.length ≤ 400 ∧ cs.length ≤ i * 16 ∧ PairsSt xs os rs cur (pairsOf (os.drop i)) ∧ RfM w (.slice AA os.length cA) vO vL os rs cur cs wr) (fun _ _ iv _ => os.length - (intOf iv).toNat)
      case atStart => exact ⟨0, [], xs, [], Nat.zero_le _, rfl, HMX.out, Nat.le_refl _, by simp, by simp, HPS.out, HR0.out⟩
      case round =>
        obtain ⟨i, rs, cur, cs, hi, rfl, hmc, hcl, hc400, hci, hps, hM⟩ := hrel
        have hin0 : (0 : Int) ≤ (i : Int) := Int.natCast_nonneg _
        clear HR0 HPS
        by_cases hli : i < os.length
        · have hii : (i : Int) < (os.length : Int) := by omega -- ARM first
          have ei : IntKind.i64.wrap ((i : Int) + 1) = ((i + 1 : Nat) : Int) := by rw [IntKind.wrap_i64]; omega
          rw [todo_start hli] at hps
          have HPS := Lib.hid hps
          have HM := Lib.hid hM
          have HMC := Lib.hid hmc
          clear hps hM hmc
          go_wp2_with fail
          go_loopw [0, 6, 8] (fun vL vO kv wr => ∃ (k : Nat) (rs : List RingD) (cur : List NetD) (cs : List (Value × Value)), k ≤ os.length ∧ kv = .int .i64 k ∧ MayX cur ∧ cur.length ≤ xs.length ∧ cs.length ≤ 400 ∧ cs.length ≤ i * 16 + k ∧ PairsSt xs os rs cur (todoP os i k) ∧ RfM w (.slice AA os.length cA) vO vL os rs cur cs wr) (fun _ _ kv _ => os.length - (intOf kv).toNat)
          case atStart => exact ⟨i + 1, rs, cur, cs, hli, rfl, HMC.out, hcl, hc400, by omega, HPS.out, HM.out⟩
          case round =>
            obtain ⟨k, rs, cur, cs, hk, rfl, hmc, hcl, hc400, hci, hps, hM⟩ := hrel
            have hk0 : (0 : Int) ≤ (k : Int) := Int.natCast_nonneg _
            by_cases hlk : k < os.length
            · have hki : (k : Int) < (os.length : Int) := by omega -- ARM two
              have ek : IntKind.i64.wrap ((k : Int) + 1) = (k : Int) + 1 := by rw [IntKind.wrap_i64]; omega
              rw [todo_step hlk] at hps
              obtain ⟨bA, oA, cA', hvA, _, hzA, _, hcA⟩ := rdT_int hM.all_ (by omega)
              injection hvA with hvA _ hcc
              subst hvA hcc
              have q0 := hcA i hli
              have q1 := hcA k hlk
              rw [← getD_eq hli 0] at q0
              rw [← getD_eq hlk 0] at q1
              obtain ⟨a, ha⟩ : ∃ a, a = os.getD i 0 := ⟨_, rfl⟩
              obtain ⟨b, hb⟩ : ∃ b, b = os.getD k 0 := ⟨_, rfl⟩
              rw [← ha] at q0 hps
              rw [← hb] at q1 hps
              obtain ⟨AL, cL, rfl, hnL⟩ := hM.nets.at_
              obtain ⟨AO, cO, rfl⟩ := own_shape hM.own
              have HPS := Lib.hid hps
              have HM := Lib.hid hM
              have HMC := Lib.hid hmc
              have HNL := Lib.hid hnL
              clear hps hM hmc hcA ha hb hnL
              go_wp2_with fail
              go_quiet (fail)
              go_wp2_with fail
              have hbq : Below wr.heap.size wr (wr.drewN nq) := below_drewN (Below.refl _ _) _
              have HM1 := Lib.hid (HM.out.below hbq)
              have HNL1 := Lib.hid (fun hn => by
                obtain ⟨b', o', e, hN⟩ := HNL.out hn
                exact ⟨b', o', e, hN.below hbq⟩ : 0 < cur.length → ∃ b o, AL = some ⟨b, o, none⟩ ∧ NetAt (wr.drewN nq) cur b o)
              obtain ⟨W, hW⟩ : ∃ W, W = wr.drewN nq := ⟨_, rfl⟩
              rw [← hW] at HM1 HNL1 ⊢
              have HED := Lib.hid (fun (f u : Int) (W' : World) (hb : Below W.heap.size W W') => edge_any cur AL cL f u W' (fun hn => by
                obtain ⟨b', o', e, hN⟩ := HNL1.out hn
                exact ⟨b', o', e, hN.below hb⟩) HMC.out (hasE cur f u) rfl)
              clear hbq hW q0 q1 HM HNL hzA
              refine (HED.out a b W (Below.refl _ _)).mono ?_
              rintro e w2 ⟨rfl, hb2⟩
              have HB2 := Lib.hid hb2
              clear hb2
              obtain ⟨h1, hh1⟩ : ∃ h, h = hasE cur a b := ⟨_, rfl⟩
              rw [← hh1]
              have HH1 := Lib.hid hh1
              clear hh1
              cases h1 with
              | false => -- ARM miss1
                have hps := HPS.out.miss (fun h => by rw [← HH1.out] at h; exact absurd h.1 (by decide))
                have HPX := Lib.hid hps
                have HM2 := Lib.hid (HM1.out.below HB2.out)
                clear hps
                go_wp2_with fail
                exact ⟨⟨k + 1, rs, cur, cs, hlk, rfl, HMC.out, hcl, hc400, by omega, HPX.out, HM2.out⟩, by simp only [intOf]; omega⟩
              | true =>
                go_wp2_with fail
                refine (HED.out b a w2 HB2.out).mono ?_
                rintro e w3 ⟨rfl, hb3⟩
                have HB3 := Lib.hid (HB2.out.trans (hb3.mono HB2.out.size))
                clear hb3
                obtain ⟨h2, hh2⟩ : ∃ h, h = hasE cur b a := ⟨_, rfl⟩
                rw [← hh2]
                have HH2 := Lib.hid hh2
                clear hh2
                cases h2 with
                | false => -- ARM miss2
                  have hps := HPS.out.miss (fun h => by rw [← HH2.out] at h; exact absurd h.2 (by decide))
                  have HPX := Lib.hid hps
                  have HM3 := Lib.hid (HM1.out.below HB3.out)
                  clear hps
                  go_wp2_with fail
                  exact ⟨⟨k + 1, rs, cur, cs, hlk, rfl, HMC.out, hcl, hc400, by omega, HPX.out, HM3.out⟩, by simp only [intOf]; omega⟩
                | true => -- ARM hit
                  have hps := HPS.out.hit HH1.out.symm HH2.out.symm
                  have HPX := Lib.hid hps
                  have hlen2 := HMC.out.len
                  clear hps
                  go_wp2_with fail
                  have HB4 := Lib.hid (HB3.out.alloc HB3.out.size (.cells #[.int .i64 a, .int .i64 b] 3))
                  have HP4 := Lib.hid (own_two w3 W.heap.size 3 (.int .i64 a) (.int .i64 b) HB3.out.size)
                  obtain ⟨g4, hg4⟩ : ∃ g, g = w3.heap.size := ⟨_, rfl⟩
                  obtain ⟨w4, hw4⟩ : ∃ w', w' = w3.alloc (.cells #[.int .i64 a, .int .i64 b] 3) := ⟨_, rfl⟩
                  rw [← hw4] at HB4
                  rw [← hw4, ← hg4] at HP4
                  rw [← hw4, ← hg4]
                  clear hw4 hg4
                  have HIT := Lib.hid (fun (f u : Int) (W' : World) (hb : Below W.heap.size W W') => items_any cur AL cL f u W' (fun hn => by
                    obtain ⟨b', o', e, hN⟩ := HNL1.out hn
                    exact ⟨b', o', e, hN.below hb⟩) hlen2 (pick_apart HMC.out f u))
                  refine (HIT.out a b w4 HB4.out).mono ?_
                  rintro e w5 ⟨v5, rfl, ho5, hb5⟩
                  obtain ⟨A5, c5, rfl⟩ := own_shape ho5
                  have HB5 := Lib.hid (HB4.out.trans (hb5.mono HB4.out.size))
                  have HP5 := Lib.hid (own_below HP4.out hb5)
                  have HV5 := Lib.hid (show LegAt w5 (.slice A5 (items cur a b).length c5) (items cur a b) from RdT.own ho5)
                  clear ho5 hb5
                  go_wp2_with fail
                  refine (HIT.out b a w5 HB5.out).mono ?_
                  rintro e w6 ⟨v6, rfl, ho6, hb6⟩
                  obtain ⟨A6, c6, rfl⟩ := own_shape ho6
                  have HB6 := Lib.hid (HB5.out.trans (hb6.mono HB5.out.size))
                  have HP6 := Lib.hid (own_below HP5.out hb6)
                  have HV6 := Lib.hid (HV5.out.kept (TK.of_below hb6))
                  have HU6 := Lib.hid (show LegAt w6 (.slice A6 (items cur b a).length c6) (items cur b a) from RdT.own ho6)
                  clear ho6 hb6
                  have hb7 := (Below.refl w6.heap.size w6).alloc (Nat.le_refl _) (.cells #[.slice A5 (items cur a b).length c5, .slice A6 (items cur b a).length c6] 33)
                  have HB7 := Lib.hid (HB6.out.trans (hb7.mono HB6.out.size))
                  have HRG := Lib.hid (show RingAt (w6.alloc (.cells #[.slice A5 (items cur a b).length c5, .slice A6 (items cur b a).length c6] 33)) (.slice (some ⟨g4, 0, none⟩) 2 2) (.slice (some ⟨w6.heap.size, 0, none⟩) 2 2) ⟨[a, b], [items cur a b, items cur b a]⟩ from
                    ⟨RdT.own (own_below HP6.out hb7), legs_of (ls := [items cur a b, items cur b a]) (own_two w6 w6.heap.size 33 _ _ (Nat.le_refl _)) (fun k u hu is his => by
                      match k, hu, his with
                      | 0, hu, his =>
                        simp at hu his
                        rw [← hu, ← his]
                        exact HV6.out.kept (TK.of_below hb7)
                      | 1, hu, his =>
                        simp at hu his
                        rw [← hu, ← his]
                        exact HU6.out.kept (TK.of_below hb7)
                      | k + 2, hu, _ => simp at hu)⟩)
                  have HM7 := Lib.hid (HM1.out.below HB7.out)
                  have hls : (items cur a b).length ≤ 100 := Nat.le_trans (items_le _ _ _) hlen2
                  have hls2 : (items cur b a).length ≤ 100 := Nat.le_trans (items_le _ _ _) hlen2
                  obtain ⟨W7, hW7⟩ : ∃ W7, W7 = w6.alloc (.cells #[.slice A5 (items cur a b).length c5, .slice A6 (items cur b a).length c6] 33) := ⟨_, rfl⟩
                  have hw7s : W7.heap.size = w6.heap.size + 1 := by rw [hW7]; simp
                  rw [← hW7] at HRG HM7 HB7
                  have HW7 := Lib.hid hW7
                  have HS7 := Lib.hid hw7s
                  have hcs1 : cs.length + 1 ≤ 500 := by omega
                  clear hb7 hW7 hw7s
                  go_wp2_with (at_builtin; rw [← HW7.out]; refine wpList_append_any _ rfl (.tmp 70) (.tmp 84) _ rfl w.heap.size 32 ir _ 2 48 Try.underlying25 hir hr0 hr1 hr2 rfl (by omega) (.slice AO cs.length cO) cs.length (rCells cs) rfl (own_below HM7.out.own ((Below.refl _ _).alloc (Nat.le_refl _) _)) (W7.heap.size + 1) (some ⟨W7.heap.size, 0, none⟩) 1 1 [.slice (some ⟨g4, 0, none⟩) 2 2, .slice (some ⟨w6.heap.size, 0, none⟩) 2 2] (by rw [HS7.out]; rfl) (reads_ring1 W7 _ _ _) (by simp [Value.oneCell']) (by simp only [maxLen]; omega) (by omega) (by have := HM7.out.bel.size; simp; omega) ?_; intro v8 w8 hown8 hg8 hat8)
                  have HM8 := Lib.hid (HM7.out.push HRG.out hown8 hg8)
                  have HN8 := Lib.hid (show 0 < cur.length → ∃ b' o', AL = some ⟨b', o', none⟩ ∧ NetAt w8 cur b' o' from by
                    obtain ⟨A', c', hv, hn⟩ := HM8.out.nets.at_
                    injection hv with hA _ _
                    subst hA
                    exact hn)
                  clear hown8 hg8 hat8 HP4 HP5 HP6 HV5 HV6 HU6 HRG HM7 HW7
                  refine (without_any cur AL cL a b w8 HN8.out hlen2).mono ?_
                  rintro e w9 ⟨v9, rfl, ho9, hb9⟩
                  have HM9 := Lib.hid ((HM8.out.below hb9).turn (NetsV.own ho9))
                  have hn9 := left_row ho9
                  obtain ⟨A9, c9, rfl, hn9⟩ := hn9
                  have HN9 := Lib.hid (show 0 < (cut cur a b).length → ∃ b' o', A9 = some ⟨b', o', none⟩ ∧ NetAt w9 (cut cur a b) b' o' from fun hp => by
                    obtain ⟨b', e, hN⟩ := hn9 hp
                    exact ⟨b', 0, e, hN⟩)
                  have hcl1 : (cut cur a b).length ≤ cur.length := (cut_sub cur a b).length_le
                  clear ho9 hb9 hn9
                  go_wp2_with fail
                  refine (without_any (cut cur a b) A9 c9 b a w9 HN9.out (by omega)).mono ?_
                  rintro e w10 ⟨v10, rfl, ho10, hb10⟩
                  have HM10 := Lib.hid ((HM9.out.below hb10).turn (NetsV.own ho10))
                  have hcl2 : (cut (cut cur a b) b a).length ≤ cur.length := Nat.le_trans (cut_sub _ b a).length_le hcl1
                  have HMC2 := Lib.hid (HMC.out.sub ((cut_sub (cut cur a b) b a).trans (cut_sub cur a b)))
                  clear ho10 hb10
                  go_wp2_with fail
                  refine ⟨⟨k + 1, rs ++ [⟨[a, b], [items cur a b, items cur b a]⟩], cut (cut cur a b) b a, cs ++ [(.slice (some ⟨g4, 0, none⟩) 2 2, .slice (some ⟨w6.heap.size, 0, none⟩) 2 2)], hlk, rfl, HMC2.out, by omega, by rw [List.length_append]; simp; omega, by rw [List.length_append]; simp; omega, HPX.out, HM10.out⟩, by simp only [intOf]; omega⟩
            · obtain rfl : k = os.length := by omega -- ARM kend
              have hki : ¬ ((os.length : Int) < (os.length : Int)) := by omega
              rw [todo_end] at hps
              have HPS := Lib.hid hps
              have HM := Lib.hid hM
              have HMC := Lib.hid hmc
              clear hps hM hmc
              go_wp2_with fail
              exact ⟨⟨i + 1, rs, cur, cs, hli, by first | rfl | rw [ei], HMC.out, hcl, hc400, by omega, HPS.out, HM.out⟩, by first | (simp only [intOf]; omega) | (rw [ei]; simp only [intOf]; omega)⟩
        · obtain rfl : i = os.length := by omega -- ARM circ
          have hii : ¬ ((os.length : Int) < (os.length : Int)) := by omega
          rw [List.drop_length] at hps
          have hcst : CircSt xs os rs cur 0 := by
            rw [HALL.out] at hps ⊢
            exact CircSt.start hps hcl
          have HCS := Lib.hid hcst
          have HM := Lib.hid hM
          have HMC := Lib.hid hmc
          have hcur := hmc.len
          clear hps hM hmc hcst
          go_wp2_with fail
          go_loopw [0, 6, 11] (fun vL vO iv wr => ∃ (i : Nat) (rs : List RingD) (cur : List NetD) (cs : List (Value × Value)), i ≤ os.length ∧ iv = .int .i64 i ∧ MayX cur ∧ cs.length + cur.length ≤ 500 ∧ CircSt xs os rs cur i ∧ RfM w (.slice AA os.length cA) vO vL os rs cur cs wr) (fun vL _ iv _ => lenOf vL * 100 + (50 - (intOf iv).toNat))
          case atStart => exact ⟨0, rs, cur, cs, Nat.zero_le _, rfl, HMC.out, by omega, HCS.out, HM.out⟩
          case round =>
            obtain ⟨i, rs, cur, cs, hi, rfl, hmc, hcs5, hst, hM⟩ := hrel
            have hin0 : (0 : Int) ≤ (i : Int) := Int.natCast_nonneg _
            obtain ⟨AL, cL, rfl, hnL⟩ := hM.nets.at_
            obtain ⟨AO, cO, rfl⟩ := own_shape hM.own
            clear HCS HM HMC
            by_cases hli : i < os.length
            · have hii : (i : Int) < (os.length : Int) := by omega -- ARM one
              have ei : IntKind.i64.wrap ((i : Int) + 1) = (i : Int) + 1 := by rw [IntKind.wrap_i64]; omega
              obtain ⟨bA, oA, cA', hvA, _, hzA, _, hcA⟩ := rdT_int hM.all_ (by omega)
              injection hvA with hvA _ hcc
              subst hvA hcc
              have q0 := hcA i hli
              rw [← getD_eq hli 0] at q0
              obtain ⟨s, hs⟩ : ∃ s, s = os.getD i 0 := ⟨_, rfl⟩
              rw [← hs] at q0
              have HSS := Lib.hid hs
              have HST := Lib.hid hst
              have HM := Lib.hid hM
              have HMC := Lib.hid hmc
              have HNL := Lib.hid hnL
              have hlen2 := hmc.len
              clear hst hM hmc hcA hs hnL
              go_wp2_with fail
              refine (refcircle_any cur AL cL os (some ⟨bA, oA, none⟩) cA s wr HNL.out HMC.out HM.out.all_ (by omega)).mono ?_
              rintro e w1 ⟨vC, rfl, hoC, hb1⟩
              have HM1 := Lib.hid (HM.out.below hb1)
              have HNL1 := Lib.hid (fun (W' : World) (hb : Below w1.heap.size w1 W') (hn : 0 < cur.length) => by
                obtain ⟨b', o', e, hN⟩ := HNL.out hn
                exact ⟨b', o', e, (hN.below hb1).below hb⟩ : ∀ W', Below w1.heap.size w1 W' → 0 < cur.length → ∃ b o, AL = some ⟨b, o, none⟩ ∧ NetAt W' cur b o)
              have hcs0 : circleL cur os (os.getD i 0) = [] → CircSt xs os rs cur (i + 1) := fun h => HST.out.skip hli h
              have hch : circleL cur os (os.getD i 0) ≠ [] → _ := fun h => HST.out.hit hli h
              have hcc : circleL cur os s ≠ [] → Circ cur (circleL cur os s) ∧ ∀ x ∈ circleL cur os s, x = s ∨ x ∈ os := fun h => ⟨(circleL_some h).1, (circleL_some h).2.2⟩
              rw [← HSS.out] at hcs0 hch
              obtain ⟨C, hC⟩ : ∃ C, C = circleL cur os s := ⟨_, rfl⟩
              rw [← hC] at hoC hcs0 hch hcc
              obtain ⟨AC, cC, rfl⟩ := own_shape hoC
              clear HM HNL q0 hzA hC
              by_cases hC0 : C = []
              case pos => -- ARM skip
                subst hC0
                have HCS0 := Lib.hid (hcs0 rfl)
                clear hcs0 hch hcc hoC hb1
                simp only [List.length_nil]
                go_wp2_with fail
                exact ⟨⟨i + 1, rs, cur, cs, hli, rfl, HMC.out, hcs5, HCS0.out, HM1.out⟩, by simp only [intOf, lenOf]; omega⟩
              case neg => -- ARM ring
                obtain ⟨hnx, hnlt⟩ := hch hC0
                have hci := hcc hC0
                have hpos : 0 < C.length := List.length_pos_iff.2 hC0
                have hC100 : C.length ≤ 17 := Nat.le_trans (nodup_le hci.1.nd hci.2) (by omega)
                obtain ⟨gC, rfl, hgC, hcC⟩ := own_ints hoC hpos rfl
                have HPC := Lib.hid (show PartsAt w1 (.slice (some ⟨gC, 0, none⟩) C.length cC) C from RdT.own hoC)
                have HNX := Lib.hid hnx
                obtain ⟨n, hn⟩ : ∃ n, n = C.length := ⟨_, rfl⟩
                have HN := Lib.hid hn
                have HCC := Lib.hid (fun k (hk : k < n) => (by rw [hcC k (by omega), getD_eq (by omega)] : w1.cell? ⟨gC, k, none⟩ = some (.int .i64 (C.getD k 0))))
                rw [← hn] at hpos hC100 ⊢
                have d0 : ((n : Int) == 0) = false := by simp; omega
                have d1 : decide ((n : Int) = 0) = false := decide_eq_false (by omega)
                have d2 : (n == 0) = false := by simp; omega
                have d3 : decide (n = 0) = false := decide_eq_false (by omega)
                clear hcs0 hch hcc hnx hci hoC hb1 hcC hC0 hn
                go_wp2_with fail
                clear d0 d1 d2 d3
                have hBr := (Below.refl w1.heap.size w1).alloc (Nat.le_refl _) (.cells #[.slice (some ⟨gC, 0, none⟩) n cC, .slice none 0 0] 32)
                have hKr := Blk.new w1 32 #[.slice (some ⟨gC, 0, none⟩) n cC, .slice none 0 0]
                have HBr := Lib.hid hBr
                have HKr := Lib.hid hKr
                obtain ⟨gr, hgr⟩ : ∃ gr, gr = w1.heap.size := ⟨_, rfl⟩
                rw [← hgr] at HBr HKr hgC ⊢
                have HGR := Lib.hid hgr.symm
                clear hBr hKr hgr
                have HIT := Lib.hid (fun (f u : Int) (W' : World) (hb : Below gr w1 W') => items_any cur AL cL f u W' (HNL1.out W' (by rw [HGR.out]; exact hb)) hlen2 (pick_apart HMC.out f u))
                go_loopw [14] (fun kv wq => ∃ (m : Nat) (vs : List Value) (Al : Option Addr) (cl : Nat), m ≤ n ∧ kv = .int .i64 m ∧ Blk wq gr 32 #[.slice (some ⟨gC, 0, none⟩) n cC, .slice Al m cl] ∧ wq.ownsRow gr 33 1 (.slice Al m cl) m vs ∧ (∀ (k : Nat) (u : Value), vs[k]? = some u → LegAt wq u (items cur (C.getD k 0) (nextOf C k))) ∧ Below gr w1 wq) (fun kv _ => n - (intOf kv).toNat)
                case atStart => exact ⟨0, [], none, 0, Nat.zero_le _, rfl, HKr.out, World.ownsRow_nil _ _ _ _, fun k u hu => by simp at hu, HBr.out⟩
                case round =>
                  obtain ⟨m, vs, Al, cl, hm, rfl, hK, hol, hlg, hbq⟩ := hrel
                  have hm0 : (0 : Int) ≤ (m : Int) := Int.natCast_nonneg _
                  clear HBr HKr
                  by_cases hlm : m < n
                  · have hmi : (m : Int) < (n : Int) := by omega -- ARM leg
                    have em : IntKind.i64.wrap ((m : Int) + 1) = (m : Int) + 1 := by rw [IntKind.wrap_i64]; omega
                    obtain ⟨nx, hnx⟩ : ∃ nx, nx = (m + 1) % n := ⟨_, rfl⟩
                    have hmod : ((m : Int) + 1) % (n : Int) = (nx : Int) := by rw [hnx, Int.natCast_emod, Int.natCast_add]; rfl
                    have hnxl : nx < n := by rw [hnx]; exact Nat.mod_lt _ hpos
                    have hnxi : (nx : Int) < (n : Int) := by omega
                    have hnx0 : (0 : Int) ≤ (nx : Int) := Int.natCast_nonneg _
                    have hn0 : ¬ n = 0 := by omega
                    have pm := (hbq.cell (p := ⟨gC, m, none⟩) hgC).trans (HCC.out m hlm)
                    have pn := (hbq.cell (p := ⟨gC, nx, none⟩) hgC).trans (HCC.out nx hnxl)
                    obtain ⟨p, hp⟩ : ∃ p, p = C.getD m 0 := ⟨_, rfl⟩
                    obtain ⟨q, hq⟩ : ∃ q, q = C.getD nx 0 := ⟨_, rfl⟩
                    have HQ := Lib.hid (show nextOf C m = q from by rw [hq, hnx, HN.out]; rfl)
                    rw [← hp] at pm
                    rw [← hq] at pn
                    have HP := Lib.hid hp
                    have z1 := hK.cell 1
                    simp at z1
                    have hgrW := hK.lt
                    have hgCW := Nat.lt_trans hgC hgrW
                    have hvl := hol.1
                    have HK := Lib.hid hK
                    have HOL := Lib.hid hol
                    have HLG := Lib.hid hlg
                    have HBQ := Lib.hid hbq
                    clear hnx hp hq hK hol hlg hbq
                    go_wp2_with fail
                    clear pn hmod hnxl hnxi hnx0 hn0
                    have hitl : (items cur p q).length ≤ 100 := Nat.le_trans (items_le _ _ _) hlen2
                    go_region_law (first
                      | (go_simp; go_at_call 23; refine (HIT.out p q _ HBQ.out.drew).mono ?_; rintro e w5 ⟨v5, rfl, ho5, hb5⟩; obtain ⟨A5, c5, rfl⟩ := own_shape ho5; have K5 := HK.out.drew.below hb5 hgrW; have y1 := K5.cell 1; simp at y1; have hgr5 := K5.lt; have y2 := (hb5.cell (p := ⟨gC, m, none⟩) hgCW).trans pm; have O5 := own_below HOL.out.drew hb5; have B5 := HBQ.out.drew.trans (hb5.mono (Nat.le_of_lt hgrW)); have V5 : LegAt w5 (.slice A5 (items cur p q).length c5) (items cur p q) := RdT.own ho5)
                      | (go_must (refine step_append_any _ rfl (.tmp 126) (.tmp 134) 30 rfl gr 33 il _ 1 24 Try.underlying30 hil hl0 hl1 hl2 rfl (by omega) (.slice Al m cl) m vs (by simp [Act.eval, Act.put]) (O5.alloc (.cells #[.slice A5 (items cur p q).length c5] 33)) (w5.heap.size + 1) (some ⟨w5.heap.size, 0, none⟩) 1 1 [.slice A5 (items cur p q).length c5] (by simp [Act.eval, Act.put]) (reads_one w5 33 (.slice A5 (items cur p q).length c5)) (by simp [Value.oneCell']) (by simp only [maxLen]; omega) (by omega) (by simp; omega) ?_); intro v6 w6 hown6 hg6 hat6; obtain ⟨A6, c6, rfl⟩ := own_shape hown6; have ng : some gr ≠ (Value.slice Al m cl).ownBlock := fun e => own_blk_ne O5 K5 (by decide) e.symm; have K6 := (K5.alloc (.cells #[.slice A5 (items cur p q).length c5] 33)).grown hg6 ng; have f6 := K6.frozen 1; have n6 := K6.lt; have v61 := K6.cell 1; simp at v61))
                    all_goals
                      obtain ⟨L1, L2, L3, L4⟩ := lg_step (wr := wr.drew) (f := fun k => items cur (C.getD k 0) (nextOf C k)) K5 O5 hown6 hg6 B5 (fun k u hu => HLG.out k u hu) hb5 (by rw [HQ.out, ← HP.out]; exact V5)
                      obtain ⟨W7, hW7⟩ : ∃ W7, W7 = w6.setCell ⟨gr, 1, none⟩ (.slice A6 (m + 1) c6) := ⟨_, rfl⟩
                      rw [← hW7] at L1 L2 L3 L4 ⊢
                      have LL := Lib.hid (And.intro L1 (And.intro L2 (And.intro L3 L4)))
                      clear L1 L2 L3 L4 hW7 hown6 hg6 hat6 K5 O5 B5 V5 hb5 K6 f6 n6 v61 y1 y2 hgr5 ng z1 pm
                      go_wp2_with fail
                      exact ⟨⟨m + 1, _, A6, c6, hlm, rfl, LL.out.1, LL.out.2.1, LL.out.2.2.1, LL.out.2.2.2⟩, by simp only [intOf]; omega⟩
                  · obtain rfl : m = n := by omega -- ARM cuts
                    have hmi : ¬ ((m : Int) < (m : Int)) := by omega
                    have hbq' : Below w1.heap.size w1 wr := by rw [HGR.out]; exact hbq
                    have hCm : C.length = m := HN.out.symm
                    have HRG := Lib.hid (show RingAt wr (.slice (some ⟨gC, 0, none⟩) m cC) (.slice Al m cl) (ringOf cur C) from by
                      refine ⟨?_, ?_⟩
                      · have := RdT.kept HPC.out (TK.of_below hbq')
                        rw [hCm] at this
                        show RdT wr 3 1 (.slice (some ⟨gC, 0, none⟩) m cC) C.length (iCells C)
                        rw [hCm]
                        exact this
                      · have hll : (ringOf cur C).legs.length = m := by simp [ringOf, hCm]
                        refine legs_of (base := gr) (vs := vs) (by rw [hll]; exact hol) (fun k u hu is his => ?_)
                        have hk : k < m := by
                          have := (List.getElem?_eq_some_iff.1 his).1
                          rwa [hll] at this
                        have : is = items cur (C.getD k 0) (nextOf C k) := by
                          unfold ringOf at his
                          rw [List.getElem?_map, List.getElem?_range (by omega)] at his
                          simpa using his.symm
                        rw [this]
                        exact hlg k u hu)
                    have HM2 := Lib.hid (HM1.out.below hbq')
                    have HK2 := Lib.hid hK
                    have HCC2 := Lib.hid (fun k (hk : k < m) => ((hbq.cell (p := ⟨gC, k, none⟩) hgC).trans (HCC.out k hk) : wr.cell? ⟨gC, k, none⟩ = some (.int .i64 (C.getD k 0))))
                    have hgC2 : gC < wr.heap.size := Nat.lt_trans hgC hK.lt
                    clear hK hol hlg hbq hbq' hCm
                    go_wp2_with fail
                    go_loopw [0, 16] (fun vL kv wq => ∃ k : Nat, k ≤ m ∧ kv = .int .i64 k ∧ NetsV w.heap.size wq vL (cutN cur C k) ∧ Below wr.heap.size wr wq) (fun _ kv _ => m - (intOf kv).toNat)
                    case atStart => exact ⟨0, Nat.zero_le _, rfl, HM2.out.nets, Below.refl _ _⟩
                    case round =>
                      obtain ⟨k, hkm, rfl, hnv, hbk⟩ := hrel
                      have hk0 : (0 : Int) ≤ (k : Int) := Int.natCast_nonneg _
                      obtain ⟨Am, cm, rfl, hnm⟩ := hnv.at_
                      by_cases hlk : k < m
                      · have hki : (k : Int) < (m : Int) := by omega -- ARM cut
                        have ek : IntKind.i64.wrap ((k : Int) + 1) = (k : Int) + 1 := by rw [IntKind.wrap_i64]; omega
                        obtain ⟨nx, hnx⟩ : ∃ nx, nx = (k + 1) % m := ⟨_, rfl⟩
                        have hmod : ((k : Int) + 1) % (m : Int) = (nx : Int) := by rw [hnx, Int.natCast_emod, Int.natCast_add]; rfl
                        have htm : ((k : Int) + 1).tmod (m : Int) = (nx : Int) := (Int.tmod_eq_emod_of_nonneg (by omega)).trans hmod
                        have hnxl : nx < m := by rw [hnx]; exact Nat.mod_lt _ hpos
                        have hnxi : (nx : Int) < (m : Int) := by omega
                        have hnx0 : (0 : Int) ≤ (nx : Int) := Int.natCast_nonneg _
                        have hn0 : ¬ m = 0 := by omega
                        have pm := (hbk.cell (p := ⟨gC, k, none⟩) hgC2).trans (HCC2.out k hlk)
                        have pn := (hbk.cell (p := ⟨gC, nx, none⟩) hgC2).trans (HCC2.out nx hnxl)
                        have hgC3 := Nat.lt_of_lt_of_le hgC2 hbk.size
                        obtain ⟨p, hp⟩ : ∃ p, p = C.getD k 0 := ⟨_, rfl⟩
                        obtain ⟨q, hq⟩ : ∃ q, q = C.getD nx 0 := ⟨_, rfl⟩
                        have HCT := Lib.hid (show cutN cur C (k + 1) = cut (cutN cur C k) p q from by rw [cutN_succ, hp, hq, hnx, HN.out]; rfl)
                        have hcl : (cutN cur C k).length ≤ 100 := Nat.le_trans (cutN_sub cur C k).length_le hlen2
                        obtain ⟨Y, hY⟩ : ∃ Y, Y = cutN cur C k := ⟨_, rfl⟩
                        rw [← hp] at pm
                        rw [← hq] at pn
                        rw [← hY] at HCT hcl hnm ⊢
                        have HNM := Lib.hid hnm
                        have HBK := Lib.hid hbk
                        clear hnx hp hq hY hnv hnm hbk
                        go_wp2_with fail
                        refine wp_region_still_tail 13 (by kernel_rfl) (by kernel_rfl) ?_
                        simp only [List.take_succ_cons, List.take_zero, List.drop_succ_cons, List.drop_zero]
                        iterate 13 still_step
                        refine wpStill_nil ?_
                        change wpList _ _ _ _ _ (World.drew wr)
                        clear pm pn hmod htm hnxl hnxi hnx0 hn0
                        go_wp2_with fail
                        refine (without_any Y Am cm p q wr.drew (fun hn => by
                          obtain ⟨b', o', e, hN⟩ := HNM.out hn
                          exact ⟨b', o', e, hN.below (Below.refl _ _).drew⟩) hcl).mono ?_
                        rintro e w5 ⟨v5, rfl, ho5, hb5⟩
                        have HN5 := Lib.hid (show NetsV w.heap.size w5 v5 (cutN cur C (k + 1)) from by rw [HCT.out]; exact NetsV.own ho5)
                        have HB5 := Lib.hid (HBK.out.drew.trans (hb5.mono HBK.out.drew.size))
                        clear ho5 hb5
                        go_wp2_with fail
                        exact ⟨⟨k + 1, hlk, rfl, HN5.out, HB5.out⟩, by simp only [intOf]; omega⟩
                      · obtain rfl : k = m := by omega -- ARM push
                        have hki : ¬ ((k : Int) < (k : Int)) := by omega
                        have hcA : cutN cur C k = cutAll cur C := by rw [HN.out]; rfl
                        rw [hcA] at hnv
                        have HM3 := Lib.hid ((HM2.out.below hbk).turn hnv)
                        have K3 := HK2.out.below hbk HK2.out.lt
                        have HR3 := Lib.hid (HRG.out.kept (TK3.of_below hbk))
                        have z0 := K3.cell 0
                        have z1 := K3.cell 1
                        simp at z0 z1
                        have z2 := K3.lt
                        have hcs1 : cs.length + 1 ≤ 600 := by omega
                        have HMC2 := Lib.hid (HMC.out.sub (cutN_sub cur C C.length))
                        rw [hcA]
                        clear hnv hbk K3 hnm hcA
                        go_wp2_with (at_builtin; refine wpList_append_any _ rfl (.tmp 157) (.tmp 159) _ rfl w.heap.size 32 ir _ 2 48 Try.underlying25 hir hr0 hr1 hr2 rfl (by omega) (.slice AO cs.length cO) cs.length (rCells cs) rfl (own_below HM3.out.own ((Below.refl _ _).alloc (Nat.le_refl _) _)) (wr.heap.size + 1) (some ⟨wr.heap.size, 0, none⟩) 1 1 [.slice (some ⟨gC, 0, none⟩) k cC, .slice Al k cl] rfl (reads_ring1 wr _ _ _) (by simp [Value.oneCell']) (by simp only [maxLen]; omega) (by omega) (by have := HM3.out.bel.size; simp; omega) ?_; intro v8 w8 hown8 hg8 hat8)
                        have HM8 := Lib.hid (HM3.out.push HR3.out hown8 hg8)
                        clear hown8 hg8 hat8
                        refine ⟨⟨0, rs ++ [ringOf cur C], cutAll cur C, cs ++ [(.slice (some ⟨gC, 0, none⟩) k cC, .slice Al k cl)], Nat.zero_le _, by first | rfl | simp, HMC2.out, by rw [List.length_append]; simp; omega, HNX.out, HM8.out⟩, by simp only [intOf, lenOf]; omega⟩
            · obtain rfl : i = os.length := by omega -- ARM over
              have hii : ¬ ((os.length : Int) < (os.length : Int)) := by omega
              have hov := hst.done
              have HOV := Lib.hid hov
              have HM := Lib.hid hM
              clear hst hM hmc hnL hov
              go_wp2_with fail
              go_ret2
              refine ⟨_, _, rfl, ?_, ?_, HM.out.bel⟩
              · rw [HOV.out]
                exact ⟨_, _, HM.out.own, HM.out.ri⟩
              · rw [HOV.out]
                exact HM.out.nets.at_
end Go.Proofs.Ythoniedmeeahgaa
