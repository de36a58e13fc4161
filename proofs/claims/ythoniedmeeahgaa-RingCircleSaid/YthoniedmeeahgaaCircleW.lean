/-
  RingCircle: one circle of parties, in whatever order it is told; the walk.
-/
import Derived.Test.YthoniedmeeahgaaSameNets
import Derived.Test.YthoniedmeeahgaaRingRd
import Derived.Test.YthoniedmeeahgaaCircleLaw
namespace Go.Proofs.Ythoniedmeeahgaa
open Go.RowKit Go.Maps

theorem and_one : ∀ k : Nat, k < 16 → bits .and .i64 (k : Nat) 1 = ((k % 2 : Nat) : Int) := by decide +kernel
theorem circF_len (n a : Nat) (gap : Bool) : ∀ i, (circF n a gap i).length ≤ i := by
  intro i
  induction i with
  | zero => simp [circF]
  | succ i ih =>
    rw [circF]
    split
    · omega
    · rw [List.length_append]
      simp
      omega
theorem nCells_snoc' (xs : List NetD) (x : NetD) : nCells (xs ++ [x]) = nCells xs ++ encN x := by simp [nCells]
theorem reads_net0 (w : World) (t : TypeId) (x : NetD) : Reads (w.alloc (.cells #[.int .i64 x.f, .int .i64 x.t, .int .i64 x.l, .int .i64 x.a, .int .i64 x.n] t)) (w.heap.size + 1) 5 (some ⟨w.heap.size, 0, none⟩) 1 (encN x) := by
  refine ⟨rfl, fun _ => ⟨_, rfl, by simp, fun j u hu => ?_⟩⟩
  have hb := Blk.new w t #[.int .i64 x.f, .int .i64 x.t, .int .i64 x.l, .int .i64 x.a, .int .i64 x.n]
  rw [Addr.add_lit, Nat.zero_add, hb.cell, ← hu]
  simp [encN]
theorem below_own1 {w wr w6 : World} {A : Option Addr} {n c e size : Nat} {xs : List Value} {o : Obj} (ho : wr.ownsRow w.heap.size e size (.slice A n c) n xs) (hb : Below w.heap.size w wr) (hg : (wr.alloc o).grownBy w6 (Value.slice A n c).ownBlock) : Below w.heap.size w w6 :=
  (hb.alloc hb.size o).grown hg (Nat.le_trans hb.size (by simp)) (fun j hj => (own_block ho hj).1)
set_option maxRecDepth 100000 in
set_option maxHeartbeats 16000000 in
theorem circle_law (n a : Int) (gap : Bool) (w : World) : Calls Try.prog 5 #[.int .i64 n, .int .i64 a, .bool gap] w fun e w' => e = .returned (.bool true) ∧ Below w.heap.size w w' := by
  obtain ⟨ix, hix, hx0, hx1, hx2⟩ := info_parts net_row
  go_enter Try.func5, Try.ntmps5
  go_wp2_with fail
  refine (first_any w).mono ?_
  rintro e w1 ⟨rfl, hb1⟩
  have HB1 := Lib.hid hb1
  clear hb1
  by_cases m0 : n < 3
  case pos => -- ARM bad0
    have d0 : decide (n < 3) = true := decide_eq_true m0
    clear m0
    go_wp2_with fail
    refine (first_any _).mono ?_
    rintro e w2 ⟨rfl, hb2⟩
    go_wp2_with fail
    go_ret
    exact ⟨rfl, HB1.out.trans (hb2.mono HB1.out.size)⟩
  by_cases m1 : 16 < n
  case pos => -- ARM bad1
    have d0 : decide (n < 3) = false := decide_eq_false m0
    have d1 : decide (16 < n) = true := decide_eq_true m1
    clear m0 m1
    go_wp2_with fail
    refine (first_any _).mono ?_
    rintro e w2 ⟨rfl, hb2⟩
    go_wp2_with fail
    go_ret
    exact ⟨rfl, HB1.out.trans (hb2.mono HB1.out.size)⟩
  by_cases m2 : a < 0
  case pos => -- ARM bad2
    have d0 : decide (n < 3) = false := decide_eq_false m0
    have d1 : decide (16 < n) = false := decide_eq_false m1
    have d2 : decide (a < 0) = true := decide_eq_true m2
    clear m0 m1 m2
    go_wp2_with fail
    refine (first_any _).mono ?_
    rintro e w2 ⟨rfl, hb2⟩
    go_wp2_with fail
    go_ret
    exact ⟨rfl, HB1.out.trans (hb2.mono HB1.out.size)⟩
  by_cases m3 : n ≤ a
  case pos => -- ARM bad3
    have d0 : decide (n < 3) = false := decide_eq_false m0
    have d1 : decide (16 < n) = false := decide_eq_false m1
    have d2 : decide (a < 0) = false := decide_eq_false m2
    have d3 : decide (n ≤ a) = true := decide_eq_true m3
    clear m0 m1 m2 m3
    go_wp2_with fail
    refine (first_any _).mono ?_
    rintro e w2 ⟨rfl, hb2⟩
    go_wp2_with fail
    go_ret
    exact ⟨rfl, HB1.out.trans (hb2.mono HB1.out.size)⟩
  obtain ⟨N, rfl⟩ : ∃ N : Nat, n = (N : Int) := ⟨n.toNat, by omega⟩ -- ARM go
  obtain ⟨a, rfl⟩ : ∃ a' : Nat, a = (a' : Int) := ⟨a.toNat, by omega⟩
  have d0 : decide ((N : Int) < 3) = false := decide_eq_false m0
  have d1 : decide ((16 : Int) < (N : Int)) = false := decide_eq_false m1
  have d2 : decide ((a : Int) < 0) = false := decide_eq_false m2
  have d3 : decide ((N : Int) ≤ (a : Int)) = false := decide_eq_false m3
  have d3' : decide (N ≤ a) = false := decide_eq_false (by omega)
  have hN3 : 3 ≤ N := by omega
  have hN16 : N ≤ 16 := by omega
  have haN : a < N := by omega
  have HOK := Lib.hid (circ_ok hN3 hN16 haN gap)
  clear m0 m1 m2 m3
  go_wp2_with fail
  clear d0 d1 d2 d3 d3'
  go_loopw [7, 8] (fun v i wr => ∃ i' : Nat, i' ≤ N ∧ i = .int .i64 i' ∧ wr.ownsRow w1.heap.size 38 5 v (circF N a gap i').length (nCells (circF N a gap i')) ∧ Below w1.heap.size w1 wr) (fun _ i _ => N - (intOf i).toNat)
  case atStart => exact ⟨0, Nat.zero_le _, rfl, World.ownsRow_nil _ _ _ _, Below.refl _ _⟩
  case round =>
    obtain ⟨i, hi, rfl, ho, hb⟩ := hrel
    have hi0 : (0 : Int) ≤ (i : Int) := Int.natCast_nonneg _
    by_cases hli : i < N
    · have hii : (i : Int) < (N : Int) := by omega -- ARM one
      have hil : i < 16 := by omega
      have ei : IntKind.i64.wrap ((i : Int) + 1) = (i : Int) + 1 := by rw [IntKind.wrap_i64]; omega
      have e5 : IntKind.i64.wrap (5 * (i : Int)) = 5 * (i : Int) := by rw [IntKind.wrap_i64]; omega
      have e6 : IntKind.i64.wrap (5 * (i : Int) + (a : Int)) = 5 * (i : Int) + (a : Int) := by rw [IntKind.wrap_i64]; omega
      have e7 : IntKind.i64.wrap ((i : Int) + (a : Int)) = (i : Int) + (a : Int) := by rw [IntKind.wrap_i64]; omega
      obtain ⟨ka, hka⟩ : ∃ k, k = (5 * i + a) % N := ⟨_, rfl⟩
      obtain ⟨kb, hkb⟩ : ∃ k, k = (i + a) % N := ⟨_, rfl⟩
      obtain ⟨m5, hm5⟩ : ∃ k, k = N % 5 := ⟨_, rfl⟩
      have hma : (5 * (i : Int) + (a : Int)) % (N : Int) = (ka : Int) := by rw [hka]; simp
      have hmb : ((i : Int) + (a : Int)) % (N : Int) = (kb : Int) := by rw [hkb]; simp
      have hmc : (N : Int) % 5 = (m5 : Int) := by rw [hm5]; simp
      have hkal : ka < N := by rw [hka]; exact Nat.mod_lt _ (by omega)
      have hkbl : kb < N := by rw [hkb]; exact Nat.mod_lt _ (by omega)
      have hN0 : ¬ ((N : Int) = 0) := by omega
      have hkd : kOf N a i = if m5 = 0 then kb else ka := by rw [hm5, hka, hkb]; rfl
      have hst : circF N a gap (i + 1) = if gap = true ∧ kOf N a i = 1 then circF N a gap i else circF N a gap i ++ [netK N (kOf N a i)] := rfl
      have hcl := circF_len N a gap i
      obtain ⟨X, hX⟩ : ∃ X, X = circF N a gap i := ⟨_, rfl⟩
      rw [← hX] at ho hst hcl
      rw [hkd] at hst
      have HO := Lib.hid ho
      have HB := Lib.hid hb
      obtain ⟨Av, cv, rfl⟩ := own_shape ho
      clear hka hkb hm5 hkd hX ho hb
      by_cases h5 : m5 = 0
      case pos => -- ARM five
        have f1 : ((m5 : Int) == 0) = true := by simp; omega
        have f2 : decide ((m5 : Int) = 0) = true := decide_eq_true (by omega)
        have f3 : (m5 == 0) = true := by simpa using h5
        have f4 : decide (m5 = 0) = true := decide_eq_true h5
        rw [if_pos h5] at hst
        clear h5
        obtain ⟨k, rfl⟩ : ∃ k, k = kb := ⟨_, rfl⟩
        by_cases hg : gap = true ∧ k = 1
        case pos => -- ARM skip5
          obtain ⟨rfl, rfl⟩ := hg
          rw [if_pos ⟨rfl, rfl⟩] at hst
          have HST := Lib.hid hst
          clear hst
          go_wp2_with fail
          exact ⟨⟨i + 1, hli, rfl, by rw [HST.out]; exact HO.out, HB.out⟩, by simp only [intOf]; omega⟩
        case neg => -- ARM add5
          rw [if_neg hg] at hst
          have HST := Lib.hid hst
          clear hst
          have hkl : k < N := by assumption
          have e8 : IntKind.i64.wrap ((k : Int) + 1) = (k : Int) + 1 := by rw [IntKind.wrap_i64]; omega
          obtain ⟨kt, hkt⟩ : ∃ q, q = (k + 1) % N := ⟨_, rfl⟩
          have hmd : ((k : Int) + 1) % (N : Int) = (kt : Int) := by rw [hkt]; simp
          have ha := and_one k (by omega)
          obtain ⟨k2, hk2⟩ : ∃ q, q = k % 2 := ⟨_, rfl⟩
          rw [← hk2] at ha
          have HNK := Lib.hid (show netK N k = ⟨(k : Int), (kt : Int), (k2 : Int), 0, (k : Int) + 1⟩ from by rw [hkt, hk2]; simp [netK])
          clear hkt hk2
          cases gap with
          | false => -- ARM plain5
            clear hg
            go_wp2_with (at_builtin; refine wpList_append_any _ rfl (.tmp 56) (.tmp 67) _ rfl w1.heap.size 38 ix _ 5 40 Try.underlying22 hix hx0 hx1 hx2 rfl (by omega) (.slice Av X.length cv) X.length (nCells X) rfl (own_below HO.out ((Below.refl _ _).alloc (Nat.le_refl _) _)) (wr.heap.size + 1) (some ⟨wr.heap.size, 0, none⟩) 1 1 (encN ⟨(k : Int), (kt : Int), (k2 : Int), 0, (k : Int) + 1⟩) rfl (reads_net0 wr _ _) (by simp [encN, Value.oneCell']) (by simp only [maxLen]; omega) (by omega) (by have := HB.out.size; simp; omega) ?_; intro v6 w6 hown6 hg6 hat6)
            exact ⟨⟨i + 1, hli, rfl, by rw [HST.out, HNK.out, nCells_snoc', List.length_append]; exact hown6, below_own1 HO.out HB.out hg6⟩, by simp only [intOf]; omega⟩
          | true => -- ARM other5
            have hk1 : ¬ k = 1 := fun e => hg ⟨rfl, e⟩
            have g1 : ((k : Int) == 1) = false := by simp; omega
            have g2 : decide ((k : Int) = 1) = false := decide_eq_false (by omega)
            have g3 : (k == 1) = false := by simpa using hk1
            have g4 : decide (k = 1) = false := decide_eq_false hk1
            clear hg hk1
            go_wp2_with (at_builtin; refine wpList_append_any _ rfl (.tmp 56) (.tmp 67) _ rfl w1.heap.size 38 ix _ 5 40 Try.underlying22 hix hx0 hx1 hx2 rfl (by omega) (.slice Av X.length cv) X.length (nCells X) rfl (own_below HO.out ((Below.refl _ _).alloc (Nat.le_refl _) _)) (wr.heap.size + 1) (some ⟨wr.heap.size, 0, none⟩) 1 1 (encN ⟨(k : Int), (kt : Int), (k2 : Int), 0, (k : Int) + 1⟩) rfl (reads_net0 wr _ _) (by simp [encN, Value.oneCell']) (by simp only [maxLen]; omega) (by omega) (by have := HB.out.size; simp; omega) ?_; intro v6 w6 hown6 hg6 hat6)
            exact ⟨⟨i + 1, hli, rfl, by rw [HST.out, HNK.out, nCells_snoc', List.length_append]; exact hown6, below_own1 HO.out HB.out hg6⟩, by simp only [intOf]; omega⟩
      case neg => -- ARM rest
        have f1 : ((m5 : Int) == 0) = false := by simp; omega
        have f2 : decide ((m5 : Int) = 0) = false := decide_eq_false (by omega)
        have f3 : (m5 == 0) = false := by simpa using h5
        have f4 : decide (m5 = 0) = false := decide_eq_false h5
        rw [if_neg h5] at hst
        clear h5
        obtain ⟨k, rfl⟩ : ∃ k, k = ka := ⟨_, rfl⟩
        by_cases hg : gap = true ∧ k = 1
        case pos => -- ARM skipR
          obtain ⟨rfl, rfl⟩ := hg
          rw [if_pos ⟨rfl, rfl⟩] at hst
          have HST := Lib.hid hst
          clear hst
          go_wp2_with fail
          exact ⟨⟨i + 1, hli, rfl, by rw [HST.out]; exact HO.out, HB.out⟩, by simp only [intOf]; omega⟩
        case neg => -- ARM addR
          rw [if_neg hg] at hst
          have HST := Lib.hid hst
          clear hst
          have hkl : k < N := by assumption
          have e8 : IntKind.i64.wrap ((k : Int) + 1) = (k : Int) + 1 := by rw [IntKind.wrap_i64]; omega
          obtain ⟨kt, hkt⟩ : ∃ q, q = (k + 1) % N := ⟨_, rfl⟩
          have hmd : ((k : Int) + 1) % (N : Int) = (kt : Int) := by rw [hkt]; simp
          have ha := and_one k (by omega)
          obtain ⟨k2, hk2⟩ : ∃ q, q = k % 2 := ⟨_, rfl⟩
          rw [← hk2] at ha
          have HNK := Lib.hid (show netK N k = ⟨(k : Int), (kt : Int), (k2 : Int), 0, (k : Int) + 1⟩ from by rw [hkt, hk2]; simp [netK])
          clear hkt hk2
          cases gap with
          | false => -- ARM plainR
            clear hg
            go_wp2_with (at_builtin; refine wpList_append_any _ rfl (.tmp 56) (.tmp 67) _ rfl w1.heap.size 38 ix _ 5 40 Try.underlying22 hix hx0 hx1 hx2 rfl (by omega) (.slice Av X.length cv) X.length (nCells X) rfl (own_below HO.out ((Below.refl _ _).alloc (Nat.le_refl _) _)) (wr.heap.size + 1) (some ⟨wr.heap.size, 0, none⟩) 1 1 (encN ⟨(k : Int), (kt : Int), (k2 : Int), 0, (k : Int) + 1⟩) rfl (reads_net0 wr _ _) (by simp [encN, Value.oneCell']) (by simp only [maxLen]; omega) (by omega) (by have := HB.out.size; simp; omega) ?_; intro v6 w6 hown6 hg6 hat6)
            exact ⟨⟨i + 1, hli, rfl, by rw [HST.out, HNK.out, nCells_snoc', List.length_append]; exact hown6, below_own1 HO.out HB.out hg6⟩, by simp only [intOf]; omega⟩
          | true => -- ARM otherR
            have hk1 : ¬ k = 1 := fun e => hg ⟨rfl, e⟩
            have g1 : ((k : Int) == 1) = false := by simp; omega
            have g2 : decide ((k : Int) = 1) = false := decide_eq_false (by omega)
            have g3 : (k == 1) = false := by simpa using hk1
            have g4 : decide (k = 1) = false := decide_eq_false hk1
            clear hg hk1
            go_wp2_with (at_builtin; refine wpList_append_any _ rfl (.tmp 56) (.tmp 67) _ rfl w1.heap.size 38 ix _ 5 40 Try.underlying22 hix hx0 hx1 hx2 rfl (by omega) (.slice Av X.length cv) X.length (nCells X) rfl (own_below HO.out ((Below.refl _ _).alloc (Nat.le_refl _) _)) (wr.heap.size + 1) (some ⟨wr.heap.size, 0, none⟩) 1 1 (encN ⟨(k : Int), (kt : Int), (k2 : Int), 0, (k : Int) + 1⟩) rfl (reads_net0 wr _ _) (by simp [encN, Value.oneCell']) (by simp only [maxLen]; omega) (by omega) (by have := HB.out.size; simp; omega) ?_; intro v6 w6 hown6 hg6 hat6)
            exact ⟨⟨i + 1, hli, rfl, by rw [HST.out, HNK.out, nCells_snoc', List.length_append]; exact hown6, below_own1 HO.out HB.out hg6⟩, by simp only [intOf]; omega⟩
    · obtain rfl : i = N := by omega -- ARM of
      have hii : ¬ ((i : Int) < (i : Int)) := by omega
      have hcl := circF_len i a gap i
      obtain ⟨Av, cv, rfl⟩ := own_shape ho
      have hok : NsD.ok ⟨Av, (circF i a gap i).length, cv, circF i a gap i⟩ wr := ⟨rfl, Reads.of_own ho⟩
      have HO := Lib.hid ho
      have HB := Lib.hid (HB1.out.trans (hb.mono HB1.out.size))
      have HNS := Lib.hid hok
      have hlf0 := left_row ho
      have hmay := HOK.out.may
      have hrT := HOK.out.ringsT
      have hrF := HOK.out.ringsF
      have hgood := (ringsOf_ok (fun x hx => (hmay.each x hx).ne)).good
      obtain ⟨X, hX⟩ : ∃ X, X = circF i a gap i := ⟨_, rfl⟩
      rw [← hX] at HO HNS hlf0 hmay hrT hrF hgood hcl ⊢
      have HMAY := Lib.hid hmay
      have HRT := Lib.hid hrT
      have HRF := Lib.hid hrF
      have HGD := Lib.hid hgood
      obtain ⟨A', c', hv', hlf1⟩ := hlf0
      injection hv' with hA' _ hc'
      subst hA' hc'
      have HL0 := Lib.hid hlf1
      clear hok ho hb hmay hrT hrF hgood hX hlf1
      go_wp2_with fail
      refine (of_any ⟨Av, X.length, cv, X⟩ _ HNS.out HMAY.out).mono ?_
      rintro e w3 ⟨v1, v2, cs, rfl, ho1, hri, ho2, hb3⟩
      have HB3 := Lib.hid (HB.out.trans (hb3.mono HB.out.size))
      have HBX := Lib.hid hb3
      simp only at ho1 hri ho2
      cases gap with
      | true => -- ARM gap
        rw [HRT.out rfl] at hri ho2
        have hcs : cs.length = 0 := hri.1
        rw [hcs] at ho1
        obtain ⟨A1, c1, rfl⟩ := own_shape ho1
        obtain ⟨A2, c2, rfl, hlf2⟩ := left_row ho2
        have HL2 := Lib.hid hlf2
        clear ho1 ho2 hri hb3 hlf2
        go_wp2_with fail
        refine (first_any _).mono ?_
        rintro e w4 ⟨rfl, hb4⟩
        have HB4 := Lib.hid hb4
        clear hb4
        go_wp2_with fail
        refine (samenets_eq X A2 Av c2 cv w4 (fun hn => ?_) (fun hn => ?_) (by omega)).mono ?_
        · obtain ⟨b, e, hN⟩ := HL2.out hn
          exact ⟨b, 0, e, hN.below HB4.out⟩
        · obtain ⟨b, e, hN⟩ := HL0.out hn
          exact ⟨b, 0, e, (hN.below HBX.out).below HB4.out⟩
        rintro e w5 ⟨rfl, hb5⟩
        go_wp2_with fail
        go_ret
        have h4 := HB3.out.trans (HB4.out.mono HB3.out.size)
        exact ⟨rfl, h4.trans (hb5.mono h4.size)⟩
      | false => -- ARM whole
        have hgr := HGD.out (ringK i) (by rw [HRF.out rfl]; simp)
        rw [HRF.out rfl] at hri ho2
        have hra : RgsAt w3 v1 [ringK i] := ⟨_, cs, ho1, hri⟩
        obtain ⟨A2, c2, rfl, _⟩ := left_row ho2
        obtain ⟨g1, c1, rfl, hg1, hc1⟩ := hra.get (by simp)
        obtain ⟨vp, vl, r0, r1, hrat⟩ := hc1 0 (by simp)
        rw [List.getElem_cons_zero] at hrat
        obtain ⟨bP, oP, cP, bL, oL, cL, rfl, rfl, hrd⟩ := ring_rd hrat hgr.1
        have hpl : (ringK i).ps.length = i := by simp [ringK]
        have hps : ∀ k, k < i → w3.cell? ⟨bP, oP + k, none⟩ = some (.int .i64 (k : Nat)) := fun k hk => by
          have := hrd.ps k (by rw [hpl]; exact hk)
          rw [this, getD_eq (by rw [hpl]; exact hk)]
          simp [ringK]
        have hls : ∀ k, k < i → ∃ bI oI cI, w3.cell? ⟨bL, oL + k, none⟩ = some (.slice (some ⟨bI, oI, none⟩) 1 cI) ∧ bI < w3.heap.size ∧ w3.cell? ⟨bI, oI, none⟩ = some (.int .i64 ((k % 2 : Nat) : Int)) ∧ w3.cell? ⟨bI, oI + 2, none⟩ = some (.int .i64 ((k : Int) + 1)) := fun k hk => by
          obtain ⟨bI, oI, cI, h1, h2, h3⟩ := hrd.legs k (by rw [hpl]; exact hk)
          have e : (ringK i).legs.getD k [] = [⟨(k % 2 : Nat), 0, (k + 1 : Nat)⟩] := by
            rw [getD_eq (by simpa [ringK] using hk)]
            simp [ringK, legK]
          rw [e] at h1
          obtain ⟨i0, _, i2⟩ := h3 0 (by rw [e]; simp)
          simp only [e] at i0 i2
          simp at i0 i2
          exact ⟨bI, oI, cI, h1, h2, by simpa using i0, by simpa using i2⟩
        rw [hpl] at r0 r1
        simp at r0 r1
        have hbP := hrd.bp
        have hbL := hrd.bl
        have HPS := Lib.hid hps
        have HLS := Lib.hid hls
        clear ho1 ho2 hri hb3 hra hc1 hrat hrd hpl hps hls hgr
        have hi3 : 3 ≤ i := hN3
        go_wp2_with fail
        go_loopw [12] (fun z wr => ∃ k : Nat, k ≤ i ∧ z = .int .i64 k ∧ Below w3.heap.size w3 wr) (fun z _ => i - (intOf z).toNat)
        case atStart => exact ⟨0, Nat.zero_le _, rfl, Below.refl _ _⟩
        case round =>
          obtain ⟨k, hk, rfl, hb⟩ := hrel
          have hk0 : (0 : Int) ≤ (k : Int) := Int.natCast_nonneg _
          by_cases hlk : k < i
          · have hki : (k : Int) < (i : Int) := by omega -- ARM leg
            have ek : IntKind.i64.wrap ((k : Int) + 1) = (k : Int) + 1 := by rw [IntKind.wrap_i64]; omega
            have pk := (hb.cell (p := ⟨bP, oP + k, none⟩) hbP).trans (HPS.out k hlk)
            obtain ⟨bI, oI, cI, h1, h2, h3, h4⟩ := HLS.out k hlk
            have lk := (hb.cell (p := ⟨bL, oL + k, none⟩) hbL).trans h1
            have i0 := (hb.cell (p := ⟨bI, oI, none⟩) h2).trans h3
            have i2 := (hb.cell (p := ⟨bI, oI + 2, none⟩) h2).trans h4
            have q0 := (hb.cell (p := ⟨g1, 0, none⟩) hg1).trans r0
            have q1 := (hb.cell (p := ⟨g1, 1, none⟩) hg1).trans r1
            have z1 := Nat.lt_of_lt_of_le hbP hb.size
            have z2 := Nat.lt_of_lt_of_le hbL hb.size
            have z3 := Nat.lt_of_lt_of_le h2 hb.size
            have z4 := Nat.lt_of_lt_of_le hg1 hb.size
            have ha := and_one k (by omega)
            obtain ⟨p2, hp2⟩ : ∃ p, p = k % 2 := ⟨_, rfl⟩
            rw [← hp2] at ha i0
            have HBW := Lib.hid hb
            clear h1 h2 h3 h4 hp2 hb
            go_wp2_with fail
            exact ⟨⟨k + 1, hlk, rfl, HBW.out⟩, by simp only [intOf]; omega⟩
          · obtain rfl : k = i := by omega -- ARM fin
            have hki : ¬ ((k : Int) < (k : Int)) := by omega
            have HBW := Lib.hid hb
            clear hb
            go_wp2_with fail
            refine (first_any _).mono ?_
            rintro e w5 ⟨rfl, hb5⟩
            go_wp2_with fail
            go_ret
            have h4 := HB3.out.trans (HBW.out.mono HB3.out.size)
            exact ⟨rfl, h4.trans (hb5.mono h4.size)⟩
end Go.Proofs.Ythoniedmeeahgaa
