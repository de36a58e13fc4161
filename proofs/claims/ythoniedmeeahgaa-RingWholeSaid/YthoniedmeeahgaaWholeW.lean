/-
  RingWhole: each net is in one ring, or left; the walk.
-/
import Derived.Test.YthoniedmeeahgaaTake
import Derived.Test.YthoniedmeeahgaaRingRd
import Derived.Laws.MakeOwn
import Derived.StillTailTactics
namespace Go.Proofs.Ythoniedmeeahgaa
open Go.RowKit Go.Maps

theorem take_at {A : Option Addr} {c d g : Nat} {xs : List NetD} {us : List Bool} {w3 : World} (hat : 0 < xs.length → ∃ b o, A = some ⟨b, o, none⟩ ∧ NetAt w3 xs b o) (hg3 : w3.heap.size = g) (hlen : us.length = xs.length) (hsz : xs.length ≤ 100) (x : NetD) (hx : x ∈ freeOf xs us) (W : World) (hb : Below g w3 W) (hg : Blk W g 4 (boolV us)) : Calls Try.prog 11 #[.slice A xs.length c, .slice (some ⟨g, 0, none⟩) xs.length d, structN x] W (TakeP W g xs us x) := by
  have h := take_any A c d g xs us x W (fun hn => by
    obtain ⟨b, o, e, hN⟩ := hat hn
    subst hg3
    exact ⟨b, o, e, by have := hN.1; omega, hN.below hb⟩) hg hlen (by omega) hx
  rw [hlen] at h
  exact h
theorem bool_row : (Try.prog.info? 4).map (fun i => (i.zero, i.size, i.bytes)) = some (some (.bool false), 1, 1) := by kernel_rfl
theorem run_used (w : World) (n : Nat) (hn : n ≤ 100) : (Instr.makeSlice 28 (.int .i64 (n : Nat)) (.int .i64 (n : Nat))).run Try.prog w = .ok (.slice (some ⟨w.heap.size, 0, none⟩) n n) (w.alloc (.cells (boolV (List.replicate n false)) 4)) := by
  obtain ⟨i, hi, hz, hs, hb⟩ := info_parts bool_row
  have h := run_make (P := Try.prog) w 28 4 i _ Try.underlying28 hi hz .i64 .i64 (n : Nat) (n : Nat) (by omega) (by omega) (by rw [hb]; omega) (by omega)
  simp only [Int.toNat_natCast] at h
  rw [h, hs]
  have e : madeCells (Value.bool false).cells (n * 1) = boolV (List.replicate n false) := by
    unfold madeCells boolV
    apply Array.ext
    · simp
    · intro k h1 h2
      simp [Value.cells, Nat.mod_one]
  rw [e]
set_option maxRecDepth 100000 in
set_option maxHeartbeats 16000000 in
theorem whole_law (t : NsD) (w : World) (ht : t.ok w) (hsz : t.n ≤ 9223372036854775807) : Calls Try.prog 3 #[.slice t.A t.n t.c] w fun e w' => e = .returned (.bool true) ∧ Below w.heap.size w w' := by
  have HT := Lib.hid ht
  clear ht
  go_enter Try.func3, Try.ntmps3
  go_wp2_with fail
  refine (first_any w).mono ?_
  rintro e w1 ⟨rfl, hb1⟩
  have HB1 := Lib.hid hb1
  clear hb1
  go_wp2_with fail
  refine (may_any t w1 (HT.out.below HB1.out) hsz).mono ?_
  rintro e w2 ⟨r, rfl, hr, hb2⟩
  have HB2 := Lib.hid (HB1.out.trans (hb2.mono HB1.out.size))
  have HR := Lib.hid hr
  clear hb2 hr
  cases r with
  | false => -- ARM bad
    clear HT HR
    go_wp2_with fail
    refine (first_any w2).mono ?_
    rintro e w3 ⟨rfl, hb3⟩
    go_wp2_with fail
    go_ret
    exact ⟨rfl, HB2.out.trans (hb3.mono HB2.out.size)⟩
  | true =>
    have hmx := HR.out.1 rfl -- ARM good
    have hok := ringsOf_ok (fun x hx => (hmx.each x hx).ne)
    have hlen := hmx.len
    have HMX := Lib.hid hmx
    have HOK := Lib.hid hok
    clear HR hmx hok
    go_wp2_with fail
    refine (of_any t w2 (HT.out.below HB2.out) HMX.out).mono ?_
    rintro e w3 ⟨v1, v2, cs, rfl, ho1, hri, ho2, hb3⟩
    have HB3 := Lib.hid (HB2.out.trans (hb3.mono HB2.out.size))
    have hra : RgsAt w3 v1 (ringsOf t.xs).1 := ⟨_, cs, ho1, hri⟩
    have hlf := left_row ho2
    have hT3 := HT.out.below HB3.out
    have hpl := HOK.out.perm
    have hgd := HOK.out.good
    have hnn := HOK.out.none
    have hme : ∀ x ∈ t.xs, (0 ≤ x.f ∧ x.f ≤ 15) ∧ 0 ≤ x.t ∧ x.t ≤ 15 := fun x hx => ⟨(HMX.out.each x hx).f, (HMX.out.each x hx).t⟩
    have hmn : ∀ x ∈ t.xs, x.f ≠ x.t := fun x hx => (HMX.out.each x hx).ne
    obtain ⟨A, n, c, xs⟩ := t
    have hat := hT3.at_
    obtain ⟨hl, _⟩ := hT3
    simp only at hl hat hsz hra hlf hlen hpl hgd hnn hme hmn ⊢
    obtain rfl := hl
    generalize ringsOf xs = R at hra hlf hpl hgd hnn
    obtain ⟨rs, lf⟩ := R
    simp only at hra hlf hpl hgd hnn
    have hrl : rs.length ≤ 100 := by
      have h1 : rs.length ≤ (rs.flatMap netsR).length := flat_len' (fun r hr => netsR_pos' (hgd r hr).1)
      have := hpl.length_eq
      rw [List.length_append] at this
      omega
    have hll : lf.length ≤ 100 := by
      have := hpl.length_eq
      rw [List.length_append] at this
      omega
    have hln : ∀ x ∈ lf, x.f ≠ x.t := fun x hx => hmn x (hpl.mem_iff.1 (List.mem_append_right _ hx))
    have hgl : ∀ r ∈ rs, GoodR r ∧ r.ps.length ≤ 16 := fun r hr => ⟨(hgd r hr).1, ps_le hme (hgd r hr).1 (hgd r hr).2⟩
    obtain ⟨Ar, cr, rfl⟩ := hra.shape
    obtain ⟨Al, cl, rfl, hlf⟩ := hlf
    have HRA := Lib.hid hra
    have HAT := Lib.hid hat
    have HLF := Lib.hid hlf
    have HGL := Lib.hid hgl
    have HNN := Lib.hid hnn
    have HPL := Lib.hid hpl
    have HLN := Lib.hid hln
    clear hra hat hlf hgl hnn hpl hln hgd hme hmn hb3 ho1 ho2 hri HB1 HB2 HT HMX HOK
    have hmk := run_used w3 xs.length hlen
    go_wp2_with fail
    clear hmk
    obtain ⟨g, hg⟩ : ∃ g, g = w3.heap.size := ⟨_, rfl⟩
    have HGE := Lib.hid hg.symm
    have HBA := Lib.hid ((Below.refl w3.heap.size w3).alloc (Nat.le_refl _) (.cells (boolV (List.replicate xs.length false)) 4))
    have HGA := Lib.hid (Blk.new w3 4 (boolV (List.replicate xs.length false)))
    have HP0 := Lib.hid (show (freeOf xs (List.replicate xs.length false)).Perm (rs.flatMap netsR ++ lf) from by rw [freeOf_start]; exact HPL.out.symm)
    rw [← hg] at HBA HGA ⊢
    clear hg
    have HTK := Lib.hid (fun (us : List Bool) (hl : us.length = xs.length) (d : Nat) => take_at (A := A) (c := c) (d := d) (us := us) HAT.out HGE.out hl hlen)
    go_loopw [6] (fun i wr => ∃ (i' : Nat) (us : List Bool), i' ≤ rs.length ∧ i = .int .i64 i' ∧ us.length = xs.length ∧ (freeOf xs us).Perm ((rs.drop i').flatMap netsR ++ lf) ∧ Below g w3 wr ∧ Blk wr g 4 (boolV us)) (fun i _ => rs.length - (intOf i).toNat)
    case atStart => exact ⟨0, List.replicate xs.length false, Nat.zero_le _, rfl, by simp, HP0.out, HBA.out, HGA.out⟩
    case round =>
      obtain ⟨i, us, hi, rfl, hul, hpf, hbw, hgw⟩ := hrel
      have hi0 : (0 : Int) ≤ (i : Int) := Int.natCast_nonneg _
      by_cases hli : i < rs.length
      · obtain ⟨gR, cR, hv, hgR, hcR⟩ := HRA.out.get (by omega) -- ARM ring
        injection hv with hA _ hc
        subst hA hc
        have hii : (i : Int) < (rs.length : Int) := by omega
        have ei : IntKind.i64.wrap ((i : Int) + 1) = (i : Int) + 1 := by rw [IntKind.wrap_i64]; omega
        obtain ⟨vp, vl, k0, k1, hra⟩ := hcR i hli
        obtain ⟨hgr, h16⟩ := HGL.out rs[i] (List.getElem_mem hli)
        rw [restL_step hli, List.append_assoc] at hpf
        obtain ⟨rest, hrest⟩ : ∃ rest, rest = (rs.drop (i + 1)).flatMap netsR ++ lf := ⟨_, rfl⟩
        rw [← hrest] at hpf
        have HREST := Lib.hid hrest
        clear hrest
        obtain ⟨r, hr⟩ : ∃ r, r = rs[i] := ⟨_, rfl⟩
        rw [← hr] at hra hgr h16 hpf
        clear hr
        obtain ⟨bP, oP, cP, bL, oL, cL, rfl, rfl, hrd⟩ := ring_rd hra hgr
        have h2 := hgr.two
        have hgR' : gR < g := by rw [← HGE.out]; exact hgR
        have q0 := (hbw.cell (p := ⟨gR, i * 2, none⟩) hgR').trans k0
        have q1 := (hbw.cell (p := ⟨gR, i * 2 + 1, none⟩) hgR').trans k1
        have hzR : gR < wr.heap.size := Nat.lt_trans hgR' hgw.lt
        have HRD := Lib.hid hrd
        have HGR := Lib.hid hgr
        have hrz := restR_zero r
        rw [← hrz] at hpf
        have hll2 := hgr.legs
        have hdone := restR_done r
        obtain ⟨n, hn⟩ : ∃ n, n = r.ps.length := ⟨_, rfl⟩
        have HNN2 := Lib.hid hn
        rw [← hn] at q0 q1 h16 h2 hdone
        have HDONE := Lib.hid hdone
        clear hn hcR hra hrd hgr hrz k0 k1 hll2 hdone
        have HPF := Lib.hid hpf
        have dn0 : decide ((n : Int) < 2) = false := decide_eq_false (by omega)
        have dn1 : decide ((16 : Int) < (n : Int)) = false := decide_eq_false (by omega)
        have hB1 := hbw.alloc (show g ≤ wr.heap.size from Nat.le_of_lt hgw.lt) (.cells #[.slice (some ⟨bP, oP, none⟩) n cP, .slice (some ⟨bL, oL, none⟩) n cL] 32)
        have hG1 := hgw.alloc (.cells #[.slice (some ⟨bP, oP, none⟩) n cP, .slice (some ⟨bL, oL, none⟩) n cL] 32)
        have hR1 := Blk.new wr 32 #[.slice (some ⟨bP, oP, none⟩) n cP, .slice (some ⟨bL, oL, none⟩) n cL]
        have hgh : g < wr.heap.size := hgw.lt
        have HB1 := Lib.hid hB1
        have HG1 := Lib.hid hG1
        have HR1 := Lib.hid hR1
        clear hB1 hG1 hR1 hbw hgw hpf
        go_wp2_with fail
        obtain ⟨h, hh⟩ : ∃ h, h = wr.heap.size := ⟨_, rfl⟩
        rw [← hh] at HR1 hgh ⊢
        clear hh
        go_loopw [9] (fun z wq => ∃ (k : Nat) (us : List Bool), k ≤ n ∧ z = .int .i64 k ∧ us.length = xs.length ∧ (freeOf xs us).Perm (restR r k ++ rest) ∧ Below g w3 wq ∧ Blk wq g 4 (boolV us) ∧ Blk wq h 32 #[.slice (some ⟨bP, oP, none⟩) n cP, .slice (some ⟨bL, oL, none⟩) n cL]) (fun z _ => n - (intOf z).toNat)
        case atStart => exact ⟨0, us, Nat.zero_le _, rfl, hul, HPF.out, HB1.out, HG1.out, HR1.out⟩
        case round =>
          obtain ⟨k, us, hk, rfl, hul, hpf, hbw, hgw, hrw⟩ := hrel
          have hk0 : (0 : Int) ≤ (k : Int) := Int.natCast_nonneg _
          by_cases hlk : k < n
          · have hlk' : k < r.ps.length := by rw [← HNN2.out]; exact hlk -- ARM leg
            have hki : (k : Int) < (n : Int) := by omega
            have ek : IntKind.i64.wrap ((k : Int) + 1) = (k : Int) + 1 := by rw [IntKind.wrap_i64]; omega
            rw [restR_step hlk', List.append_assoc] at hpf
            obtain ⟨rest2, hrest2⟩ : ∃ rest2, rest2 = restR r (k + 1) ++ rest := ⟨_, rfl⟩
            rw [← hrest2] at hpf
            have HREST2 := Lib.hid hrest2
            have hBP : bP < g := by rw [← HGE.out]; exact HRD.out.bp
            have hBL : bL < g := by rw [← HGE.out]; exact HRD.out.bl
            have hps : ∀ j, j < n → wr.cell? ⟨bP, oP + j, none⟩ = some (.int .i64 (r.ps.getD j 0)) := fun j hj => (hbw.cell (p := ⟨bP, oP + j, none⟩) hBP).trans (HRD.out.ps j (by rw [← HNN2.out]; exact hj))
            have p0 := hps 0 (by omega)
            simp only [Nat.add_zero] at p0
            have pk := hps k hlk
            obtain ⟨bI, oI, cI, hlc, hbI, hit⟩ := HRD.out.legs k hlk'
            have lk := (hbw.cell (p := ⟨bL, oL + k, none⟩) hBL).trans hlc
            have hBI : bI < g := by rw [← HGE.out]; exact hbI
            have hlow := HGR.out.low k
            have hne := HGR.out.ne k hlk'
            obtain ⟨K, hK⟩ : ∃ K, K = r.legs.getD k [] := ⟨_, rfl⟩
            rw [← hK] at lk hne hit
            have hKp := List.length_pos_iff.2 hne
            have hK100 : K.length ≤ 100 := by
              have h1 := hpf.length_eq
              have h2 := freeOf_len xs us
              rw [List.length_append, netsK_len, ← hK] at h1
              omega
            obtain ⟨m, hm⟩ : ∃ m, m = K.length := ⟨_, rfl⟩
            rw [← hm] at lk hKp hK100
            have HNK := Lib.hid (show ∀ j (hj : j < K.length), (netsK r k).drop j = mkN (r.ps.getD k 0) (nextOf r.ps k) K[j] :: (netsK r k).drop (j + 1) from by subst hK; exact fun j hj => netsK_step hj)
            have HNE := Lib.hid (show (netsK r k).drop m = [] from by subst hm hK; exact netsK_done r k)
            have HMK := Lib.hid hm
            have HIT := Lib.hid hit
            have HLC := Lib.hid (show w3.cell? ⟨bL, oL + k, none⟩ = some (.slice (some ⟨bI, oI, none⟩) m cI) from by subst hm hK; exact hlc)
            have HK := Lib.hid hK
            have HHPS := Lib.hid hps
            have HPF := Lib.hid hpf
            have HBW := Lib.hid hbw
            have HGW := Lib.hid hgw
            have HRW := Lib.hid hrw
            obtain ⟨⟨y0, y1⟩, _⟩ := hrw.two'
            have hszP : bP < wr.heap.size := Nat.lt_trans hBP hgw.lt
            have hszL : bL < wr.heap.size := Nat.lt_trans hBL hgw.lt
            have hszh := hrw.lt
            have dm : ((m : Int) == 0) = false := by simp; omega
            have dm' : decide ((m : Int) = 0) = false := decide_eq_false (by omega)
            have HNX := Lib.hid (show nextOf r.ps k = r.ps.getD ((k + 1) % n) 0 from by rw [HNN2.out]; rfl)
            obtain ⟨x0, hx0⟩ : ∃ x, x = r.ps.getD 0 0 := ⟨_, rfl⟩
            obtain ⟨xk, hxk⟩ : ∃ x, x = r.ps.getD k 0 := ⟨_, rfl⟩
            have HXK := Lib.hid hxk
            rw [← hx0] at p0 hlow
            rw [← hxk] at pk hlow
            clear hrest2 hlc hbI hit hK hm hps hpf hbw hgw hrw hx0 hxk hne
            have hcond : 0 < k → x0 < xk := fun hp => hlow hp hlk'
            clear hlow
            by_cases hkp : 0 < k
            case pos => -- ARM later
              have dk : decide ((0 : Int) < (k : Int)) = true := decide_eq_true (by omega)
              have dk2 : decide (0 < k) = true := decide_eq_true hkp
              have dl : decide (xk ≤ x0) = false := decide_eq_false (by have := hcond hkp; omega)
              clear hcond hkp
              go_wp2_with fail
              go_quiet (fail)
              go_wp2_with fail
              go_loopw [10] (fun z wq => ∃ j : Nat, j ≤ k ∧ z = .int .i64 j ∧ Below g w3 wq ∧ Blk wq g 4 (boolV us) ∧ Blk wq h 32 #[.slice (some ⟨bP, oP, none⟩) n cP, .slice (some ⟨bL, oL, none⟩) n cL]) (fun z _ => k - (intOf z).toNat)
              case atStart => exact ⟨0, Nat.zero_le _, rfl, below_drewN HBW.out _, HGW.out.drewN _, HRW.out.drewN _⟩
              case round =>
                obtain ⟨j, hj, rfl, hbw, hgw, hrw⟩ := hrel
                have hj0 : (0 : Int) ≤ (j : Int) := Int.natCast_nonneg _
                by_cases hlj : j < k
                · have hji : (j : Int) < (k : Int) := by omega -- ARM dupL
                  have hjn : (j : Int) < (n : Int) := by omega
                  have ej : IntKind.i64.wrap ((j : Int) + 1) = (j : Int) + 1 := by rw [IntKind.wrap_i64]; omega
                  have hbP := hBP
                  have pj := (hbw.cell (p := ⟨bP, oP + j, none⟩) hBP).trans (HRD.out.ps j (by rw [← HNN2.out]; omega))
                  have pk2 := (hbw.cell (p := ⟨bP, oP + k, none⟩) hBP).trans (HRD.out.ps k hlk')
                  have hnd : ¬ r.ps.getD j 0 = r.ps.getD k 0 := nd_ne HGR.out.nd hlj hlk'
                  obtain ⟨⟨y0', y1'⟩, _⟩ := hrw.two'
                  have hszP2 : bP < wr.heap.size := Nat.lt_trans hBP hgw.lt
                  have hszh2 := hrw.lt
                  obtain ⟨xj, hxj⟩ : ∃ x, x = r.ps.getD j 0 := ⟨_, rfl⟩
                  rw [← hxj] at pj hnd
                  rw [← HXK.out] at pk2 hnd
                  have s1 : (xj == xk) = false := by simpa using hnd
                  have s2 : decide (xj = xk) = false := decide_eq_false hnd
                  have HBW2 := Lib.hid hbw
                  have HGW2 := Lib.hid hgw
                  have HRW2 := Lib.hid hrw
                  clear hxj hnd hbw hgw hrw y0 y1 lk p0 pk
                  go_wp2_with fail
                  go_quiet (fail)
                  go_wp2_with fail
                  exact ⟨⟨j + 1, hlj, rfl, below_drewN HBW2.out _, HGW2.out.drewN _, HRW2.out.drewN _⟩, by simp only [intOf]; omega⟩
                · obtain rfl : j = k := by omega -- ARM itemsL
                  have hji : ¬ ((j : Int) < (j : Int)) := by omega
                  have HBW2 := Lib.hid hbw
                  have HGW2 := Lib.hid hgw
                  have HRW2 := Lib.hid hrw
                  clear hbw hgw hrw y0 y1 lk p0 pk
                  go_wp2_with fail
                  go_loopw [11] (fun z wq => ∃ (q : Nat) (us : List Bool), q ≤ m ∧ z = .int .i64 q ∧ us.length = xs.length ∧ (freeOf xs us).Perm ((netsK r j).drop q ++ rest2) ∧ Below g w3 wq ∧ Blk wq g 4 (boolV us) ∧ Blk wq h 32 #[.slice (some ⟨bP, oP, none⟩) n cP, .slice (some ⟨bL, oL, none⟩) n cL]) (fun z _ => m - (intOf z).toNat)
                  case atStart => exact ⟨0, us, Nat.zero_le _, rfl, hul, HPF.out, HBW2.out, HGW2.out, HRW2.out⟩
                  case round =>
                    obtain ⟨q, us, hq, rfl, hul, hpf, hbw, hgw, hrw⟩ := hrel
                    have hq0 : (0 : Int) ≤ (q : Int) := Int.natCast_nonneg _
                    have lk2 := (hbw.cell (p := ⟨bL, oL + j, none⟩) hBL).trans HLC.out
                    obtain ⟨⟨y0, y1⟩, _⟩ := hrw.two'
                    have hszL2 : bL < wr.heap.size := Nat.lt_trans hBL hgw.lt
                    have hszh2 := hrw.lt
                    by_cases hlq : q < m
                    · have hqi : (q : Int) < (m : Int) := by omega -- ARM itemL
                      have eq' : IntKind.i64.wrap ((q : Int) + 1) = (q : Int) + 1 := by rw [IntKind.wrap_i64]; omega
                      have hqK : q < K.length := by rw [← HMK.out]; exact hlq
                      have hnk := HNK.out q hqK
                      obtain ⟨i0, i1, i2⟩ := HIT.out q hqK
                      have t0 := (hbw.cell (p := ⟨bI, oI + q * 3, none⟩) hBI).trans i0
                      have t1 := (hbw.cell (p := ⟨bI, oI + q * 3 + 1, none⟩) hBI).trans i1
                      have t2 := (hbw.cell (p := ⟨bI, oI + q * 3 + 2, none⟩) hBI).trans i2
                      obtain ⟨v, hv⟩ : ∃ v, v = K[q] := ⟨_, rfl⟩
                      rw [← hv] at t0 t1 t2 hnk
                      rw [hnk, List.cons_append, HNX.out, ← HXK.out] at hpf
                      obtain ⟨nx, hnx⟩ : ∃ nx, nx = (j + 1) % n := ⟨_, rfl⟩
                      have hmod : ((j : Int) + 1) % (n : Int) = (nx : Int) := by rw [hnx, Int.natCast_emod, Int.natCast_add]; rfl
                      have htm : ((j : Int) + 1).tmod (n : Int) = (nx : Int) := (Int.tmod_eq_emod_of_nonneg (by omega)).trans hmod
                      have hn0 : ¬ n = 0 := by omega
                      have hnxl : nx < n := by rw [hnx]; exact Nat.mod_lt _ (by omega)
                      have hnxi : (nx : Int) < (n : Int) := by omega
                      have hnx0 : (0 : Int) ≤ (nx : Int) := Int.natCast_nonneg _
                      rw [← hnx] at hpf
                      have pn := (hbw.cell (p := ⟨bP, oP + nx, none⟩) hBP).trans (HRD.out.ps nx (by rw [← HNN2.out]; exact hnxl))
                      have pk2 := (hbw.cell (p := ⟨bP, oP + j, none⟩) hBP).trans (HRD.out.ps j hlk')
                      rw [← HXK.out] at pk2
                      obtain ⟨xn, hxn⟩ : ∃ x, x = r.ps.getD nx 0 := ⟨_, rfl⟩
                      rw [← hxn] at pn hpf
                      have hszP2 : bP < wr.heap.size := Nat.lt_trans hBP hgw.lt
                      have hszI2 : bI < wr.heap.size := Nat.lt_trans hBI hgw.lt
                      have hx := hpf.mem_iff.2 (List.mem_cons_self)
                      have HX := Lib.hid hx
                      have HPF2 := Lib.hid hpf
                      have hB3 := hbw.alloc (show g ≤ wr.heap.size from Nat.le_of_lt hgw.lt) (.cells #[.int .i64 v.l, .int .i64 v.a, .int .i64 v.n] 35)
                      have hG3 := hgw.alloc (.cells #[.int .i64 v.l, .int .i64 v.a, .int .i64 v.n] 35)
                      have hR3 := hrw.alloc (.cells #[.int .i64 v.l, .int .i64 v.a, .int .i64 v.n] 35)
                      have HQB := Lib.hid hB3
                      have HQG := Lib.hid hG3
                      have HQR := Lib.hid hR3
                      have HQP := Lib.hid pk2
                      have HQN := Lib.hid pn
                      have HBW3 := Lib.hid hbw
                      clear hnx hxn hv hnk i0 i1 i2 hpf hx hB3 hG3 hR3 hbw hgw hrw pk2 pn
                      go_wp2_with fail
                      obtain ⟨W, hW⟩ : ∃ W, W = wr.alloc (.cells #[.int .i64 v.l, .int .i64 v.a, .int .i64 v.n] 35) := ⟨_, rfl⟩
                      have hI0 := Blk.new wr 35 #[.int .i64 v.l, .int .i64 v.a, .int .i64 v.n]
                      have hszW : wr.heap.size < W.heap.size := by rw [hW]; simp
                      have hB5 := HQB.out
                      have hG5 := HQG.out
                      have hR5 := HQR.out
                      have pk2 := (World.cell?_alloc_lt wr (.cells #[.int .i64 v.l, .int .i64 v.a, .int .i64 v.n] 35) ⟨bP, oP + j, none⟩ hszP2).trans HQP.out
                      have pn := (World.cell?_alloc_lt wr (.cells #[.int .i64 v.l, .int .i64 v.a, .int .i64 v.n] 35) ⟨bP, oP + nx, none⟩ hszP2).trans HQN.out
                      rw [← hW] at hI0 hB5 hG5 hR5 pk2 pn ⊢
                      obtain ⟨hI, hhI⟩ : ∃ q, q = wr.heap.size := ⟨_, rfl⟩
                      rw [← hhI] at hI0 hszW hszP2 hszI2 hszL2 hszh2 ⊢
                      obtain ⟨⟨y0, y1⟩, _⟩ := hR5.two'
                      have i0 := hI0.cell 0
                      have i1 := hI0.cell 1
                      have i2 := hI0.cell 2
                      simp at i0 i1 i2
                      have HB5 := Lib.hid hB5.drew
                      have HG5 := Lib.hid hG5.drew
                      have HR5 := Lib.hid hR5.drew
                      have hszP3 : bP < W.heap.size := by omega
                      have hszh3 : h < W.heap.size := by omega
                      clear hW hI0 hB5 hG5 hR5 hhI t0 t1 t2 lk2
                      refine wp_region_still_tail 22 (by kernel_rfl) (by kernel_rfl) ?_
                      simp only [List.take_succ_cons, List.take_zero, List.drop_succ_cons, List.drop_zero]
                      iterate 22 still_step
                      refine wpStill_nil ?_
                      change wpList _ _ _ _ _ W.drew
                      go_wp2_with fail
                      refine (HTK.out us hul xs.length ⟨xk, xn, v.l, v.a, v.n⟩ HX.out _ HB5.out HG5.out).mono ?_
                      rintro e w4 ⟨rfl, p, hp, hpu, hp1, hp2, hgq, hgb⟩
                      have hb6 := below_only HB5.out hgb (Nat.le_of_lt HG5.out.lt) (Nat.le_refl _)
                      have hr6 := HR5.out.grown hgb (fun e => by injection e with e; omega)
                      have hp6 := free_step HPF2.out hp hpu hp1 hp2
                      have hul6 : (us.set p true).length = xs.length := by rw [List.length_set]; exact hul
                      go_wp2_with fail
                      exact ⟨⟨q + 1, us.set p true, hlq, rfl, hul6, hp6, hb6, hgq, hr6⟩, by simp only [intOf]; omega⟩
                    · obtain rfl : q = m := by omega -- ARM iendL
                      have hqi : ¬ ((q : Int) < (q : Int)) := by omega
                      rw [HNE.out, List.nil_append, HREST2.out] at hpf
                      have HPF2 := Lib.hid hpf
                      have HBW3 := Lib.hid hbw
                      have HGW3 := Lib.hid hgw
                      have HRW3 := Lib.hid hrw
                      clear hpf hbw hgw hrw
                      go_wp2_with fail
                      exact ⟨⟨j + 1, us, hlk, rfl, hul, HPF2.out, HBW3.out, HGW3.out, HRW3.out⟩, by simp only [intOf]; omega⟩
            case neg => -- ARM first
              have dk : decide ((0 : Int) < (k : Int)) = false := decide_eq_false (by omega)
              have dk2 : decide (0 < k) = false := decide_eq_false hkp
              clear hcond hkp
              go_wp2_with fail
              go_quiet (fail)
              go_wp2_with fail
              go_loopw [10] (fun z wq => ∃ j : Nat, j ≤ k ∧ z = .int .i64 j ∧ Below g w3 wq ∧ Blk wq g 4 (boolV us) ∧ Blk wq h 32 #[.slice (some ⟨bP, oP, none⟩) n cP, .slice (some ⟨bL, oL, none⟩) n cL]) (fun z _ => k - (intOf z).toNat)
              case atStart => exact ⟨0, Nat.zero_le _, rfl, below_drewN HBW.out _, HGW.out.drewN _, HRW.out.drewN _⟩
              case round =>
                obtain ⟨j, hj, rfl, hbw, hgw, hrw⟩ := hrel
                have hj0 : (0 : Int) ≤ (j : Int) := Int.natCast_nonneg _
                by_cases hlj : j < k
                · have hji : (j : Int) < (k : Int) := by omega -- ARM dupF
                  have hjn : (j : Int) < (n : Int) := by omega
                  have ej : IntKind.i64.wrap ((j : Int) + 1) = (j : Int) + 1 := by rw [IntKind.wrap_i64]; omega
                  have hbP := hBP
                  have pj := (hbw.cell (p := ⟨bP, oP + j, none⟩) hBP).trans (HRD.out.ps j (by rw [← HNN2.out]; omega))
                  have pk2 := (hbw.cell (p := ⟨bP, oP + k, none⟩) hBP).trans (HRD.out.ps k hlk')
                  have hnd : ¬ r.ps.getD j 0 = r.ps.getD k 0 := nd_ne HGR.out.nd hlj hlk'
                  obtain ⟨⟨y0', y1'⟩, _⟩ := hrw.two'
                  have hszP2 : bP < wr.heap.size := Nat.lt_trans hBP hgw.lt
                  have hszh2 := hrw.lt
                  obtain ⟨xj, hxj⟩ : ∃ x, x = r.ps.getD j 0 := ⟨_, rfl⟩
                  rw [← hxj] at pj hnd
                  rw [← HXK.out] at pk2 hnd
                  have s1 : (xj == xk) = false := by simpa using hnd
                  have s2 : decide (xj = xk) = false := decide_eq_false hnd
                  have HBW2 := Lib.hid hbw
                  have HGW2 := Lib.hid hgw
                  have HRW2 := Lib.hid hrw
                  clear hxj hnd hbw hgw hrw y0 y1 lk p0 pk
                  go_wp2_with fail
                  go_quiet (fail)
                  go_wp2_with fail
                  exact ⟨⟨j + 1, hlj, rfl, below_drewN HBW2.out _, HGW2.out.drewN _, HRW2.out.drewN _⟩, by simp only [intOf]; omega⟩
                · obtain rfl : j = k := by omega -- ARM itemsF
                  have hji : ¬ ((j : Int) < (j : Int)) := by omega
                  have HBW2 := Lib.hid hbw
                  have HGW2 := Lib.hid hgw
                  have HRW2 := Lib.hid hrw
                  clear hbw hgw hrw y0 y1 lk p0 pk
                  go_wp2_with fail
                  go_loopw [11] (fun z wq => ∃ (q : Nat) (us : List Bool), q ≤ m ∧ z = .int .i64 q ∧ us.length = xs.length ∧ (freeOf xs us).Perm ((netsK r j).drop q ++ rest2) ∧ Below g w3 wq ∧ Blk wq g 4 (boolV us) ∧ Blk wq h 32 #[.slice (some ⟨bP, oP, none⟩) n cP, .slice (some ⟨bL, oL, none⟩) n cL]) (fun z _ => m - (intOf z).toNat)
                  case atStart => exact ⟨0, us, Nat.zero_le _, rfl, hul, HPF.out, HBW2.out, HGW2.out, HRW2.out⟩
                  case round =>
                    obtain ⟨q, us, hq, rfl, hul, hpf, hbw, hgw, hrw⟩ := hrel
                    have hq0 : (0 : Int) ≤ (q : Int) := Int.natCast_nonneg _
                    have lk2 := (hbw.cell (p := ⟨bL, oL + j, none⟩) hBL).trans HLC.out
                    obtain ⟨⟨y0, y1⟩, _⟩ := hrw.two'
                    have hszL2 : bL < wr.heap.size := Nat.lt_trans hBL hgw.lt
                    have hszh2 := hrw.lt
                    by_cases hlq : q < m
                    · have hqi : (q : Int) < (m : Int) := by omega -- ARM itemF
                      have eq' : IntKind.i64.wrap ((q : Int) + 1) = (q : Int) + 1 := by rw [IntKind.wrap_i64]; omega
                      have hqK : q < K.length := by rw [← HMK.out]; exact hlq
                      have hnk := HNK.out q hqK
                      obtain ⟨i0, i1, i2⟩ := HIT.out q hqK
                      have t0 := (hbw.cell (p := ⟨bI, oI + q * 3, none⟩) hBI).trans i0
                      have t1 := (hbw.cell (p := ⟨bI, oI + q * 3 + 1, none⟩) hBI).trans i1
                      have t2 := (hbw.cell (p := ⟨bI, oI + q * 3 + 2, none⟩) hBI).trans i2
                      obtain ⟨v, hv⟩ : ∃ v, v = K[q] := ⟨_, rfl⟩
                      rw [← hv] at t0 t1 t2 hnk
                      rw [hnk, List.cons_append, HNX.out, ← HXK.out] at hpf
                      obtain ⟨nx, hnx⟩ : ∃ nx, nx = (j + 1) % n := ⟨_, rfl⟩
                      have hmod : ((j : Int) + 1) % (n : Int) = (nx : Int) := by rw [hnx, Int.natCast_emod, Int.natCast_add]; rfl
                      have htm : ((j : Int) + 1).tmod (n : Int) = (nx : Int) := (Int.tmod_eq_emod_of_nonneg (by omega)).trans hmod
                      have hn0 : ¬ n = 0 := by omega
                      have hnxl : nx < n := by rw [hnx]; exact Nat.mod_lt _ (by omega)
                      have hnxi : (nx : Int) < (n : Int) := by omega
                      have hnx0 : (0 : Int) ≤ (nx : Int) := Int.natCast_nonneg _
                      rw [← hnx] at hpf
                      have pn := (hbw.cell (p := ⟨bP, oP + nx, none⟩) hBP).trans (HRD.out.ps nx (by rw [← HNN2.out]; exact hnxl))
                      have pk2 := (hbw.cell (p := ⟨bP, oP + j, none⟩) hBP).trans (HRD.out.ps j hlk')
                      rw [← HXK.out] at pk2
                      obtain ⟨xn, hxn⟩ : ∃ x, x = r.ps.getD nx 0 := ⟨_, rfl⟩
                      rw [← hxn] at pn hpf
                      have hszP2 : bP < wr.heap.size := Nat.lt_trans hBP hgw.lt
                      have hszI2 : bI < wr.heap.size := Nat.lt_trans hBI hgw.lt
                      have hx := hpf.mem_iff.2 (List.mem_cons_self)
                      have HX := Lib.hid hx
                      have HPF2 := Lib.hid hpf
                      have hB3 := hbw.alloc (show g ≤ wr.heap.size from Nat.le_of_lt hgw.lt) (.cells #[.int .i64 v.l, .int .i64 v.a, .int .i64 v.n] 35)
                      have hG3 := hgw.alloc (.cells #[.int .i64 v.l, .int .i64 v.a, .int .i64 v.n] 35)
                      have hR3 := hrw.alloc (.cells #[.int .i64 v.l, .int .i64 v.a, .int .i64 v.n] 35)
                      have HQB := Lib.hid hB3
                      have HQG := Lib.hid hG3
                      have HQR := Lib.hid hR3
                      have HQP := Lib.hid pk2
                      have HQN := Lib.hid pn
                      have HBW3 := Lib.hid hbw
                      clear hnx hxn hv hnk i0 i1 i2 hpf hx hB3 hG3 hR3 hbw hgw hrw pk2 pn
                      go_wp2_with fail
                      obtain ⟨W, hW⟩ : ∃ W, W = wr.alloc (.cells #[.int .i64 v.l, .int .i64 v.a, .int .i64 v.n] 35) := ⟨_, rfl⟩
                      have hI0 := Blk.new wr 35 #[.int .i64 v.l, .int .i64 v.a, .int .i64 v.n]
                      have hszW : wr.heap.size < W.heap.size := by rw [hW]; simp
                      have hB5 := HQB.out
                      have hG5 := HQG.out
                      have hR5 := HQR.out
                      have pk2 := (World.cell?_alloc_lt wr (.cells #[.int .i64 v.l, .int .i64 v.a, .int .i64 v.n] 35) ⟨bP, oP + j, none⟩ hszP2).trans HQP.out
                      have pn := (World.cell?_alloc_lt wr (.cells #[.int .i64 v.l, .int .i64 v.a, .int .i64 v.n] 35) ⟨bP, oP + nx, none⟩ hszP2).trans HQN.out
                      rw [← hW] at hI0 hB5 hG5 hR5 pk2 pn ⊢
                      obtain ⟨hI, hhI⟩ : ∃ q, q = wr.heap.size := ⟨_, rfl⟩
                      rw [← hhI] at hI0 hszW hszP2 hszI2 hszL2 hszh2 ⊢
                      obtain ⟨⟨y0, y1⟩, _⟩ := hR5.two'
                      have i0 := hI0.cell 0
                      have i1 := hI0.cell 1
                      have i2 := hI0.cell 2
                      simp at i0 i1 i2
                      have HB5 := Lib.hid hB5.drew
                      have HG5 := Lib.hid hG5.drew
                      have HR5 := Lib.hid hR5.drew
                      have hszP3 : bP < W.heap.size := by omega
                      have hszh3 : h < W.heap.size := by omega
                      clear hW hI0 hB5 hG5 hR5 hhI t0 t1 t2 lk2
                      refine wp_region_still_tail 22 (by kernel_rfl) (by kernel_rfl) ?_
                      simp only [List.take_succ_cons, List.take_zero, List.drop_succ_cons, List.drop_zero]
                      iterate 22 still_step
                      refine wpStill_nil ?_
                      change wpList _ _ _ _ _ W.drew
                      go_wp2_with fail
                      refine (HTK.out us hul xs.length ⟨xk, xn, v.l, v.a, v.n⟩ HX.out _ HB5.out HG5.out).mono ?_
                      rintro e w4 ⟨rfl, p, hp, hpu, hp1, hp2, hgq, hgb⟩
                      have hb6 := below_only HB5.out hgb (Nat.le_of_lt HG5.out.lt) (Nat.le_refl _)
                      have hr6 := HR5.out.grown hgb (fun e => by injection e with e; omega)
                      have hp6 := free_step HPF2.out hp hpu hp1 hp2
                      have hul6 : (us.set p true).length = xs.length := by rw [List.length_set]; exact hul
                      go_wp2_with fail
                      exact ⟨⟨q + 1, us.set p true, hlq, rfl, hul6, hp6, hb6, hgq, hr6⟩, by simp only [intOf]; omega⟩
                    · obtain rfl : q = m := by omega -- ARM iendF
                      have hqi : ¬ ((q : Int) < (q : Int)) := by omega
                      rw [HNE.out, List.nil_append, HREST2.out] at hpf
                      have HPF2 := Lib.hid hpf
                      have HBW3 := Lib.hid hbw
                      have HGW3 := Lib.hid hgw
                      have HRW3 := Lib.hid hrw
                      clear hpf hbw hgw hrw
                      go_wp2_with fail
                      exact ⟨⟨j + 1, us, hlk, rfl, hul, HPF2.out, HBW3.out, HGW3.out, HRW3.out⟩, by simp only [intOf]; omega⟩
          · obtain rfl : k = n := by omega -- ARM legend
            have hki : ¬ ((k : Int) < (k : Int)) := by omega
            rw [HDONE.out, List.nil_append, HREST.out] at hpf
            have HPF := Lib.hid hpf
            have HBW := Lib.hid hbw
            have HGW := Lib.hid hgw
            clear hpf hbw hgw hrw
            go_wp2_with fail
            exact ⟨⟨i + 1, us, hli, rfl, hul, HPF.out, HBW.out, HGW.out⟩, by simp only [intOf]; omega⟩
      · obtain rfl : i = rs.length := by omega -- ARM lefts
        have hii : ¬ ((rs.length : Int) < (rs.length : Int)) := by omega
        rw [List.drop_length, List.flatMap_nil, List.nil_append] at hpf
        have HPF := Lib.hid hpf
        have HBW := Lib.hid hbw
        have HGW := Lib.hid hgw
        clear hpf hbw hgw
        go_wp2_with fail
        go_loopw [13] (fun z wq => ∃ (k : Nat) (us : List Bool), k ≤ lf.length ∧ z = .int .i64 k ∧ us.length = xs.length ∧ (freeOf xs us).Perm (lf.drop k) ∧ Below g w3 wq ∧ Blk wq g 4 (boolV us)) (fun z _ => lf.length - (intOf z).toNat)
        case atStart => exact ⟨0, us, Nat.zero_le _, rfl, hul, HPF.out, HBW.out, HGW.out⟩
        case round =>
          obtain ⟨k, us, hk, rfl, hul, hpf, hbw, hgw⟩ := hrel
          have hk0 : (0 : Int) ≤ (k : Int) := Int.natCast_nonneg _
          by_cases hlk : k < lf.length
          · obtain ⟨b, rfl, hN0⟩ := HLF.out (by omega) -- ARM left
            have hki : (k : Int) < (lf.length : Int) := by omega
            have ek : IntKind.i64.wrap ((k : Int) + 1) = (k : Int) + 1 := by rw [IntKind.wrap_i64]; omega
            have hbg : b < g := by rw [← HGE.out]; exact hN0.1
            have hszb : b < wr.heap.size := Nat.lt_trans hbg hgw.lt
            have HNR := Lib.hid (fun j hj => hN0.2 j hj)
            obtain ⟨h0, h1, h2, h3, h4⟩ := hN0.2 k hlk
            simp only [Nat.zero_add] at h0 h1 h2 h3 h4
            have c0 := (hbw.cell (p := ⟨b, k * 5, none⟩) hbg).trans h0
            have c1 := (hbw.cell (p := ⟨b, k * 5 + 1, none⟩) hbg).trans h1
            have c2 := (hbw.cell (p := ⟨b, k * 5 + 2, none⟩) hbg).trans h2
            have c3 := (hbw.cell (p := ⟨b, k * 5 + 3, none⟩) hbg).trans h3
            have c4 := (hbw.cell (p := ⟨b, k * 5 + 4, none⟩) hbg).trans h4
            rw [List.drop_eq_getElem_cons hlk] at hpf
            have hx := hpf.mem_iff.2 (List.mem_cons_self)
            obtain ⟨x, hxe⟩ : ∃ x, x = lf[k] := ⟨_, rfl⟩
            rw [← hxe] at c0 c1 c2 c3 c4 hpf hx
            have HXE := Lib.hid hxe
            have HX := Lib.hid hx
            have HPF := Lib.hid hpf
            have HBW := Lib.hid hbw
            have HGW := Lib.hid hgw
            clear hxe hx hpf hbw hgw h0 h1 h2 h3 h4 hN0
            go_wp2_with fail
            refine (HTK.out us hul xs.length x HX.out _ HBW.out HGW.out).mono ?_
            rintro e w4 ⟨rfl, q, hq, hqu, hq1, hq2, hgq, hgb⟩
            have HB4 := Lib.hid (below_only HBW.out hgb (Nat.le_of_lt HGW.out.lt) (Nat.le_refl _))
            have HG4 := Lib.hid hgq
            have HP4 := Lib.hid (free_step HPF.out hq hqu hq1 hq2)
            have hul4 : (us.set q true).length = xs.length := by rw [List.length_set]; exact hul
            have hsz4 : b < w4.heap.size := Nat.lt_trans hbg hgq.lt
            have d0 := (HB4.out.cell (p := ⟨b, k * 5, none⟩) hbg).trans ((HBW.out.cell (p := ⟨b, k * 5, none⟩) hbg).symm.trans c0)
            have d1 := (HB4.out.cell (p := ⟨b, k * 5 + 1, none⟩) hbg).trans ((HBW.out.cell (p := ⟨b, k * 5 + 1, none⟩) hbg).symm.trans c1)
            clear hgq hgb hq1 hq2 c0 c1 c2 c3 c4
            go_wp2_with fail
            go_loopw [14] (fun z wq => ∃ j : Nat, j ≤ k ∧ z = .int .i64 j ∧ Below g w3 wq ∧ Blk wq g 4 (boolV (us.set q true))) (fun z _ => k - (intOf z).toNat)
            case atStart => exact ⟨0, Nat.zero_le _, rfl, HB4.out, HG4.out⟩
            case round =>
              obtain ⟨j, hj, rfl, hbw, hgw⟩ := hrel
              have hj0 : (0 : Int) ≤ (j : Int) := Int.natCast_nonneg _
              by_cases hlj : j < k
              · have hji : (j : Int) < (k : Int) := by omega -- ARM pair
                have hjn : (j : Int) < (lf.length : Int) := by omega
                have ej : IntKind.i64.wrap ((j : Int) + 1) = (j : Int) + 1 := by rw [IntKind.wrap_i64]; omega
                obtain ⟨f0, f1, _, _, _⟩ := HNR.out j (by omega)
                obtain ⟨e0, e1, _, _, _⟩ := HNR.out k hlk
                simp only [Nat.zero_add] at f0 f1 e0 e1
                have a0 := (hbw.cell (p := ⟨b, j * 5, none⟩) hbg).trans f0
                have a1 := (hbw.cell (p := ⟨b, j * 5 + 1, none⟩) hbg).trans f1
                have b0 := (hbw.cell (p := ⟨b, k * 5, none⟩) hbg).trans e0
                have b1 := (hbw.cell (p := ⟨b, k * 5 + 1, none⟩) hbg).trans e1
                have hszw : b < wr.heap.size := Nat.lt_trans hbg hgw.lt
                have hno : ¬ (lf[j].f = lf[k].t ∧ lf[j].t = lf[k].f) := fun h => no_two HNN.out (List.getElem_mem hlk) (List.getElem_mem (by omega)) (HLN.out _ (List.getElem_mem hlk)) h.1 h.2
                obtain ⟨y, hy⟩ : ∃ y, y = lf[j] := ⟨_, rfl⟩
                obtain ⟨z, hz⟩ : ∃ z, z = lf[k] := ⟨_, rfl⟩
                rw [← hy] at a0 a1 hno
                rw [← hz] at b0 b1 hno
                have HBW2 := Lib.hid hbw
                have HGW2 := Lib.hid hgw
                clear hy hz f0 f1 e0 e1 hbw hgw
                by_cases m1 : y.f = z.t
                case pos => -- ARM meets
                  have m2 : ¬ y.t = z.f := fun e => hno ⟨m1, e⟩
                  have s1 : (y.f == z.t) = true := by simpa using m1
                  have s2 : decide (y.f = z.t) = true := decide_eq_true m1
                  have s3 : (y.t == z.f) = false := by simpa using m2
                  have s4 : decide (y.t = z.f) = false := decide_eq_false m2
                  clear m1 m2 hno
                  go_wp2_with fail
                  go_quiet (fail)
                  go_wp2_with fail
                  exact ⟨⟨j + 1, hlj, rfl, below_drewN HBW2.out _, HGW2.out.drewN _⟩, by simp only [intOf]; omega⟩
                case neg => -- ARM apart
                  have s1 : (y.f == z.t) = false := by simpa using m1
                  have s2 : decide (y.f = z.t) = false := decide_eq_false m1
                  clear m1 hno
                  go_wp2_with fail
                  go_quiet (fail)
                  go_wp2_with fail
                  exact ⟨⟨j + 1, hlj, rfl, below_drewN HBW2.out _, HGW2.out.drewN _⟩, by simp only [intOf]; omega⟩
              · obtain rfl : j = k := by omega -- ARM pend
                have hji : ¬ ((j : Int) < (j : Int)) := by omega
                have HBW2 := Lib.hid hbw
                have HGW2 := Lib.hid hgw
                clear hbw hgw
                go_wp2_with fail
                exact ⟨⟨j + 1, us.set q true, hlk, rfl, hul4, HP4.out, HBW2.out, HGW2.out⟩, by simp only [intOf]; omega⟩
          · obtain rfl : k = lf.length := by omega -- ARM used
            have hki : ¬ ((lf.length : Int) < (lf.length : Int)) := by omega
            rw [List.drop_length] at hpf
            have HNO := Lib.hid (show ∀ j (h1 : j < us.length), us[j] = true from fun j h1 => freeOf_none hpf.eq_nil (by omega) h1)
            have HBW := Lib.hid hbw
            have HGW := Lib.hid hgw
            clear hpf hbw hgw
            go_wp2_with fail
            go_loopw [15] (fun z wq => ∃ j : Nat, j ≤ xs.length ∧ z = .int .i64 j ∧ wq = wr) (fun z _ => xs.length - (intOf z).toNat)
            case atStart => exact ⟨0, Nat.zero_le _, rfl, rfl⟩
            case round =>
              obtain ⟨j, hj, rfl, rfl⟩ := hrel
              have hj0 : (0 : Int) ≤ (j : Int) := Int.natCast_nonneg _
              by_cases hlj : j < xs.length
              · have hji : (j : Int) < (xs.length : Int) := by omega -- ARM uone
                have ej : IntKind.i64.wrap ((j : Int) + 1) = (j : Int) + 1 := by rw [IntKind.wrap_i64]; omega
                have gc := (HGW.out.cell j).trans (boolV_at (by omega))
                rw [getD_eq (by omega), HNO.out j (by omega)] at gc
                have hgl := HGW.out.lt
                go_wp2_with fail
                exact ⟨⟨j + 1, hlj, rfl, by trivial⟩, by simp only [intOf]; omega⟩
              · obtain rfl : j = xs.length := by omega -- ARM fin
                have hji : ¬ ((xs.length : Int) < (xs.length : Int)) := by omega
                go_wp2_with fail
                refine (first_any _).mono ?_
                rintro e w5 ⟨rfl, hb5⟩
                go_wp2_with fail
                go_ret
                have h1 := HB3.out
                have h2 := HBW.out
                rw [← HGE.out] at h2
                exact ⟨rfl, h1.trans ((h2.mono h1.size).trans (hb5.mono (Nat.le_trans h1.size h2.size)))⟩
end Go.Proofs.Ythoniedmeeahgaa
