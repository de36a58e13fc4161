/-
  PostKeeps: what is taken was put, each as often as it was put or copied; nothing else comes.
-/
import Derived.Test.YtoiopoebjchjeaaKeepsA
namespace Go.Proofs.Ytoiopoebjchjeaa
open Go.RowKit

theorem reads_pair (w : World) (b c : UInt8) (m n : Int) (h : (b.toNat : Int) = m) (h' : (c.toNat : Int) = n) (t : TypeId) (fr : Nat × Nat) : Reads (w.alloc (.cells #[.int .u8 m, .int .u8 n] t fr)) (w.heap.size + 1) 1 (some ⟨w.heap.size, 0, none⟩) 2 (bv [b, c]) := by
  subst h
  subst h'
  refine ⟨rfl, fun _ => ⟨_, rfl, by simp, fun j u hu => ?_⟩⟩
  match j, hu with
  | 0, hu =>
    have hu' : Value.int .u8 (b.toNat : Int) = u := by simpa [bv] using hu
    subst hu'
    rw [Addr.add_lit, cell_of_row _ w.heap.size _ #[.int .u8 (b.toNat : Int), .int .u8 (c.toNat : Int)] t fr (heap_alloc_new w _)]
    rfl
  | 1, hu =>
    have hu' : Value.int .u8 (c.toNat : Int) = u := by simpa [bv] using hu
    subst hu'
    rw [Addr.add_lit, cell_of_row _ w.heap.size _ #[.int .u8 (b.toNat : Int), .int .u8 (c.toNat : Int)] t fr (heap_alloc_new w _)]
    rfl

theorem PX.ps_lt {w : World} {base g : Nat} {rb : Option Nat} {most : Int} {L : List Pk} (h : PX w base g rb most L) : ∀ i, PS g rb i → i < w.heap.size := by
  rintro i (rfl | hi)
  · exact h.lt
  · exact (h.row hi).2.1
theorem PX.no_new {w : World} {base g : Nat} {rb : Option Nat} {most : Int} {L : List Pk} (h : PX w base g rb most L) : ¬ PS g rb w.heap.size := fun e => Nat.lt_irrefl _ (h.ps_lt _ e)
/-- The post, of the keys ks; the counts, of the keys cs. -/
structure KSt (B cb : Nat) (w : World) (rb : Option Nat) (most : Int) (ks cs : List Nat) (wr : World) : Prop where
  x : PX wr B B rb most (keysL ks)
  base : B ≤ wr.heap.size
  c : Blk wr cb 48 (cntA cs)
  b : Below w.heap.size w wr
  wB : w.heap.size ≤ B
  lt : ∀ k ∈ ks, k < 256
  wc : w.heap.size ≤ cb
section
variable {B cb : Nat} {w wr wr' : World} {rb rb' : Option Nat} {most : Int} {ks ks' cs cs' : List Nat}
theorem KSt.below (h : KSt B cb w rb most ks cs wr) (hb : Below wr.heap.size wr wr') : KSt B cb w rb most ks cs wr' :=
  ⟨h.x.below hb, Nat.le_trans h.base hb.size, h.c.below hb h.c.lt, h.b.trans (hb.mono h.b.size), h.wB, h.lt, h.wc⟩
theorem KSt.alloc (h : KSt B cb w rb most ks cs wr) (o : Obj) : KSt B cb w rb most ks cs (wr.alloc o) := h.below ((Below.refl _ _).alloc (Nat.le_refl _) o)
theorem KSt.apart (h : KSt B cb w rb most ks cs wr) : ¬ PS B rb cb := by
  rintro (e | e)
  · subst e
    obtain ⟨_, A, c, ps, h1, _⟩ := h.x
    exact Blk.ne_ h1 h.c (by decide) rfl
  · obtain ⟨_, _, _, cs', h1⟩ := h.x.row e
    exact Blk.ne_ h1 h.c (by decide) rfl
theorem KSt.step (h : KSt B cb w rb most ks cs wr) (hx : PX wr' B B rb' most (keysL ks')) (hf : Fr (PS B rb) wr wr') (hl : ∀ k ∈ ks', k < 256) : KSt B cb w rb' most ks' cs wr' :=
  ⟨hx, Nat.le_trans h.base hf.size, h.c.fr hf h.apart, h.b.trans ((hf.below h.base (h.x.ps_ge (Nat.le_refl _))).mono h.wB), h.wB, hl, h.wc⟩
theorem KSt.set (h : KSt B cb w rb most ks cs wr) (k : Nat) (v : Value) (hv : (cntA cs).setIfInBounds k v = cntA cs') : KSt B cb w rb most ks cs' (wr.setCell ⟨cb, k, none⟩ v) := by
  have hf : Fr (fun j => j = cb) wr (wr.setCell ⟨cb, k, none⟩ v) := (Fr.refl _ _).set cb k v (fun _ => rfl)
  refine ⟨h.x.fr hf (fun e => h.apart (.inl e.symm)) (fun j hj e => h.apart (.inr (by rw [hj, e]))) (fun j cs e _ hb => ?_), by simpa using h.base, by rw [← hv]; exact h.c.set_ k v, below_only h.b (set_only _ _ _ _) h.b.size h.wc, h.wB, h.lt, h.wc⟩
  subst e
  exact Blk.ne_ h.c hb (by decide) rfl
end

theorem zero_of {P : Program} {t : TypeId} {z : Value} {n : Nat} (h : (P.info? t).map (fun i => (i.zero, i.size)) = some (some z, n)) : ∀ w, (zeroValue t).run P w = .ok z w := by
  intro w
  cases hi : P.info? t with
  | none => rw [hi] at h; cases h
  | some i =>
    rw [hi] at h
    simp at h
    simp [zeroValue, typeInfo, hi, h.1]
theorem counts_zero : ∀ w, (zeroValue 48).run Try.prog w = .ok (.agg (Array.replicate 256 (.int .i64 0))) w := zero_of (n := 256) (by kernel_rfl)
theorem cntA_nil : cntA [] = Array.replicate 256 (.int .i64 0) := by
  apply Array.ext_getElem?
  intro i
  by_cases hi : i < 256
  · rw [cntA_at [] hi]
    simp [hi]
  · simp [cntA, hi]

/-- What holds at every round's head. -/
def KRel (B cb : Nat) (w : World) (n : Nat) (most : Int) (away i : Value) (wr : World) : Prop :=
  ∃ (k : Nat) (ks : List Nat) (rb : Option Nat), k ≤ n ∧ i = .int .i64 k ∧ away = .int .i64 ks.length ∧ KSt B cb w rb most ks ks wr

set_option maxRecDepth 100000 in
set_option maxHeartbeats 8000000 in
theorem keeps_any (most : Int) (x : OpsD) (w : World) (hx : x.ok w) : Calls Try.prog 4 #[.int .i64 most, .slice x.A x.n x.c] w fun e w' => e = .returned (.bool true) ∧ Below w.heap.size w w' := by
  have hfew := fun w' h => fewops_any x w' h
  obtain ⟨A, n, c, ts⟩ := x
  have hx' := hx
  obtain ⟨hl, hmax, hat, hts⟩ := hx
  simp only at hl hmax hat hts hfew ⊢
  obtain rfl := hl
  unfold maxLen at hmax
  have Hfew := Lib.hid hfew
  clear hfew
  by_cases hin : 1 ≤ most ∧ most ≤ 200
  · cases hyes : fewO ts with
    | false => -- ARM few0
      rw [hyes] at Hfew
      clear hyes
      go_enter Try.func4, Try.ntmps4
      go_wp2_with fail
      refine (first_any w).mono ?_
      rintro e w0 ⟨rfl, hb0⟩
      go_wp2_with fail
      refine (new_in most w0 hin).mono ?_
      rintro e w1 ⟨rfl, hx1, hb1⟩
      have B1 := hb0.trans (hb1.mono hb0.size)
      go_wp2_with fail
      refine (Hfew.out w1 (hx'.below B1)).mono ?_
      rintro e w2 ⟨rfl, hb2⟩
      have B2 := B1.trans (hb2.mono B1.size)
      go_wp2_with fail
      refine (first_any w2).mono ?_
      rintro e w3 ⟨rfl, hb3⟩
      go_wp2_with fail
      go_ret
      exact ⟨rfl, B2.trans (hb3.mono B2.size)⟩
    | true =>
      rw [hyes] at Hfew
      have hlen := fewO_len hyes
      clear hyes
      go_enter Try.func4, Try.ntmps4
      go_wp2_with fail
      refine (first_any w).mono ?_
      rintro e w0 ⟨rfl, hb0⟩
      go_wp2_with fail
      refine (new_in most w0 hin).mono ?_
      rintro e w1 ⟨rfl, hx1, hb1⟩
      have B1 := hb0.trans (hb1.mono hb0.size)
      go_wp2_with fail
      refine (Hfew.out w1 (hx'.below B1)).mono ?_
      rintro e w2 ⟨rfl, hb2⟩
      have B2 := B1.trans (hb2.mono B1.size)
      have hx2 := hx1.below (hb2)
      clear hx1
      have hzero := counts_zero
      have HL := Lib.hid hx2
      clear hx2
      go_wp2_with fail
      obtain ⟨rb0, K2⟩ : ∃ rb, KSt w0.heap.size w2.heap.size w rb most [] [] (w2.alloc (.cells (Array.replicate 256 (.int .i64 0)) 48)) := by
        obtain ⟨h1, h2, rb, h3⟩ := HL.out
        exact ⟨rb, h3.below ((Below.refl _ _).alloc (Nat.le_refl _) _), by simp; omega, by rw [cntA_nil]; exact Blk.new _ _ _, B2.alloc B2.size _, hb0.size, by simp, B2.size⟩
      have Hat := Lib.hid hat
      have Hts := Lib.hid hts
      have K2 := Lib.hid K2
      clear hat hts hzero hx' HL
      go_loopw [8, 9] (fun away i wr => KRel w0.heap.size w2.heap.size w ts.length most away i wr) (fun _ i _ => ts.length - (intOf i).toNat)
      case atStart => exact ⟨0, [], _, Nat.zero_le _, rfl, rfl, K2.out⟩
      case round =>
        obtain ⟨k, ks, rb, hk, rfl, rfl, hs⟩ := hrel
        have HS := Lib.hid hs
        have hks := keysL_length ks
        have hx0 := hs.x.1
        clear hs K2
        by_cases hlt : k < ts.length
        · obtain ⟨b, o, rfl, hbo, hcell⟩ := Hat.out (by omega)
          have hsz := Nat.lt_of_lt_of_le hbo HS.out.b.size
          have hc0 := (HS.out.b.cell (p := ⟨b, o + k * 3, none⟩) hbo).trans (hcell k hlt 0 _ rfl)
          have hc1 := (HS.out.b.cell (p := ⟨b, o + k * 3 + 1, none⟩) hbo).trans (hcell k hlt 1 _ rfl)
          have hc2 := (HS.out.b.cell (p := ⟨b, o + k * 3 + 2, none⟩) hbo).trans (hcell k hlt 2 _ rfl)
          clear hcell
          generalize hop : ts[k] = op at hc0 hc1 hc2
          obtain ⟨kd, np, AB, nB, cB⟩ := op
          simp only at hc0 hc1 hc2
          clear hop
          have hki : (k : Int) < (ts.length : Int) := by omega
          have hk0 : (0 : Int) ≤ (k : Int) := Int.natCast_nonneg _
          have SA := Lib.hid (HS.out.alloc (.cells #[.int .i64 kd, .int .i64 np, .slice AB nB cB] 34))
          have hl200 : ks.length ≤ 200 := by obtain ⟨_, q2, q3, _⟩ := hx0; omega
          have hlm : (ks.length : Int) ≤ most := by obtain ⟨_, q2, q3, _⟩ := hx0; omega
          have hzb := HS.out.b.size
          have hzB := HS.out.base
          have hzc := HS.out.c.lt
          by_cases h0 : kd = 0
          · subst h0
            obtain ⟨q, hq, hq2, hq3⟩ : ∃ q : Nat, bits .and .i64 np 255 = (q : Int) ∧ (q : Int) % 256 = q ∧ q < 256 := by
              rw [i64_and255]
              exact ⟨(np % 256).toNat, by omega, by omega, by omega⟩
            have hqb : Hid (((UInt8.ofNat q).toNat : Int) = (q : Int)) := by
              have : (UInt8.ofNat q).toNat = q := by simp; omega
              show _ = _
              omega
            go_wp2_with fail
            try simp only [hq, hq2]
            have ha := reads_pair (wr.alloc (.cells #[.int .i64 0, .int .i64 np, .slice AB nB cB] 34)) (UInt8.ofNat q) 7 q 7 hqb.out rfl 5 (0, 0)
            have SB := Lib.hid (SA.out.alloc (.cells #[.int .u8 q, .int .u8 7] 5))
            have HA := Lib.hid ha
            clear ha hq
            by_cases hfull : most ≤ (ks.length : Int)
            · refine (put_any w0.heap.size w0.heap.size rb most (keysL ks) q _ 2 2 [UInt8.ofNat q, 7] _ SB.out.x SB.out.base (by simpa using HA.out) (by simp) (by omega)).mono ?_ -- ARM c0full
              rw [putL_full (by rw [hks]; exact hfull)]
              rintro e w3 ⟨rb3, rfl, hx3, hm3, hf3⟩
              have K3 := Lib.hid (SB.out.step hx3 hf3 SB.out.lt)
              clear hx3 hf3 hm3
              go_wp2_with fail
              refine (len_any w0.heap.size w0.heap.size rb3 most _ w3 K3.out.x).mono ?_
              rintro e w4 ⟨rfl, rfl⟩
              rw [hks]
              go_wp2_with fail
              go_roundw
              case rel => exact ⟨k + 1, ks, rb3, by omega, by go_num, rfl, K3.out⟩
              case measure => simp [intOf]; omega
            · refine (put_any w0.heap.size w0.heap.size rb most (keysL ks) q _ 2 2 [UInt8.ofNat q, 7] _ SB.out.x SB.out.base (by simpa using HA.out) (by simp) (by omega)).mono ?_ -- ARM c0room
              rw [putL_ok (by rw [hks]; exact hfull) (by simp), keysL_snoc]
              rintro e w3 ⟨rb3, rfl, hx3, hm3, hf3⟩
              have K3 := Lib.hid (SB.out.step hx3 hf3 (by intro j hj; rcases List.mem_append.1 hj with hj | hj; exact SB.out.lt j hj; simp at hj; omega))
              have hl4 : ((keysL (ks ++ [q])).length : Int) = (ks.length : Int) + 1 := by rw [keysL_length]; simp
              have hcell := (K3.out.c.cell q).trans (cntA_at ks hq3)
              have hfz := K3.out.c.frozen q
              have hz3 := K3.out.c.lt
              have hcl : (ks.count q : Int) ≤ 200 := by have := List.count_le_length (a := q) (l := ks); omega
              have hcn : (0 : Int) ≤ (ks.count q : Int) := Int.natCast_nonneg _
              have K4 := Lib.hid (K3.out.set q _ (cntA_put ks hq3))
              have HL4 := Lib.hid hl4
              have hq4 : (q : Int) < 256 := by omega
              have hq5 : (0 : Int) ≤ (q : Int) := Int.natCast_nonneg _
              clear hx3 hf3 hm3 hl4
              generalize (ks.count q : Int) = cn at hcell hcl hcn K4
              have hlm' : (ks.length : Int) < most := by omega
              go_wp2_with fail
              refine (len_any w0.heap.size w0.heap.size rb3 most _ _ K4.out.x).mono ?_
              rintro e w4 ⟨rfl, rfl⟩
              rw [HL4.out]
              go_wp2_with fail
              go_roundw
              case rel => exact ⟨k + 1, ks ++ [q], rb3, by omega, by go_num, by simp, K4.out⟩
              case measure => simp [intOf]; omega
          · by_cases h123 : kd = 1 ∨ kd = 2 ∨ kd = 3
            · have ha := at_any w0.heap.size w0.heap.size rb most (keysL ks) np _ SA.out.x
              unfold AtR at ha
              by_cases hnp : 0 ≤ np ∧ np < (ks.length : Int)
              · obtain ⟨j, rfl⟩ := Int.eq_ofNat_of_zero_le hnp.1
                have hj : j < ks.length := by omega
                have hok : okL (keysL ks) (j : Int) = true := okL_in (by rw [hks]; exact hj)
                have hatj := keysL_at hj
                have hq3 := SA.out.lt _ (List.getElem_mem hj)
                have hoj := cntA_out ks j hj hq3
                have hcj := count_out ks j hj
                have hDj : dropL (keysL ks) (j : Int) = keysL (ks.eraseIdx j) := by rw [dropL_in (by rw [hks]; exact hj), keysL_erase]
                have hel : (ks.eraseIdx j).length + 1 = ks.length := by rw [List.length_eraseIdx, if_pos hj]; omega
                have hej : ∀ x ∈ ks.eraseIdx j, x < 256 := fun x hx => SA.out.lt x (List.mem_of_mem_eraseIdx hx)
                generalize ks[j] = q at hatj hq3 hoj hcj
                have hat' : atL (keysL ks) (j : Int) = ((q : Int), [UInt8.ofNat q, 7]) := hatj
                rw [hok, hat'] at ha
                simp only at ha
                have hq : bits .and .i64 (q : Int) 255 = (q : Int) := by rw [i64_and255]; omega
                have hqb : Hid (((UInt8.ofNat q).toNat : Int) = (q : Int)) := by
                  have : (UInt8.ofNat q).toNat = q := by simp; omega
                  show _ = _
                  omega
                have HAT := Lib.hid ha
                have Hok := Lib.hid hok
                have Hat' := Lib.hid hat'
                have HOJ := Lib.hid hoj
                have HCJ := Lib.hid hcj
                have HDJ := Lib.hid hDj
                have HEJ := Lib.hid hej
                have HEL := Lib.hid hel
                clear ha hok hatj hat' hoj hcj hDj hej hel
                have hq4 : (q : Int) < 256 := by omega
                have hq5 : (0 : Int) ≤ (q : Int) := Int.natCast_nonneg _
                rcases h123 with rfl | rfl | rfl
                · go_wp2_with fail -- ARM c1in
                  refine HAT.out.mono ?_
                  rintro e w3 ⟨v, rfl, ⟨A3, c3, rfl, ho3⟩, hb3⟩
                  simp only [List.length_cons, List.length_nil] at ho3 ⊢
                  have S3 := Lib.hid (SA.out.below hb3)
                  have hn3 := Lib.hid S3.out.x.no_new
                  have S4 := Lib.hid (S3.out.alloc (.cells #[.int .i64 q, .slice A3 2 c3] 37))
                  have P4 : Hid (PD.ok ⟨q, A3, c3, [UInt8.ofNat q, 7]⟩ (w3.alloc (.cells #[.int .i64 q, .slice A3 2 c3] 37)) (wr.alloc (.cells #[.int .i64 1, .int .i64 j, .slice AB nB cB] 34)).heap.size) := ho3.alloc _
                  have o3 := ((Blk.new wr 34 #[.int .i64 1, .int .i64 j, .slice AB nB cB]).below hb3 (by simp)).alloc (.cells #[.int .i64 q, .slice A3 2 c3] 37)
                  have o31 := o3.cell 1
                  have o30 := o3.cell 0
                  simp at o31 o30
                  have hz3 := hb3.size
                  simp at hz3
                  have Hq := Lib.hid hq
                  clear ho3 hb3 o3 hnp hj hq
                  go_wp2_with fail
                  refine (take_any w0.heap.size w0.heap.size rb most (keysL ks) j _ S4.out.x S4.out.base).mono ?_
                  rintro e w4 ⟨v, rb5, rfl, ⟨A4, c4, rfl, ho4⟩, hx4, hm4, hf4⟩
                  rw [Hok.out]
                  rw [HDJ.out] at hx4
                  rw [Hat'.out] at ho4 ⊢
                  simp only [List.length_cons, List.length_nil] at ho4 ⊢
                  have K4 := Lib.hid (S4.out.step hx4 hf4 HEJ.out)
                  have r4 := (Blk.new w3 37 #[.int .i64 q, .slice A3 2 c3]).fr hf4 hn3.out
                  have ho5 := P4.out.fr hf4 S4.out.x.nobytes
                  have R4 := Lib.hid (Reads.of_own ho5)
                  have R4' := Lib.hid (Reads.of_own ho4)
                  have G4 := Lib.hid r4
                  obtain ⟨⟨p0, p1⟩, _⟩ := Blk.two r4
                  have hzz := r4.lt
                  clear hx4 hf4 hm4 r4 ho5 ho4 P4
                  go_wp2_with fail
                  refine (samep_any q q A3 A4 c3 c4 [UInt8.ofNat q, 7] [UInt8.ofNat q, 7] _ ((R4.out.alloc (Nat.le_refl _) _).more (by simp)) ((R4'.out.alloc (Nat.le_refl _) _).more (by simp))).mono ?_
                  rintro e w5 ⟨rfl, hb5⟩
                  rw [beq_self_eq_true, decide_eq_true rfl]
                  have K5 := Lib.hid ((K4.out.alloc _).below hb5)
                  have r5 := (G4.out.alloc _).below hb5 (G4.out.alloc _).lt
                  have R5 := Lib.hid (((R4.out.alloc (Nat.le_refl _) _).more (by simp)).below hb5 |>.more hb5.size)
                  clear p0 p1 hzz
                  obtain ⟨⟨p0, p1⟩, _⟩ := Blk.two r5
                  have hzz := r5.lt
                  clear r5 hb5 K4 G4 R4 R4'
                  have hcell := (K5.out.c.cell q).trans (cntA_at ks hq3)
                  have hfz := K5.out.c.frozen q
                  have hz5 := K5.out.c.lt
                  have hcl : (ks.count q : Int) ≤ 200 := by have := List.count_le_length (a := q) (l := ks); omega
                  have hcn : (1 : Int) ≤ (ks.count q : Int) := by have := HCJ.out; omega
                  have hle : ((keysL (ks.eraseIdx j)).length : Int) = (ks.length : Int) - 1 := by have := HEL.out; rw [keysL_length]; omega
                  have hle2 : ((ks.eraseIdx j).length : Int) = (ks.length : Int) - 1 := by have := HEL.out; omega
                  have hl1 : (1 : Int) ≤ (ks.length : Int) := by have := HEL.out; omega
                  have HL5 := Lib.hid hle
                  have HL6 := Lib.hid hle2
                  have hq2 : (q : Int) % 256 = q := by omega
                  have HO := HOJ
                  clear hle hle2 HCJ HEL HAT S3 HOJ
                  generalize (ks.count q : Int) = cn at hcell hcl hcn HO
                  have K6 := Lib.hid fun (w' : World) (h : KSt w0.heap.size w2.heap.size w rb5 most (ks.eraseIdx j) ks w') => h.set q _ HO.out
                  go_wp2_with fail
                  simp only [Hq.out, hq2]
                  refine (beqs_any A3 (some ⟨w5.heap.size, 0, none⟩) 2 c3 2 2 [UInt8.ofNat q, 7] [UInt8.ofNat q, 7] _ ((R5.out.alloc (Nat.le_refl _) _).more (by simp)) ((reads_pair w5 (UInt8.ofNat q) 7 q 7 hqb.out rfl _ _).more (by simp))).mono ?_
                  rintro e w6 ⟨rfl, rfl⟩
                  rw [beq_self_eq_true]
                  have K7 := Lib.hid ((K6.out _ K5.out).alloc (.cells #[.int .u8 q, .int .u8 7] 5))
                  clear K6 hqb
                  have hfz2 : (w5.alloc (.cells #[.int .u8 q, .int .u8 7] 5)).frozen? ⟨w2.heap.size, q, none⟩ = false := (K5.out.alloc _).c.frozen q
                  have hd : decide (cn < 1) = false := decide_eq_false (by omega)
                  have hd2 : decide (most < (ks.length : Int) - 1) = false := decide_eq_false (by omega)
                  go_wp2_with fail
                  refine (len_any w0.heap.size w0.heap.size rb5 most _ _ K7.out.x).mono ?_
                  rintro e w8 ⟨rfl, rfl⟩
                  rw [HL5.out]
                  go_wp2_with fail
                  go_roundw
                  case rel => exact ⟨k + 1, ks.eraseIdx j, rb5, by omega, by go_num, by rw [HL6.out], K7.out⟩
                  case measure => simp [intOf]; omega
                · go_wp2_with fail -- ARM c2in
                  refine HAT.out.mono ?_
                  rintro e w3 ⟨v, rfl, ⟨A3, c3, rfl, ho3⟩, hb3⟩
                  simp only [List.length_cons, List.length_nil] at ho3 ⊢
                  have S3 := Lib.hid (SA.out.below hb3)
                  have hn3 := Lib.hid S3.out.x.no_new
                  have S4 := Lib.hid (S3.out.alloc (.cells #[.int .i64 q, .slice A3 2 c3] 37))
                  have P4 : Hid (PD.ok ⟨q, A3, c3, [UInt8.ofNat q, 7]⟩ (w3.alloc (.cells #[.int .i64 q, .slice A3 2 c3] 37)) (wr.alloc (.cells #[.int .i64 2, .int .i64 j, .slice AB nB cB] 34)).heap.size) := ho3.alloc _
                  have o3 := ((Blk.new wr 34 #[.int .i64 2, .int .i64 j, .slice AB nB cB]).below hb3 (by simp)).alloc (.cells #[.int .i64 q, .slice A3 2 c3] 37)
                  have o31 := o3.cell 1
                  have o30 := o3.cell 0
                  simp at o31 o30
                  have hz3 := hb3.size
                  simp at hz3
                  have Hq := Lib.hid hq
                  clear ho3 hb3 o3 hnp hj hq
                  go_wp2_with fail
                  refine (drop_any w0.heap.size w0.heap.size rb most (keysL ks) j _ S4.out.x).mono ?_
                  rw [HDJ.out, Hok.out]
                  rintro e w5 ⟨rb5, rfl, hx5, hm5, hf5⟩
                  have K5 := Lib.hid (S4.out.step hx5 hf5 HEJ.out)
                  have r5 := (Blk.new w3 37 #[.int .i64 q, .slice A3 2 c3]).fr hf5 hn3.out
                  obtain ⟨⟨p0, p1⟩, _⟩ := Blk.two r5
                  have hzz := r5.lt
                  have ho5 := P4.out.fr hf5 S4.out.x.nobytes
                  have R5 := Lib.hid (Reads.of_own ho5)
                  have hcell := (K5.out.c.cell q).trans (cntA_at ks hq3)
                  have hfz := K5.out.c.frozen q
                  have hz5 := K5.out.c.lt
                  have hcl : (ks.count q : Int) ≤ 200 := by have := List.count_le_length (a := q) (l := ks); omega
                  have hcn : (1 : Int) ≤ (ks.count q : Int) := by have := HCJ.out; omega
                  have hle : ((keysL (ks.eraseIdx j)).length : Int) = (ks.length : Int) - 1 := by have := HEL.out; rw [keysL_length]; omega
                  have hle2 : ((ks.eraseIdx j).length : Int) = (ks.length : Int) - 1 := by have := HEL.out; omega
                  have hl1 : (1 : Int) ≤ (ks.length : Int) := by have := HEL.out; omega
                  have HL5 := Lib.hid hle
                  have HL6 := Lib.hid hle2
                  have hq2 : (q : Int) % 256 = q := by omega
                  have HO := HOJ
                  clear hx5 hf5 hm5 r5 ho5 hle hle2 P4 HCJ HEL HAT S3 HOJ
                  generalize (ks.count q : Int) = cn at hcell hcl hcn HO
                  have K6 := Lib.hid fun (w' : World) (h : KSt w0.heap.size w2.heap.size w rb5 most (ks.eraseIdx j) ks w') => h.set q _ HO.out
                  go_wp2_with fail
                  simp only [Hq.out, hq2]
                  refine (beqs_any A3 (some ⟨w5.heap.size, 0, none⟩) 2 c3 2 2 [UInt8.ofNat q, 7] [UInt8.ofNat q, 7] _ ((R5.out.alloc (Nat.le_refl _) _).more (by simp)) ((reads_pair w5 (UInt8.ofNat q) 7 q 7 hqb.out rfl _ _).more (by simp))).mono ?_
                  rintro e w6 ⟨rfl, rfl⟩
                  rw [beq_self_eq_true]
                  have K7 := Lib.hid ((K6.out _ K5.out).alloc (.cells #[.int .u8 q, .int .u8 7] 5))
                  clear K6 hqb
                  have hfz2 : (w5.alloc (.cells #[.int .u8 q, .int .u8 7] 5)).frozen? ⟨w2.heap.size, q, none⟩ = false := (K5.out.alloc _).c.frozen q
                  have hd : decide (cn < 1) = false := decide_eq_false (by omega)
                  have hd2 : decide (most < (ks.length : Int) - 1) = false := decide_eq_false (by omega)
                  go_wp2_with fail
                  refine (len_any w0.heap.size w0.heap.size rb5 most _ _ K7.out.x).mono ?_
                  rintro e w8 ⟨rfl, rfl⟩
                  rw [HL5.out]
                  go_wp2_with fail
                  go_roundw
                  case rel => exact ⟨k + 1, ks.eraseIdx j, rb5, by omega, by go_num, by rw [HL6.out], K7.out⟩
                  case measure => simp [intOf]; omega
                · go_wp2_with fail
                  refine HAT.out.mono ?_
                  rintro e w3 ⟨v, rfl, ⟨A3, c3, rfl, ho3⟩, hb3⟩
                  simp only [List.length_cons, List.length_nil] at ho3 ⊢
                  have S3 := Lib.hid (SA.out.below hb3)
                  have hn3 := Lib.hid S3.out.x.no_new
                  have S4 := Lib.hid (S3.out.alloc (.cells #[.int .i64 q, .slice A3 2 c3] 37))
                  have o3 := ((Blk.new wr 34 #[.int .i64 3, .int .i64 j, .slice AB nB cB]).below hb3 (by simp)).alloc (.cells #[.int .i64 q, .slice A3 2 c3] 37)
                  have o31 := o3.cell 1
                  simp at o31
                  have hz3 := hb3.size
                  simp at hz3
                  clear ho3 hb3 o3
                  go_wp2_with fail
                  by_cases hfull : most ≤ (ks.length : Int)
                  · refine (copyp_any w0.heap.size w0.heap.size rb most (keysL ks) j _ S4.out.x S4.out.base).mono ?_ -- ARM c3full
                    rw [copyL_yes Hok.out, putL_full (by rw [hks]; exact hfull)]
                    rintro e w5 ⟨rb5, rfl, hx5, hm5, hf5⟩
                    have K5 := Lib.hid (S4.out.step hx5 hf5 S4.out.lt)
                    clear hx5 hf5 hm5 hq hnp hj hq3 hq4 hq5 hqb HOJ HCJ HDJ HEJ HEL HAT Hat' Hok hfull
                    go_wp2_with fail
                    refine (len_any w0.heap.size w0.heap.size rb5 most _ w5 K5.out.x).mono ?_
                    rintro e w6 ⟨rfl, rfl⟩
                    rw [hks]
                    go_wp2_with fail
                    go_roundw
                    case rel => exact ⟨k + 1, ks, rb5, by omega, by go_num, rfl, K5.out⟩
                    case measure => simp [intOf]; omega
                  · refine (copyp_any w0.heap.size w0.heap.size rb most (keysL ks) j _ S4.out.x S4.out.base).mono ?_ -- ARM c3room
                    rw [copyL_yes Hok.out, Hat'.out, putL_ok (by rw [hks]; exact hfull) (by simp), keysL_snoc]
                    rintro e w5 ⟨rb5, rfl, hx5, hm5, hf5⟩
                    have K5 := Lib.hid (S4.out.step hx5 hf5 (by intro i hi; rcases List.mem_append.1 hi with hi | hi; exact SA.out.lt i hi; simp at hi; omega))
                    have r5 := (Blk.new w3 37 #[.int .i64 q, .slice A3 2 c3]).fr hf5 hn3.out
                    obtain ⟨⟨p0, p1⟩, _⟩ := Blk.two r5
                    have hzz := r5.lt
                    have hl4 : ((keysL (ks ++ [q])).length : Int) = (ks.length : Int) + 1 := by rw [keysL_length]; simp
                    have hcell := (K5.out.c.cell q).trans (cntA_at ks hq3)
                    have hfz := K5.out.c.frozen q
                    have hz5 := K5.out.c.lt
                    have hcl : (ks.count q : Int) ≤ 200 := by have := List.count_le_length (a := q) (l := ks); omega
                    have hcn : (0 : Int) ≤ (ks.count q : Int) := Int.natCast_nonneg _
                    have K6 := Lib.hid (K5.out.set q _ (cntA_put ks hq3))
                    have HL4 := Lib.hid hl4
                    clear hx5 hf5 hm5 hl4 r5 HOJ HCJ HDJ HEJ HEL HAT Hat' Hok hqb
                    generalize (ks.count q : Int) = cn at hcell hcl hcn K6
                    have hlm' : (ks.length : Int) < most := by omega
                    clear hfull hnp hj
                    go_wp2_with fail
                    refine (len_any w0.heap.size w0.heap.size rb5 most _ _ K6.out.x).mono ?_
                    rintro e w6 ⟨rfl, rfl⟩
                    rw [HL4.out]
                    go_wp2_with fail
                    go_roundw
                    case rel => exact ⟨k + 1, ks ++ [q], rb5, by omega, by go_num, by simp, K6.out⟩
                    case measure => simp [intOf]; omega
              · have hok : okL (keysL ks) np = false := okL_out (by rw [hks]; omega)
                have hat' := atL_out hok
                have hDj := dropL_out hok
                have hCj := copyL_no (most := most) hok
                rw [hok, hat'] at ha
                simp only at ha
                have HAT := Lib.hid ha
                have Hok := Lib.hid hok
                have Hat' := Lib.hid hat'
                have HDJ := Lib.hid hDj
                have HCJ := Lib.hid hCj
                clear ha hok hat' hDj hCj hnp
                rcases h123 with rfl | rfl | rfl
                · go_wp2_with fail -- ARM c1out
                  refine HAT.out.mono ?_
                  rintro e w3 ⟨v, rfl, ⟨A3, c3, rfl, ho3⟩, hb3⟩
                  simp only [List.length_nil] at ho3 ⊢
                  have S3 := Lib.hid (SA.out.below hb3)
                  have hn3 := Lib.hid S3.out.x.no_new
                  have S4 := Lib.hid (S3.out.alloc (.cells #[.int .i64 0, .slice A3 0 c3] 37))
                  have o3 := ((Blk.new wr 34 #[.int .i64 1, .int .i64 np, .slice AB nB cB]).below hb3 (by simp)).alloc (.cells #[.int .i64 0, .slice A3 0 c3] 37)
                  have o31 := o3.cell 1
                  have o30 := o3.cell 0
                  simp at o31 o30
                  have hz3 := hb3.size
                  simp at hz3
                  clear ho3 hb3 o3
                  go_wp2_with fail
                  refine (take_any w0.heap.size w0.heap.size rb most (keysL ks) np _ S4.out.x S4.out.base).mono ?_
                  rintro e w4 ⟨v, rb5, rfl, ⟨A4, c4, rfl, ho4⟩, hx4, hm4, hf4⟩
                  rw [Hok.out]
                  rw [HDJ.out] at hx4
                  rw [Hat'.out] at ho4 ⊢
                  simp only [List.length_nil] at ho4 ⊢
                  have K4 := Lib.hid (S4.out.step hx4 hf4 S4.out.lt)
                  have r4 := (Blk.new w3 37 #[.int .i64 0, .slice A3 0 c3]).fr hf4 hn3.out
                  obtain ⟨⟨p0, p1⟩, _⟩ := Blk.two r4
                  have hzz := r4.lt
                  clear hx4 hf4 hm4 r4 ho4
                  go_wp2_with fail
                  refine (samep_any 0 0 A3 A4 c3 c4 [] [] _ Reads.none_ Reads.none_).mono ?_
                  rintro e w5 ⟨rfl, hb5⟩
                  have K5 := Lib.hid ((K4.out.alloc _).below hb5)
                  rw [beq_self_eq_true, decide_eq_true rfl]
                  clear K4 hb5
                  go_wp2_with fail
                  go_roundw
                  case rel => exact ⟨k + 1, ks, rb5, by omega, by go_num, rfl, K5.out⟩
                  case measure => simp [intOf]; omega
                · go_wp2_with fail -- ARM c2out
                  refine HAT.out.mono ?_
                  rintro e w3 ⟨v, rfl, ⟨A3, c3, rfl, ho3⟩, hb3⟩
                  simp only [List.length_nil] at ho3 ⊢
                  have S3 := Lib.hid (SA.out.below hb3)
                  have hn3 := Lib.hid S3.out.x.no_new
                  have S4 := Lib.hid (S3.out.alloc (.cells #[.int .i64 0, .slice A3 0 c3] 37))
                  have o3 := ((Blk.new wr 34 #[.int .i64 2, .int .i64 np, .slice AB nB cB]).below hb3 (by simp)).alloc (.cells #[.int .i64 0, .slice A3 0 c3] 37)
                  have o31 := o3.cell 1
                  have o30 := o3.cell 0
                  simp at o31 o30
                  have hz3 := hb3.size
                  simp at hz3
                  clear ho3 hb3 o3
                  go_wp2_with fail
                  refine (drop_any w0.heap.size w0.heap.size rb most (keysL ks) np _ S4.out.x).mono ?_
                  rw [HDJ.out, Hok.out]
                  rintro e w5 ⟨rb5, rfl, hx5, hm5, hf5⟩
                  have K5 := Lib.hid (S4.out.step hx5 hf5 S4.out.lt)
                  clear hx5 hf5 hm5
                  go_wp2_with fail
                  go_roundw
                  case rel => exact ⟨k + 1, ks, rb5, by omega, by go_num, rfl, K5.out⟩
                  case measure => simp [intOf]; omega
                · go_wp2_with fail -- ARM c3out
                  refine HAT.out.mono ?_
                  rintro e w3 ⟨v, rfl, ⟨A3, c3, rfl, ho3⟩, hb3⟩
                  simp only [List.length_nil] at ho3 ⊢
                  have S3 := Lib.hid (SA.out.below hb3)
                  have S4 := Lib.hid (S3.out.alloc (.cells #[.int .i64 0, .slice A3 0 c3] 37))
                  have o3 := ((Blk.new wr 34 #[.int .i64 3, .int .i64 np, .slice AB nB cB]).below hb3 (by simp)).alloc (.cells #[.int .i64 0, .slice A3 0 c3] 37)
                  have o31 := o3.cell 1
                  simp at o31
                  have hz3 := hb3.size
                  simp at hz3
                  clear ho3 hb3 o3
                  go_wp2_with fail
                  refine (copyp_any w0.heap.size w0.heap.size rb most (keysL ks) np _ S4.out.x S4.out.base).mono ?_
                  rw [HCJ.out]
                  rintro e w5 ⟨rb5, rfl, hx5, hm5, hf5⟩
                  have K5 := Lib.hid (S4.out.step hx5 hf5 S4.out.lt)
                  clear hx5 hf5 hm5
                  go_wp2_with fail
                  refine (len_any w0.heap.size w0.heap.size rb5 most _ w5 K5.out.x).mono ?_
                  rintro e w6 ⟨rfl, rfl⟩
                  rw [hks]
                  go_wp2_with fail
                  go_roundw
                  case rel => exact ⟨k + 1, ks, rb5, by omega, by go_num, rfl, K5.out⟩
                  case measure => simp [intOf]; omega
            · have e0 : (kd == 0) = false := by simpa using h0 -- ARM cother
              have e1 : (kd == 1) = false := by simp; omega
              have e2 : (kd == 2) = false := by simp; omega
              have e3 : (kd == 3) = false := by simp; omega
              clear h0 h123
              go_wp2_with fail
              refine (len_any w0.heap.size w0.heap.size rb most _ _ SA.out.x).mono ?_
              rintro e w4 ⟨rfl, rfl⟩
              rw [hks]
              go_wp2_with fail
              go_roundw
              case rel => exact ⟨k + 1, ks, rb, by omega, by go_num, rfl, SA.out⟩
              case measure => simp [intOf]; omega
        · go_wp2_with fail -- ARM exit
          refine (first_any _).mono ?_
          rintro e w7 ⟨rfl, hb7⟩
          go_wp2_with fail
          go_ret
          exact ⟨rfl, HS.out.b.trans (hb7.mono HS.out.b.size)⟩
  · have hnew := fun w => new_out most w hin -- ARM sizeout
    have hno : most < 1 ∨ 200 < most := by omega
    clear hin
    go_enter Try.func4, Try.ntmps4
    go_wp2_with fail
    refine (first_any w).mono ?_
    rintro e w0 ⟨rfl, hb0⟩
    go_wp2_with fail
    refine (hnew w0).mono ?_
    rintro e w1 ⟨rfl, rfl⟩
    go_wp2_with fail
    refine (first_any w0).mono ?_
    rintro e w2 ⟨rfl, hb2⟩
    go_wp2_with fail
    go_ret
    exact ⟨rfl, hb0.trans (hb2.mono hb0.size)⟩
end Go.Proofs.Ytoiopoebjchjeaa
