/-
  The reference's circle by contract: the shortest one through a party.
-/
import Derived.Test.YthoniedmeeahgaaRefCircLaw
import Derived.Test.YthoniedmeeahgaaCirc
import Derived.Test.YthoniedmeeahgaaEdge
import Derived.BigRegion
import Derived.Lib.QuietBelow
import Derived.BigQuiet
namespace Go.Proofs.Ythoniedmeeahgaa
open Go.RowKit Go.Maps Go.Sort

/-- Whom the search has reached, and from where: two rows. -/
structure RcM (w : World) (vO vB : Value) (ord : List Int) (by_ : List Nat) (wr : World) : Prop where
  own : wr.ownsRow w.heap.size 3 1 vO ord.length (iCells ord)
  ownB : wr.ownsRow w.heap.size 3 1 vB (byL by_).length (iCells (byL by_))
  apart : ∀ k, vO.ownBlock = some k → vB.ownBlock ≠ some k
  bel : Below w.heap.size w wr
section
variable {w wr w' w5 w6 : World} {vO vB v5 v6 : Value} {ord : List Int} {by_ : List Nat} {o o' : Obj} {q : Int} {a : Nat}
theorem RcM.below (h : RcM w vO vB ord by_ wr) (hb : Below wr.heap.size wr w') : RcM w vO vB ord by_ w' :=
  ⟨own_below h.own hb, own_below h.ownB hb, h.apart, h.bel.trans (hb.mono h.bel.size)⟩
theorem RcM.more (h : RcM w vO vB ord by_ wr) (hby : 0 < by_.length) (ho5 : w5.ownsRow w.heap.size 3 1 v5 (ord.length + 1) (iCells ord ++ [.int .i64 q])) (hg5 : (wr.alloc o).grownBy w5 vO.ownBlock) (hat5 : v5.ownBlock = vO.ownBlock ∨ v5.ownBlock = some (wr.alloc o).heap.size)
    (ho6 : w6.ownsRow w.heap.size 3 1 v6 ((byL by_).length + 1) (iCells (byL by_) ++ [.int .i64 (a : Nat)])) (hg6 : (w5.alloc o').grownBy w6 vB.ownBlock) (hat6 : v6.ownBlock = vB.ownBlock ∨ v6.ownBlock = some (w5.alloc o').heap.size) : RcM w v5 v6 (ord ++ [q]) (by_ ++ [a]) w6 := by
  have hb : Below wr.heap.size wr (wr.alloc o) := (Below.refl _ _).alloc (Nat.le_refl _) _
  have hb5 : Below w5.heap.size w5 (w5.alloc o') := (Below.refl _ _).alloc (Nat.le_refl _) _
  have ha : ∀ k, v5.ownBlock = some k → vB.ownBlock ≠ some k := fun k hk hB => by
    rcases hat5 with e | e
    · exact h.apart k (by rw [← e]; exact hk) hB
    · rw [e] at hk
      injection hk with hk
      have := (own_block h.ownB hB).2.1
      simp at hk
      omega
  refine ⟨?_, ?_, fun k hk h6 => ?_, ?_⟩
  · rw [List.length_append, iCells_snoc]
    exact own_fr (own_below ho5 hb5) (Fr.of_grown (S := fun i => vB.ownBlock = some i) hg6 (fun i hi => hi)) (fun k hk hB => ha k hk hB)
  · rw [byL_snoc hby, List.length_append, iCells_snoc]
    exact ho6
  · rcases hat6 with e | e
    · exact ha k hk (by rw [← e]; exact h6)
    · rw [e] at h6
      injection h6 with h6
      have := (own_block ho5 hk).2.1
      simp at h6
      omega
  · have h1 := h.bel.trans (hb.mono h.bel.size)
    have h2 := h1.grown hg5 h1.size (fun j hj => (own_block h.own hj).1)
    have h3 := h2.trans (hb5.mono h2.size)
    exact h3.grown hg6 h3.size (fun j hj => (own_block h.ownB hj).1)
end
theorem RcM.start (w : World) (s : Int) : RcM w (.slice (some ⟨w.heap.size, 0, none⟩) 1 1) (.slice (some ⟨w.heap.size + 1, 0, none⟩) 1 1) [s] [0] ((w.alloc (.cells #[.int .i64 s] 3)).alloc (.cells #[.int .i64 (-1)] 3)) := by
  have h1 := own_one w w.heap.size 3 (.int .i64 s) (Nat.le_refl _)
  have h2 := own_one (w.alloc (.cells #[.int .i64 s] 3)) w.heap.size 3 (.int .i64 (-1)) (by simp)
  simp only [World.size_alloc] at h2
  refine ⟨own_below h1 ((Below.refl _ _).alloc (Nat.le_refl _) _), h2, fun k h h' => ?_, ((Below.refl _ _).alloc (Nat.le_refl _) _).alloc (by simp) _⟩
  simp [Value.ownBlock] at h h'
  omega
set_option maxRecDepth 100000 in
set_option maxHeartbeats 16000000 in
theorem refcircle_any (xs : List NetD) (A : Option Addr) (c : Nat) (all : List Int) (B : Option Addr) (d : Nat) (s : Int) (w : World) (ha : 0 < xs.length → ∃ b o, A = some ⟨b, o, none⟩ ∧ NetAt w xs b o) (hm : MayX xs) (hall : PartsAt w (.slice B all.length d) all) (hal : all.length ≤ 64) :
    Calls Try.prog 25 #[.slice A xs.length c, .slice B all.length d, .int .i64 s] w fun e w' => ∃ v, e = .returned v ∧ w'.ownsRow w.heap.size 3 1 v (circleL xs all s).length (iCells (circleL xs all s)) ∧ Below w.heap.size w w' := by
  obtain ⟨i0, hi0, hz0, hz1, hz2⟩ := info_parts int_row
  have HE := Lib.hid (fun (f t : Int) (W : World) (hb : Below w.heap.size w W) => edge_any xs A c f t W (fun hn => by
    obtain ⟨b, o, e, hN⟩ := ha hn
    exact ⟨b, o, e, hN.below hb⟩) hm (hasE xs f t) rfl)
  have HAL := Lib.hid hall
  have HR0 := Lib.hid (RcM.start w s)
  have HC0 := Lib.hid (RcAt.start xs all s)
  clear ha hall
  go_enter Try.func25, Try.ntmps25
  go_wp2_with fail
  go_loopw [7, 8, 9] (fun vO vB i wr => ∃ (at_ : Nat) (ord : List Int) (by_ : List Nat), i = .int .i64 at_ ∧ RcAt xs all s at_ ord by_ ∧ RcM w vO vB ord by_ wr) (fun _ _ i _ => all.length + 2 - (intOf i).toNat)
  case atStart => exact ⟨0, [s], [0], rfl, HC0.out, HR0.out⟩
  case round =>
    obtain ⟨at_, ord, by_, rfl, hR, hM⟩ := hrel
    clear HR0 HC0
    have hol := hR.len
    have hpos := hR.inv.pos
    have hle := hR.inv.le
    have hbl := hR.inv.len
    have ha0 : (0 : Int) ≤ (at_ : Int) := Int.natCast_nonneg _
    have ea : IntKind.i64.wrap ((at_ : Int) + 1) = (at_ : Int) + 1 := by rw [IntKind.wrap_i64]; omega
    obtain ⟨AO, cO, rfl⟩ := own_shape hM.own
    obtain ⟨AB, cB, rfl⟩ := own_shape hM.ownB
    obtain ⟨gO, rfl, hgO, hcO⟩ := own_ints hM.own hpos rfl
    have hBl := byL_len (by_ := by_) (by omega)
    obtain ⟨gB, rfl, hgB, hcB⟩ := own_ints hM.ownB (by omega) rfl
    have HBL := Lib.hid (show (byL by_).length = ord.length from hBl.trans hbl)
    have HBY := Lib.hid hbl
    clear hBl hbl
    by_cases hlt : at_ < ord.length
    · obtain ⟨p, hpp⟩ : ∃ p, p = ord.getD at_ 0 := ⟨_, rfl⟩ -- ARM round
      have hlo : (at_ : Int) < (ord.length : Int) := by omega
      have c0 := hcO at_ hlt
      rw [← getD_eq hlt 0, ← hpp] at c0
      have HR := Lib.hid hR
      have HM := Lib.hid hM
      have HCB := Lib.hid hcB
      have HCO := Lib.hid hcO
      have HPP := Lib.hid hpp
      have HB := Lib.hid hM.bel
      clear hR hM hcO hcB hpp
      go_wp2_with fail
      refine (HE.out p s wr HB.out).mono ?_
      rintro e w4 ⟨rfl, hb4⟩
      have HM4 := Lib.hid (HM.out.below hb4)
      have hgO4 := Nat.lt_of_lt_of_le hgO hb4.size
      have hgB4 := Nat.lt_of_lt_of_le hgB hb4.size
      cases he : hasE xs p s with
      | true => -- ARM found
        have hC := HR.out.found hlt (by rw [← HPP.out]; exact he)
        obtain ⟨C, hCe⟩ : ∃ C, C = circleL xs all s := ⟨_, rfl⟩
        rw [← hCe] at hC
        have HCC := Lib.hid hC
        have HCE := Lib.hid hCe
        clear hC hCe he c0 hb4
        go_wp2_with fail
        go_loopw [10, 11] (fun out kv wq => ∃ acc : List Int, ((kv = .int .i64 (-1) ∧ acc = C) ∨ (∃ k : Nat, kv = .int .i64 k ∧ BkAt ord by_ C k acc ∧ acc.length + k ≤ at_)) ∧ acc.length ≤ at_ + 1 ∧ wq.ownsRow w.heap.size 3 1 out acc.length (iCells acc) ∧ RcM w (.slice (some ⟨gO, 0, none⟩) ord.length cO) (.slice (some ⟨gB, 0, none⟩) (byL by_).length cB) ord by_ wq) (fun _ kv _ => (intOf kv + 1).toNat)
        case atStart => exact ⟨[], .inr ⟨at_, rfl, by rw [HCC.out]; exact BkAt.start hlt, by simp⟩, by simp, World.ownsRow_nil _ _ _ _, HM4.out⟩
        case round =>
          obtain ⟨acc, hkv, hacc, hown, hMq⟩ := hrel
          obtain ⟨Ab, cb, rfl⟩ := own_shape hown
          rcases hkv with ⟨rfl, hAC⟩ | ⟨k, rfl, hbk, hak⟩
          · have HO := Lib.hid hown -- ARM ends
            have HMQ := Lib.hid hMq
            have HAC := Lib.hid hAC
            clear hown hMq hAC
            go_wp2_with fail
            go_ret
            rw [← HCE.out, ← HAC.out]
            exact ⟨_, rfl, HO.out, HMQ.out.bel⟩
          · have hkl := hbk.lt -- ARM steps
            have hki : (k : Int) < (ord.length : Int) := by omega
            have hkB : (k : Int) < ((byL by_).length : Int) := by have := HBL.out; omega
            have hk0 : (0 : Int) ≤ (k : Int) := Int.natCast_nonneg _
            have dk : decide ((0 : Int) ≤ (k : Int)) = true := decide_eq_true hk0
            obtain ⟨gO', hv1, hg1, hc1⟩ := own_ints hMq.own hpos rfl
            obtain ⟨gB', hv2, hg2, hc2⟩ := own_ints hMq.ownB (by have := HBL.out; omega) rfl
            injection hv1 with hv1
            injection hv1 with hv1 _ _
            injection hv2 with hv2
            injection hv2 with hv2 _ _
            subst hv1 hv2
            have k1 := hc1 k hkl
            have k2 := hc2 k (by have := HBL.out; omega)
            rw [← getD_eq hkl 0] at k1
            rw [← getD_eq (by have := HBL.out; omega) 0] at k2
            obtain ⟨x, hx⟩ : ∃ x, x = ord.getD k 0 := ⟨_, rfl⟩
            obtain ⟨y, hy⟩ : ∃ y, y = (byL by_).getD k 0 := ⟨_, rfl⟩
            rw [← hx] at k1
            rw [← hy] at k2
            have HNX := Lib.hid (show ((y = -1 ∧ x :: acc = C) ∨ (∃ k' : Nat, y = (k' : Int) ∧ k' < k ∧ BkAt ord by_ C k' (x :: acc) ∧ (x :: acc).length + k' ≤ at_)) from by
              by_cases h0 : k = 0
              · subst h0
                exact .inl ⟨by rw [hy]; rfl, by rw [hx]; exact hbk.zero.symm⟩
              · obtain ⟨h1, h2⟩ := hbk.step HR.out.inv h0
                refine .inr ⟨by_.getD k 0, by rw [hy]; exact byL_at (by have := HBY.out; omega) h0, h2, by rw [hx]; exact h1, ?_⟩
                rw [List.length_cons]
                omega)
            have hal2 : acc.length + 1 ≤ 200 := by omega
            have HO := Lib.hid hown
            have HMQ := Lib.hid hMq
            have HBQ := Lib.hid hMq.bel
            clear hown hMq hbk hc1 hc2 hx hy
            go_wp2_with (at_builtin; refine wpList_append_any _ rfl (.tmp 40) (.tmp 41) _ rfl w.heap.size 3 i0 _ 1 8 Try.underlying29 hi0 hz0 hz1 hz2 rfl (by omega) (.slice (some ⟨wr.heap.size, 0, none⟩) 1 1) 1 [.int .i64 x] rfl (own_one wr w.heap.size 3 (.int .i64 x) HBQ.out.size) wr.heap.size Ab acc.length cb (iCells acc) rfl ((Reads.of_own HO.out).alloc (Nat.le_refl _) _) (iCells_one _) (by simp only [maxLen]; omega) (by omega) (by have := HBQ.out.size; simp; omega) ?_; intro v6 w6 hown6 hg6 hat6; have hb6 : Below wr.heap.size wr w6 := Below.grown ((Below.refl _ _).alloc (Nat.le_refl _) _) hg6 (by simp) (fun j hj => by simp [Value.ownBlock] at hj; omega); have k2' := (hb6.cell (p := ⟨gB, k, none⟩) hg2).trans k2; have hg2' := Nat.lt_of_lt_of_le hg2 hb6.size)
            have HM6 := Lib.hid (HMQ.out.below hb6)
            have HO6 := Lib.hid (show w6.ownsRow w.heap.size 3 1 v6 (x :: acc).length (iCells (x :: acc)) from by
              rw [List.length_cons, Nat.add_comm]
              exact hown6)
            rcases HNX.out with ⟨rfl, hC⟩ | ⟨k', rfl, hk', hbk', hak'⟩
            · exact ⟨⟨x :: acc, .inl ⟨rfl, hC⟩, by rw [List.length_cons]; omega, HO6.out, HM6.out⟩, by simp only [intOf]; omega⟩
            · exact ⟨⟨x :: acc, .inr ⟨k', rfl, hbk', hak'⟩, by omega, HO6.out, HM6.out⟩, by simp only [intOf]; omega⟩
      | false => -- ARM not
        clear c0 hb4
        go_wp2_with fail
        go_loopw [7, 8, 12] (fun vO vB iv wq => ∃ i : Nat, i ≤ all.length ∧ iv = .int .i64 i ∧ RcM w vO vB (reach xs p at_ (all.take i) ord by_).1 (reach xs p at_ (all.take i) ord by_).2 wq) (fun _ _ iv _ => all.length - (intOf iv).toNat)
        case atStart => exact ⟨0, Nat.zero_le _, rfl, HM4.out⟩
        case round =>
          obtain ⟨i, hi, rfl, hMq⟩ := hrel
          have hin0 : (0 : Int) ≤ (i : Int) := Int.natCast_nonneg _
          obtain ⟨hI, zs, hzs⟩ := HR.out.mid hlt i
          rw [← HPP.out] at hI hzs
          by_cases hli : i < all.length
          · have hsn := reach_snoc xs p at_ all ord by_ hli -- ARM party
            obtain ⟨X, hX⟩ : ∃ X, X = reach xs p at_ (all.take i) ord by_ := ⟨_, rfl⟩
            rw [← hX] at hMq hI hzs hsn
            have hXl := nodup_le hI.nd hI.sub
            have hXb := hI.len
            have hXB := byL_len (by_ := X.2) (by have := hI.pos; omega)
            have HXB := Lib.hid hXB
            have HXb := Lib.hid hXb
            have hXY : (byL X.2).length ≤ 100 := by omega
            have hXp : 0 < X.2.length := by have := hI.pos; omega
            have HXP := Lib.hid hXp
            clear hXB hXb hXp
            have hat : at_ < X.1.length := by rw [hzs]; simp; omega
            have hpX : X.1.getD at_ 0 = p := by rw [hzs, getD_append_left' hlt, HPP.out]
            obtain ⟨AX, cX, rfl⟩ := own_shape hMq.own
            obtain ⟨AY, cY, rfl⟩ := own_shape hMq.ownB
            obtain ⟨gX, rfl, hgX, hcX⟩ := own_ints hMq.own hI.pos rfl
            have q0 := hcX at_ hat
            rw [← getD_eq hat 0, hpX] at q0
            obtain ⟨bA, oA, cA, hvA, _, hzA, _, hcA⟩ := rdT_int HAL.out (by omega)
            injection hvA with hvA _ hcc
            subst hvA hcc
            have qa := (hMq.bel.cell (p := ⟨bA, oA + i, none⟩) hzA).trans (hcA i hli)
            have hzA2 := Nat.lt_of_lt_of_le hzA hMq.bel.size
            obtain ⟨q, hq⟩ : ∃ q, q = all[i] := ⟨_, rfl⟩
            rw [← hq] at qa hsn
            have hii : (i : Int) < (all.length : Int) := by omega
            have ei : IntKind.i64.wrap ((i : Int) + 1) = (i : Int) + 1 := by rw [IntKind.wrap_i64]; omega
            have hxa : (at_ : Int) < (X.1.length : Int) := by omega
            have k0 := cell_regrown q0
            have k1 := cell_regrown qa
            have cE : ∀ d os, Calls Try.prog 22 #[.slice A xs.length c, .int .i64 p, .int .i64 q] (grow (redrawn wr d) os) fun e w'' => e = .returned (.bool (hasE xs p q)) ∧ ∃ pp : Regrown, w'' = grow (redrawn wr pp.d) pp.os :=
              fun d os => Calls.regrown_of (HE.out p q _ (hMq.bel.trans ((below_regrown wr d os).mono hMq.bel.size)))
            have cH : ∀ d os, Calls Try.prog 38 #[.slice (some ⟨gX, 0, none⟩) X.1.length cX, .int .i64 q] (grow (redrawn wr d) os) fun e w'' => e = .returned (.bool (decide (q ∈ X.1))) ∧ ∃ pp : Regrown, w'' = grow (redrawn wr pp.d) pp.os :=
              fun d os => Calls.regrown_of ((has_any X.1 (some ⟨gX, 0, none⟩) cX q _ ((((Reads.of_own hMq.own).below (below_regrown wr d os)).more (below_regrown wr d os).size)) (by omega)).mono fun e w'' ⟨he, hw⟩ => ⟨he, by rw [hw]; exact Below.refl _ _⟩)
            have HSN := Lib.hid hsn
            have HMQ := Lib.hid hMq
            have HXX := Lib.hid hX
            clear hsn hMq hX hcX hcA hq hzs hI
            go_wp2_with fail
            obtain ⟨be, hbe⟩ : ∃ be, be = hasE xs p q := ⟨_, rfl⟩
            obtain ⟨bh, hbh⟩ : ∃ bh, bh = decide (q ∈ X.1) := ⟨_, rfl⟩
            rw [← hbe] at cE
            rw [← hbh] at cH
            have HBE := Lib.hid hbe
            have HBH := Lib.hid hbh
            clear hbe hbh
            cases be with
            | false => -- ARM noedge
              rw [if_neg (by rw [← HBE.out]; simp)] at HSN
              refine wp_region_quiet_below (by kernel_rfl) (by kernel_rfl) ?_
              repeat (first | go_big_quiet_step (first | exact cE _ _ | exact cH _ _) | quiet_step (first | exact cE _ _ | exact cH _ _))
              refine wpQuiet_nil ?_
              intro _ hw'
              obtain ⟨⟨dq, osq⟩, hw''⟩ := hw'
              subst hw''
              have HM9 := Lib.hid (HMQ.out.below (below_regrown wr dq osq))
              obtain ⟨W9, hW9⟩ : ∃ W9, W9 = grow (redrawn wr dq) osq := ⟨_, rfl⟩
              rw [← hW9] at HM9 ⊢
              clear hW9 k0 k1 cE cH q0 qa
              go_wp2_with fail
              exact ⟨⟨i + 1, hli, rfl, by rw [HSN.out]; exact HM9.out⟩, by simp only [intOf]; omega⟩
            | true =>
              cases bh with
              | true => -- ARM there
                rw [if_neg (fun h => h.2 (of_decide_eq_true HBH.out.symm))] at HSN
                refine wp_region_quiet_below (by kernel_rfl) (by kernel_rfl) ?_
                repeat (first | go_big_quiet_step (first | exact cE _ _ | exact cH _ _) | quiet_step (first | exact cE _ _ | exact cH _ _))
                refine wpQuiet_nil ?_
                intro _ hw'
                obtain ⟨⟨dq, osq⟩, hw''⟩ := hw'
                subst hw''
                have HM9 := Lib.hid (HMQ.out.below (below_regrown wr dq osq))
                obtain ⟨W9, hW9⟩ : ∃ W9, W9 = grow (redrawn wr dq) osq := ⟨_, rfl⟩
                rw [← hW9] at HM9 ⊢
                clear hW9 k0 k1 cE cH q0 qa
                go_wp2_with fail
                exact ⟨⟨i + 1, hli, rfl, by rw [HSN.out]; exact HM9.out⟩, by simp only [intOf]; omega⟩
              | false => -- ARM new
                rw [if_pos ⟨HBE.out.symm, of_decide_eq_false HBH.out.symm⟩] at HSN
                refine wp_region_quiet_below (by kernel_rfl) (by kernel_rfl) ?_
                repeat (first | go_big_quiet_step (first | exact cE _ _ | exact cH _ _) | quiet_step (first | exact cE _ _ | exact cH _ _))
                refine wpQuiet_nil ?_
                intro _ hw'
                obtain ⟨⟨dq, osq⟩, hw''⟩ := hw'
                subst hw''
                have HM9 := Lib.hid (HMQ.out.below (below_regrown wr dq osq))
                have qa9 := k1 dq osq
                have hz9 := Nat.lt_of_lt_of_le hzA2 (below_regrown wr dq osq).size
                obtain ⟨W9, hW9⟩ : ∃ W9, W9 = grow (redrawn wr dq) osq := ⟨_, rfl⟩
                rw [← hW9] at HM9 qa9 hz9 ⊢
                have HB9 := Lib.hid HM9.out.bel
                clear hW9 k0 k1 cE cH q0 qa
                go_wp2_with (first
                  | (at_builtin; refine wpList_append_any _ rfl (.tmp 69) (.tmp 74) _ rfl w.heap.size 3 i0 _ 1 8 Try.underlying29 hi0 hz0 hz1 hz2 rfl (by omega) (.slice (some ⟨gX, 0, none⟩) X.1.length cX) X.1.length (iCells X.1) rfl (own_below HM9.out.own ((Below.refl _ _).alloc (Nat.le_refl _) _)) (W9.heap.size + 1) (some ⟨W9.heap.size, 0, none⟩) 1 1 [.int .i64 q] rfl (reads_one W9 _ _) (by simp [Value.oneCell']) (by simp only [maxLen]; omega) (by omega) (by have := HB9.out.size; simp; omega) ?_; intro v5 w5 hown5 hg5 hat5; have hz5 : W9.heap.size ≤ w5.heap.size := Nat.le_trans (by simp) hg5.size)
                  | (at_builtin; refine wpList_append_any _ rfl (.tmp 76) (.tmp 78) _ rfl w.heap.size 3 i0 _ 1 8 Try.underlying29 hi0 hz0 hz1 hz2 rfl (by omega) (.slice AY (byL X.2).length cY) (byL X.2).length (iCells (byL X.2)) rfl (own_below (own_fr (own_below HM9.out.ownB ((Below.refl _ _).alloc (Nat.le_refl _) _)) (Fr.of_grown (S := fun i => (Value.slice (some ⟨gX, 0, none⟩) X.1.length cX).ownBlock = some i) hg5 (fun i hi => hi)) (fun k hk hB => HM9.out.apart k hB hk)) ((Below.refl _ _).alloc (Nat.le_refl _) _)) (w5.heap.size + 1) (some ⟨w5.heap.size, 0, none⟩) 1 1 [.int .i64 (at_ : Nat)] rfl (reads_one w5 _ _) (by simp [Value.oneCell']) (by simp only [maxLen]; omega) (by omega) (by have := HB9.out.size; simp; omega) ?_; intro v6 w6 hown6 hg6 hat6))
                have hM6 := HM9.out.more HXP.out hown5 hg5 hat5 hown6 hg6 hat6
                exact ⟨⟨i + 1, hli, rfl, by rw [HSN.out]; exact hM6⟩, by simp only [intOf]; omega⟩
          · obtain rfl : i = all.length := by omega -- ARM iend
            have hii : ¬ ((all.length : Int) < (all.length : Int)) := by omega
            rw [List.take_length] at hMq
            have hnx := HR.out.next hlt (by rw [← HPP.out]; exact he)
            rw [← HPP.out] at hnx
            have HNX := Lib.hid hnx
            have HMQ := Lib.hid hMq
            clear hnx hMq hI hzs
            go_wp2_with fail
            exact ⟨⟨at_ + 1, _, _, rfl, HNX.out, HMQ.out⟩, by simp only [intOf]; omega⟩
    · have hlo : ¬ ((at_ : Int) < (ord.length : Int)) := by omega -- ARM none
      have hov := hR.over hlt
      have HB := Lib.hid hM.bel
      have HOV := Lib.hid hov
      clear hR hM hcO hcB hov
      go_wp2_with fail
      go_ret
      rw [HOV.out]
      exact ⟨_, rfl, World.ownsRow_nil _ _ _ _, HB.out⟩
end Go.Proofs.Ythoniedmeeahgaa
