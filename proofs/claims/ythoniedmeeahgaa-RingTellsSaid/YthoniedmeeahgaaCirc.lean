/-
  (web).circle by contract: the shortest circle through a party.
-/
import Derived.Test.YthoniedmeeahgaaCircLaw
import Derived.Test.YthoniedmeeahgaaMapI
import Derived.Test.YthoniedmeeahgaaRev
namespace Go.Proofs.Ythoniedmeeahgaa
open Go.RowKit Go.Maps

theorem own_one (w : World) (base : Nat) (t : TypeId) (x : Value) (hb : base ≤ w.heap.size) : (w.alloc (.cells #[x] t)).ownsRow base t 1 (.slice (some ⟨w.heap.size, 0, none⟩) 1 1) 1 [x] :=
  ⟨rfl, .inr ⟨w.heap.size, 1, #[x], rfl, hb, heap_alloc_new w _, Nat.le_refl _, by unfold maxLen; omega, rfl, rfl⟩⟩
theorem int_row : (Try.prog.info? 3).map (fun i => (i.zero, i.size, i.bytes)) = some (some (.int .i64 0), 1, 8) := by kernel_rfl
theorem own_ints {w : World} {base n c : Nat} {A : Option Addr} {xs : List Int} (h : w.ownsRow base 3 1 (.slice A n c) n (iCells xs)) (hn : 0 < n) (hl : xs.length = n) : ∃ g, A = some ⟨g, 0, none⟩ ∧ g < w.heap.size ∧ ∀ k (hk : k < xs.length), w.cell? ⟨g, k, none⟩ = some (.int .i64 xs[k]) := by
  obtain ⟨g, cap, hv, _, hlt⟩ := h.form hn
  injection hv with hA _ _
  subst hA
  refine ⟨g, rfl, hlt, fun k hk => ?_⟩
  have h1 := h.cells (g := g) rfl k _ (iCells_at xs k hk)
  rwa [Addr.add_lit, Nat.zero_add] at h1
theorem iCells_snoc (xs : List Int) (x : Int) : iCells (xs ++ [x]) = iCells xs ++ [.int .i64 x] := by simp [iCells]
theorem iCells_len (xs : List Int) : (iCells xs).length = xs.length := by simp [iCells]
/-- What is in memory at a round's head. -/
structure CiAt (w : World) (es : List EdD) (vE : Value) (vO : Value) (wr : World) (ord : List Int) (M : Int → Option Int) : Prop where
  map : ∃ nn, nn ≤ ord.length ∧ MapI wr w.heap.size nn M
  own : wr.ownsRow w.heap.size 3 1 vO ord.length (iCells ord)
  ed : wr.ownsRow w.heap.size 47 2 vE es.length (eCells es)
  bel : Below w.heap.size w wr
section
variable {w wr w' : World} {es : List EdD} {vE vO : Value} {ord : List Int} {M : Int → Option Int}
theorem CiAt.below (h : CiAt w es vE vO wr ord M) (hb : Below wr.heap.size wr w') : CiAt w es vE vO w' ord M := by
  obtain ⟨nn, h1, h2⟩ := h.map
  exact ⟨⟨nn, h1, h2.below hb⟩, own_below h.own hb, own_below h.ed hb, h.bel.trans (hb.mono h.bel.size)⟩
end
/-- On the way back. -/
structure BkW (w wr : World) (ord : List Int) (M : Int → Option Int) (by_ : List Nat) (C : List Int) (at_ k : Nat) (acc : List Int) (p out : Value) (wq : World) : Prop where
  p : p = .int .i64 (ord.getD k 0)
  bk : BkAt ord by_ C k acc
  own : wq.ownsRow w.heap.size 3 1 out (acc.length + 1) (iCells (ord.getD k 0 :: acc).reverse)
  le : acc.length + k ≤ at_
  map : ∃ nn, nn ≤ 1001 ∧ MapI wq w.heap.size nn M
  bel : Below w.heap.size w wq
def CiRel (w : World) (xs : List NetD) (all : List Int) (s : Int) (es : List EdD) (vE : Value) (vO i : Value) (wr : World) : Prop :=
  ∃ (at_ : Nat) (ord : List Int) (by_ : List Nat) (M : Int → Option Int), i = .int .i64 at_ ∧ CrAt xs all s at_ ord by_ M ∧ CiAt w es vE vO wr ord M
/-- While the edges are gone through. -/
def CjRel (w : World) (p : Int) (at_ : Nat) (es : List EdD) (vE : Value) (ord : List Int) (by_ : List Nat) (vO i : Value) (wr : World) : Prop :=
  ∃ (j : Nat) (M : Int → Option Int), j ≤ es.length ∧ i = .int .i64 j ∧ ByOf (reachE p at_ (es.take j) (ord, by_)).1 (reachE p at_ (es.take j) (ord, by_)).2 M ∧ CiAt w es vE vO wr (reachE p at_ (es.take j) (ord, by_)).1 M
/-- One is reached. -/
theorem CiAt.more {w wr w4 w5 : World} {es : List EdD} {vE vO v5 : Value} {ord : List Int} {M M' : Int → Option Int} {o o' : Obj} {q : Int} {nn : Nat} (h : CiAt w es vE vO wr ord M) (hnn : nn ≤ ord.length)
    (hM : MapI w4 w.heap.size (nn + 1) M') (hg4 : (wr.alloc o).grownBy w4 (some w.heap.size)) (hg5 : (w4.alloc o').grownBy w5 vO.ownBlock) (ho5 : w5.ownsRow w.heap.size 3 1 v5 (ord.length + 1) (iCells ord ++ [.int .i64 q])) : CiAt w es vE v5 w5 (ord ++ [q]) M' := by
  have hb : Below wr.heap.size wr (wr.alloc o) := (Below.refl _ _).alloc (Nat.le_refl _) _
  have hb4 : Below w4.heap.size w4 (w4.alloc o') := (Below.refl _ _).alloc (Nat.le_refl _) _
  obtain ⟨_, _, hMr⟩ := (h.below hb).map
  have hf4 : Fr (fun i => i = w.heap.size) (wr.alloc o) w4 := Fr.of_grown hg4 (fun i hi => by injection hi with hi; exact hi.symm)
  have ho4 := own_below (own_fr (h.below hb).own hf4 (fun i hi h' => hMr.ne_own (h.below hb).own (by rw [hi, h']))) hb4
  have he4 := own_below (own_fr (h.below hb).ed hf4 (fun i hi h' => hMr.ne_own (h.below hb).ed (by rw [hi, h']))) hb4
  have hf5 : Fr (fun i => vO.ownBlock = some i) (w4.alloc o') w5 := Fr.of_grown hg5 (fun i hi => hi)
  refine ⟨⟨nn + 1, by simp; omega, (hM.below hb4).kept hg5 (fun e => (hM.below hb4).ne_own ho4 e.symm)⟩, by rw [List.length_append, iCells_snoc]; exact ho5, own_fr he4 hf5 (fun i hi h' => ?_), ?_⟩
  · obtain ⟨_, _, cs, hc⟩ := own_block he4 hi
    exact own_blk_ne ho4 hc (by decide) h'
  · have h1 := h.bel.trans (hb.mono h.bel.size)
    have h2 := h1.grown hg4 h1.size (fun j hj => by injection hj with hj; omega)
    have h3 := h2.trans (hb4.mono h2.size)
    exact h3.grown hg5 h3.size (fun j hj => (own_block ho4 hj).1)
set_option maxRecDepth 100000 in
set_option maxHeartbeats 4000000 in
theorem circle_any (b n : Nat) (xs : List NetD) (all : List Int) (s : Int) (w : World) (hw : WebAt w b n (TOf xs)) (hwf : ∀ x ∈ xs, wf64 x.f ∧ wf64 x.t) (hs : wf64 s) (hp : all.Pairwise (· < ·)) (hall : ∀ x ∈ xs, x.t ∈ all) (hal : ∀ q ∈ all, wf64 q) (hlen : all.length ≤ 1000) :
    Calls Try.prog 37 #[.map (some b), .int .i64 s] w fun e w' => ∃ v, e = .returned v ∧ (circleL xs all s = [] → v = .slice none 0 0) ∧ (circleL xs all s ≠ [] → ∃ a c, v = .slice (some a) (circleL xs all s).length c) ∧ PartsAt w' v (circleL xs all s) ∧ Below w.heap.size w w' := by
  obtain ⟨i0, hi0, hz0, hz1, hz2⟩ := info_parts int_row
  have hn := hw.small
  have hmm := @run_makeMap Try.prog
  obtain ⟨w2, hrun, hM2, hg2⟩ := (MapI.made w).put (M' := updI (fun _ => none) s s) hs hs (by decide) (by simp [updI]) (fun q' h => by simp [updI, h])
  have HWF := Lib.hid hwf
  have HP := Lib.hid hp
  have HA := Lib.hid hall
  have HL := Lib.hid hal
  have HW := Lib.hid hw
  clear hwf hp hall hal hw
  go_enter Try.func37, Try.ntmps37
  go_wp2_with fail
  clear hmm
  have hb2 : Below w.heap.size w w2 := below_only ((Below.refl w.heap.size w).alloc (Nat.le_refl _) (.map #[] 0)) hg2 (by simp) (Nat.le_refl _)
  have hb2' : Below w.heap.size w (w2.alloc (.cells #[.int .i64 s] 3)) := hb2.alloc hb2.size _
  refine (sorted_any b n (TOf xs) _ (HW.out.below hb2')).mono ?_
  rintro e w3 ⟨vE, es, rfl, hE, hel, hoE, hb3⟩
  obtain ⟨AE, cE, rfl⟩ := own_shape hoE
  have hC0 : CiAt w es (.slice AE es.length cE) (.slice (some ⟨w2.heap.size, 0, none⟩) 1 1) w3 [s] (updI (fun _ => none) s s) :=
    ⟨⟨1, by simp, (hM2.below ((Below.refl _ _).alloc (Nat.le_refl _) (.cells #[.int .i64 s] 3))).below hb3⟩, own_below (own_one w2 w.heap.size 3 (.int .i64 s) hb2.size) hb3, own_mono hoE hb2'.size, hb2'.trans (hb3.mono hb2'.size)⟩
  have HC0 := Lib.hid hC0
  have HE := Lib.hid hE
  clear hC0 hE hoE hb3 hb2' hb2 hg2 hM2 hrun
  go_wp2_with fail
  go_loopw [6, 8] (fun vO i wr => CiRel w xs all s es (.slice AE es.length cE) vO i wr) (fun _ i _ => all.length + 1 - (intOf i).toNat)
  case atStart => exact ⟨0, [s], [0], _, rfl, CrAt.start xs all s, HC0.out⟩
  case round =>
    obtain ⟨at_, ord, by_, M, rfl, hR, hC⟩ := hrel
    clear HC0
    have hol := hR.len
    have hpos := hR.inv.pos
    have hle := hR.inv.le
    have ho := hC.own
    obtain ⟨AO, cO, rfl⟩ := own_shape ho
    obtain ⟨gO, rfl, hgO, hcO⟩ := own_ints ho hpos rfl
    have ha0 : (0 : Int) ≤ (at_ : Int) := Int.natCast_nonneg _
    have ea : IntKind.i64.wrap ((at_ : Int) + 1) = (at_ : Int) + 1 := by rw [IntKind.wrap_i64]; omega
    have hAO : (Value.slice (some ⟨gO, 0, none⟩) ord.length cO) = .slice (some ⟨gO, 0, none⟩) ord.length cO := rfl
    clear ho
    by_cases hlt : at_ < ord.length
    · obtain ⟨p, hpp⟩ : ∃ p, p = ord.getD at_ 0 := ⟨_, rfl⟩ -- ARM round
      have hlo : (at_ : Int) < (ord.length : Int) := by omega
      have c0 := hcO at_ hlt
      rw [← getD_eq hlt 0, ← hpp] at c0
      have hpw : wf64 p := by
        rcases hR.inv.sub p (by rw [hpp]; exact getD_mem' hlt 0) with h | h
        · rw [h]; exact hs
        · exact HL.out p h
      obtain ⟨A', m', c', hleg', ⟨hl1, hl2⟩, hlook⟩ := (HW.out.below hC.bel).look (k := ⟨p, s⟩) ⟨hpw, hs⟩
      have l1 := hlook wr (fun S h => h)
      unfold EdD.v at l1
      have HR := Lib.hid hR
      have HC := Lib.hid hC
      have HCO := Lib.hid hcO
      have HPP := Lib.hid hpp
      clear hR hC hcO hpp hlook hleg'
      by_cases he : hasE xs p s = true
      · obtain ⟨a', rfl⟩ := hl2 (TOf_ne.2 he) -- ARM found
        have hC := HR.out.found hlt (by rw [← HPP.out]; exact he)
        obtain ⟨C, hCe⟩ : ∃ C, C = circleL xs all s := ⟨_, rfl⟩
        rw [← hCe] at hC
        have HCC := Lib.hid hC
        have HCE := Lib.hid hCe
        have n1 := neq_some a' m' c'
        clear hl1 hl2 he hC hCe
        go_wp2_with fail
        have hb4 : Below wr.heap.size wr (wr.alloc (.cells #[.int .i64 p] 3)) := (Below.refl _ _).alloc (Nat.le_refl _) _
        have HS := Lib.hid (show BkW w wr ord M by_ C at_ at_ [] (.int .i64 p) (.slice (some ⟨wr.heap.size, 0, none⟩) 1 1) (wr.alloc (.cells #[.int .i64 p] 3)) from by
          obtain ⟨nn, h1, h2⟩ := HC.out.map
          exact ⟨by rw [HPP.out], by rw [HCC.out]; exact BkAt.start hlt, by rw [← HPP.out]; exact own_one wr _ _ _ HC.out.bel.size, by simp, ⟨nn, by omega, h2.below hb4⟩, HC.out.bel.trans (hb4.mono HC.out.bel.size)⟩)
        go_loopg [9, 10] at_ (fun kk q out wr' => ∃ k acc, k = kk ∧ BkW w wr ord M by_ C at_ k acc q out wr')
        case atStart => exact ⟨_, [], rfl, HS.out⟩
        case round =>
          obtain ⟨k, acc, rfl, rfl, hbk, hown, hle', ⟨nn, hnn, hM⟩, hbel⟩ := hrel
          obtain ⟨Ab, cb, rfl⟩ := own_shape hown
          have hkl := hbk.lt
          clear HS hb4 l1 n1 c0
          by_cases hk0 : k = 0
          · subst hk0 -- ARM back0
            have hC0 := hbk.zero
            have hz := HR.out.inv.zero
            rw [hz] at hC0 hown ⊢
            have hCr : C.reverse.length = acc.length + 1 := by rw [hC0]; simp
            have HCR := Lib.hid hCr
            have HC0 := Lib.hid hC0
            have HO := Lib.hid hown
            have HBE := Lib.hid hbel
            clear hbk hown hM hbel hC0 hz hCr
            go_wp2_with fail
            refine (rev_any w.heap.size (.slice Ab (acc.length + 1) cb) C.reverse _ (by rw [HCR.out, HC0.out]; exact HO.out) (by rw [HCR.out]; omega)).mono ?_
            rintro e w5 ⟨rfl, ho5, hg5⟩
            have hbe5 : Below w.heap.size w w5 := HBE.out.grown hg5 HBE.out.size (fun j hj => (own_block HO.out hj).1)
            obtain ⟨g5, rfl, _, _⟩ := own_ints (xs := C.reverse.reverse) (n := C.reverse.length) (c := cb) (A := Ab) (base := w.heap.size) (w := w5) (by rw [HCR.out] at ho5 ⊢; exact ho5) (by rw [HCR.out]; omega) (by simp)
            have hpa : PartsAt w5 (.slice (some ⟨g5, 0, none⟩) (acc.length + 1) cb) C := by
              have := RdT.own ho5
              rw [List.reverse_reverse, List.length_reverse] at this
              exact this
            have hCl : C.length = acc.length + 1 := by rw [HC0.out]; simp
            have HPA := Lib.hid hpa
            have HB5 := Lib.hid hbe5
            clear hg5 ho5 hpa hbe5
            go_wp2_with fail
            go_ret
            rw [← HCE.out]
            refine ⟨.slice (some ⟨g5, 0, none⟩) (acc.length + 1) cb, rfl, fun h => ?_, fun _ => ⟨⟨g5, 0, none⟩, cb, by rw [hCl]⟩, HPA.out, HB5.out⟩
            rw [h] at hCl
            simp at hCl
          · have hv := HR.out.byOf.val k hkl -- ARM back1
            obtain ⟨q, hq⟩ : ∃ q, q = ord.getD k 0 := ⟨_, rfl⟩
            obtain ⟨hbk', hlt'⟩ := hbk.step HR.out.inv hk0
            have hqs : q ≠ s := fun e => hk0 (HR.out.inv.getD_inj hkl hpos (by rw [← hq, HR.out.inv.zero]; exact e))
            have hqw : wf64 q := by
              rcases HR.out.inv.sub q (by rw [hq]; exact getD_mem' hkl 0) with h | h
              · rw [h]; exact hs
              · exact HL.out q h
            rw [← hq] at hv hown hbk' ⊢
            have l2 := hM.look hqw
            rw [hv] at l2
            simp only [Option.getD_some] at l2
            obtain ⟨q', hq'⟩ : ∃ q', q' = ord.getD (by_.getD k 0) 0 := ⟨_, rfl⟩
            rw [← hq'] at l2
            have d1 : (q == s) = false := by simpa using hqs
            have d2 : decide (q = s) = false := decide_eq_false hqs
            have d3 : (q != s) = true := by simpa using hqs
            have HM := Lib.hid hM
            have HO := Lib.hid hown
            have HBE := Lib.hid hbel
            have HBK := Lib.hid hbk'
            have HQ' := Lib.hid hq'
            clear hbk hbk' hown hM hbel hq hv hq'
            go_wp2_with (at_builtin; refine wpList_append_any _ rfl (.tmp 47) (.tmp 49) _ rfl w.heap.size 3 i0 _ 1 8 Try.underlying29 hi0 hz0 hz1 hz2 rfl (by omega) (.slice Ab (acc.length + 1) cb) (acc.length + 1) (iCells (q :: acc).reverse) rfl (own_below HO.out ((Below.refl _ _).alloc (Nat.le_refl _) _)) (wr.heap.size + 1) (some ⟨wr.heap.size, 0, none⟩) 1 1 [.int .i64 q'] rfl (reads_one wr _ _) (by simp [Value.oneCell']) (by simp only [maxLen]; omega) (by omega) (by have := HBE.out.size; simp; omega) ?_; intro v6 w6 hown6 hg6 hat6)
            go_roundg (by_.getD k 0)
            case measure => exact hlt'
            case rel =>
              have hba : Below wr.heap.size wr (wr.alloc (.cells #[.int .i64 q'] 3)) := (Below.refl _ _).alloc (Nat.le_refl _) _
              have hoa := own_below HO.out hba
              have hlq : (q :: acc).length + by_.getD k 0 ≤ at_ := by rw [List.length_cons]; omega
              refine ⟨_, q :: acc, rfl, by rw [HQ'.out], HBK.out, ?_, hlq, ⟨nn, hnn, (HM.out.below hba).kept hg6 (fun e => (HM.out.below hba).ne_own hoa e.symm)⟩, (HBE.out.trans (hba.mono HBE.out.size)).grown hg6 (Nat.le_trans HBE.out.size hba.size) (fun j hj => (own_block hoa hj).1)⟩
              rw [← HQ'.out, List.reverse_cons, iCells_snoc]
              exact hown6
      · have he' : hasE xs p s = false := by simpa using he -- ARM not
        obtain ⟨rfl, rfl, rfl⟩ := hl1 (items_nil he')
        have n1 := neq_none
        clear hl1 hl2 he
        go_wp2_with fail
        clear l1 n1 c0
        go_loopw [6, 56] (fun vO i wr' => CjRel w p at_ es (.slice AE es.length cE) ord by_ vO i wr') (fun _ i _ => es.length - (intOf i).toNat)
        case atStart => exact ⟨0, M, Nat.zero_le _, rfl, HR.out.byOf, HC.out⟩
        case round =>
          obtain ⟨j, M', hj, rfl, hBy, hC'⟩ := hrel
          have hj0 : (0 : Int) ≤ (j : Int) := Int.natCast_nonneg _
          have ej : IntKind.i64.wrap ((j : Int) + 1) = (j : Int) + 1 := by rw [IntKind.wrap_i64]; omega
          obtain ⟨hI, zs, hzs⟩ := HR.out.mid hlt (es := es.take j) (fun e he => (edges_has HE.out).1 (List.mem_of_mem_take he)) HA.out
          rw [← HPP.out] at hI hzs
          by_cases hltj : j < es.length
          · have hsn := reachE_snoc p at_ es (ord, by_) j hltj -- ARM edge
            obtain ⟨X, hX⟩ : ∃ X, X = reachE p at_ (es.take j) (ord, by_) := ⟨_, rfl⟩
            rw [← hX] at hBy hC' hI hzs hsn
            have hXl := nodup_le hI.nd hI.sub
            have hat : at_ < X.1.length := by rw [hzs]; simp; omega
            have hpX : X.1.getD at_ 0 = p := by rw [hzs, getD_append_left' hlt, HPP.out]
            obtain ⟨AX, cX, rfl⟩ := own_shape hC'.own
            obtain ⟨gE, rfl, hgE, hcE⟩ := own_ed hC'.ed (by omega) rfl
            have hji : (j : Int) < (es.length : Int) := by omega
            obtain ⟨k0, k1⟩ := hcE j hltj
            obtain ⟨K, hK⟩ : ∃ K, K = es[j] := ⟨_, rfl⟩
            rw [← hK] at k0 k1 hsn
            have hKw : K.wf := TOf_wf HWF.out ((HE.out.2 K).1 (by rw [hK]; exact List.getElem_mem hltj))
            have hbW : Below wr.heap.size wr (wr.alloc (.cells #[.int .i64 K.f, .int .i64 K.t] 47)) := (Below.refl _ _).alloc (Nat.le_refl _) _
            obtain ⟨nn, hnn, hM⟩ := hC'.map
            have hMl := hM.lt
            have l3 := (hM.below hbW).lookok hKw.2
            have HBY := Lib.hid hBy
            have HC' := Lib.hid hC'
            have HSN := Lib.hid hsn
            have HI := Lib.hid hI
            have HXX := Lib.hid hX
            have HMW := Lib.hid (hM.below hbW)
            clear hcE hK hBy hC' hsn hI hX hM hzs
            by_cases hin : K.t ∈ X.1
            · have hsome : (M' K.t).isSome = true := (HBY.out.dom _).2 hin -- ARM seen
              rw [hsome] at l3
              have hst : stepE p at_ X K = X := by unfold stepE; rw [if_neg (fun h => h.2 hin)]
              rw [hst] at HSN
              clear hst hsome
              by_cases hf : K.f = p
              · have d1 : (K.f == p) = true := by simpa using hf -- ARM seen1
                have d2 : decide (K.f = p) = true := decide_eq_true hf
                have HF := Lib.hid hf
                clear hf
                go_wp2_with fail
                exact ⟨⟨j + 1, M', hltj, rfl, by rw [HSN.out]; exact HBY.out, by rw [HSN.out]; exact HC'.out.below hbW⟩, by simp only [intOf]; omega⟩
              · have d1 : (K.f == p) = false := by simpa using hf -- ARM seen2
                have d2 : decide (K.f = p) = false := decide_eq_false hf
                go_wp2_with fail
                exact ⟨⟨j + 1, M', hltj, rfl, by rw [HSN.out]; exact HBY.out, by rw [HSN.out]; exact HC'.out.below hbW⟩, by simp only [intOf]; omega⟩
            · have hsome : (M' K.t).isSome = false := by -- ARM new
                cases e : (M' K.t).isSome
                · rfl
                · exact absurd ((HBY.out.dom _).1 e) hin
              rw [hsome] at l3
              by_cases hf : K.f = p
              · have d1 : (K.f == p) = true := by simpa using hf -- ARM new1
                have d2 : decide (K.f = p) = true := decide_eq_true hf
                have hst : stepE p at_ X K = (X.1 ++ [K.t], X.2 ++ [at_]) := by unfold stepE; rw [if_pos ⟨hf, hin⟩]
                rw [hst] at HSN
                have hBn := HBY.out.step HI.out.len (HI.out.by_lt (by rw [HXX.out]; exact reachE_b0 p at_ _ ord by_ (by rw [HR.out.inv.len]; exact hpos) HR.out.b0)) hat hin
                rw [hpX] at hBn
                have HBN := Lib.hid hBn
                have HF := Lib.hid hf
                have kE := Lib.hid (Blk.new wr 47 #[.int .i64 K.f, .int .i64 K.t])
                clear hst hsome hf hBn
                go_wp2_with (first
                  | (at_mapUpdate; refine wpList_putI (M' := updI M' K.t p) HMW.out rfl _ _ _ rfl K.t p hKw.2 hpw (by unfold maxLen; omega) rfl rfl rfl (by simp [updI]) (fun q' h => by simp [updI, h]) ?_; intro w4 hM4 hg4; have kE4 := kE.out.grown hg4 (by intro h; injection h with h; omega); have y4 := kE4.cell 1; simp at y4; have hz4 := kE4.lt)
                  | (at_builtin; refine wpList_append_any _ rfl (.tmp 79) (.tmp 82) _ rfl w.heap.size 3 i0 _ 1 8 Try.underlying29 hi0 hz0 hz1 hz2 rfl (by omega) (.slice AX X.1.length cX) X.1.length (iCells X.1) rfl (own_below (own_fr (HC'.out.below hbW).own (Fr.of_grown (S := fun i => i = w.heap.size) hg4 (fun i hi => by injection hi with hi; exact hi.symm)) (fun i hi h' => HMW.out.ne_own (HC'.out.below hbW).own (by rw [hi, h']))) ((Below.refl _ _).alloc (Nat.le_refl _) _)) (w4.heap.size + 1) (some ⟨w4.heap.size, 0, none⟩) 1 1 [.int .i64 K.t] rfl (reads_one w4 _ _) (by simp [Value.oneCell']) (by simp only [maxLen]; omega) (by omega) (by have := hg4.size; simp at this ⊢; omega) ?_; intro v6 w6 hown6 hg6 hat6))
                exact ⟨⟨j + 1, updI M' K.t p, hltj, rfl, by rw [HSN.out]; exact HBN.out, by rw [HSN.out]; exact HC'.out.more hnn hM4 hg4 hg6 hown6⟩, by simp only [intOf]; omega⟩
              · have d1 : (K.f == p) = false := by simpa using hf -- ARM new2
                have d2 : decide (K.f = p) = false := decide_eq_false hf
                have hst : stepE p at_ X K = X := by unfold stepE; rw [if_neg (fun h => hf h.1)]
                rw [hst] at HSN
                go_wp2_with fail
                exact ⟨⟨j + 1, M', hltj, rfl, by rw [HSN.out]; exact HBY.out, by rw [HSN.out]; exact HC'.out.below hbW⟩, by simp only [intOf]; omega⟩
          · obtain rfl : j = es.length := by omega -- ARM end
            rw [List.take_length] at hBy hC' hI hzs
            have hji : ¬ ((es.length : Int) < (es.length : Int)) := by omega
            have HBY := Lib.hid hBy
            have HC' := Lib.hid hC'
            clear hBy hC' hI hzs
            go_wp2_with fail
            have hnx := HR.out.next hlt (by rw [← HPP.out]; exact he') HE.out HP.out HA.out (by rw [← HPP.out]; exact HBY.out)
            rw [← HPP.out] at hnx
            exact ⟨⟨at_ + 1, _, _, M', rfl, hnx, HC'.out⟩, by simp only [intOf]; omega⟩
    · have hlo : ¬ ((at_ : Int) < (ord.length : Int)) := by omega -- ARM none
      have hov := hR.over hlt
      have HC := Lib.hid hC
      have HOV := Lib.hid hov
      clear hR hC hcO hov
      go_wp2_with fail
      go_ret
      refine ⟨_, rfl, ?_⟩
      rw [HOV.out]
      exact ⟨fun _ => rfl, fun h => absurd rfl h, rdT_nil _ _ _, HC.out.bel⟩
end Go.Proofs.Ythoniedmeeahgaa
