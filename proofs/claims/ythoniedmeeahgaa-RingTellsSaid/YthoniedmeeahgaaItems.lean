/-
  The reference's items by contract: of all that one gives another one, by ledger and asset.
-/
import Derived.Test.YthoniedmeeahgaaSorted
import Derived.Deep.RegionHeld3
import Derived.Deep.DeepMust
namespace Go.Proofs.Ythoniedmeeahgaa
open Go.RowKit Go.Maps

theorem itCells_take (xs : List ItD) (k : Nat) : (itCells xs).take (k * 3) = itCells (xs.take k) := by
  induction xs generalizing k with
  | nil => simp [itCells]
  | cons x xs ih =>
    cases k with
    | zero => simp [itCells]
    | succ k =>
      rw [itCells_cons, List.take_succ_cons, itCells_cons, ← ih k, show (k + 1) * 3 = k * 3 + 3 by omega, List.take_append]
      simp [encI3]
theorem itCells_drop (xs : List ItD) (k : Nat) : (itCells xs).drop (k * 3) = itCells (xs.drop k) := by
  induction xs generalizing k with
  | nil => simp [itCells]
  | cons x xs ih =>
    cases k with
    | zero => simp
    | succ k =>
      rw [itCells_cons, List.drop_succ_cons, ← ih k, show (k + 1) * 3 = k * 3 + 3 by omega, List.drop_append]
      simp [encI3]
theorem itCells_app (xs ys : List ItD) : itCells (xs ++ ys) = itCells xs ++ itCells ys := by simp [itCells]
/-- Not falling. -/
def Sor (os : List ItD) : Prop := os.Pairwise (fun x y => lessI y x = false)
theorem lessI_no {x y : ItD} : lessI x y = false ↔ ¬ iLt x y := by rw [← lessI_iff]; simp
theorem sor_put {os : List ItD} {x : ItD} {k : Nat} (h : Sor os) (h1 : ∀ y ∈ os.take k, ¬ iLt x y) (h2 : ∀ y ∈ os.drop k, iLt x y) : Sor (os.take k ++ [x] ++ os.drop k) := by
  unfold Sor at h ⊢
  rw [← List.take_append_drop k os, List.pairwise_append] at h
  rw [List.append_assoc, List.pairwise_append]
  refine ⟨h.1, ?_, fun a ha b hb => ?_⟩
  · simp only [List.singleton_append, List.pairwise_cons]
    refine ⟨fun y hy => lessI_no.2 (fun h' => ?_), h.2.1⟩
    have := h2 y hy
    unfold iLt at *
    omega
  · simp at hb
    rcases hb with rfl | hb
    · exact lessI_no.2 (h1 a ha)
    · exact h.2.2 a ha b hb
theorem sor_below {os : List ItD} (h : Sor os) {k : Nat} (hk : k ≤ os.length) {x : ItD} (hx : ∀ hk' : k - 1 < os.length, 0 < k → ¬ iLt x os[k - 1]) : ∀ y ∈ os.take k, ¬ iLt x y := by
  intro y hy
  obtain ⟨i, hi, rfl⟩ := List.getElem_of_mem hy
  rw [List.length_take] at hi
  rw [List.getElem_take]
  have h1 := hx (by omega) (by omega)
  by_cases e : i = k - 1
  · subst e
    exact h1
  · have := lessI_no.1 (List.pairwise_iff_getElem.1 h i (k - 1) (by omega) (by omega) (by omega))
    unfold iLt at *
    omega
theorem put_perm (os : List ItD) (x : ItD) (k : Nat) : (os.take k ++ [x] ++ os.drop k).Perm (os ++ [x]) := by
  rw [List.append_assoc]
  refine (List.Perm.append_left _ (List.perm_append_comm)).trans ?_
  rw [← List.append_assoc, List.take_append_drop]
theorem pick_take {xs : List NetD} {j : Nat} (hj : j < xs.length) (f t : Int) : pick (xs.take (j + 1)) f t = if xs[j].f = f ∧ xs[j].t = t then pick (xs.take j) f t ++ [⟨xs[j].l, xs[j].a, xs[j].n⟩] else pick (xs.take j) f t := by
  rw [List.take_succ_eq_append_getElem hj]
  have := pick_snoc (xs.take j) xs[j] ⟨f, t⟩
  simp only at this
  rw [this]
  by_cases h : xs[j].f = f ∧ xs[j].t = t
  · rw [if_pos (by rw [h.1, h.2]), if_pos h]
  · rw [if_neg (fun e => h (by injection e with e1 e2; exact ⟨e1.symm, e2.symm⟩)), if_neg h]
def ItRel (w : World) (xs : List NetD) (f t : Int) (out i : Value) (wr : World) : Prop :=
  ∃ (j : Nat) (A : Option Addr) (c : Nat) (os : List ItD), j ≤ xs.length ∧ i = .int .i64 j ∧ out = .slice A os.length c ∧ wr.ownsRow w.heap.size 35 3 out os.length (itCells os) ∧ Sor os ∧ os.Perm (pick (xs.take j) f t) ∧ os.length ≤ j ∧ Below w.heap.size w wr
def ItIn (w : World) (os : List ItD) (x : ItD) (i : Value) (wr : World) : Prop :=
  ∃ k : Nat, k ≤ os.length ∧ i = .int .i64 k ∧ (∀ y ∈ os.drop k, iLt x y) ∧ Below w.heap.size w wr

set_option maxRecDepth 100000 in
set_option maxHeartbeats 16000000 in
theorem items_any (xs : List NetD) (A : Option Addr) (c : Nat) (f t : Int) (w : World) (ha : 0 < xs.length → ∃ b o, A = some ⟨b, o, none⟩ ∧ NetAt w xs b o) (hmax : xs.length ≤ 100) (hap : (pick xs f t).Pairwise (fun x y => ¬ (x.l = y.l ∧ x.a = y.a))) :
    Calls Try.prog 23 #[.slice A xs.length c, .int .i64 f, .int .i64 t] w fun e w' => ∃ v, e = .returned v ∧ w'.ownsRow w.heap.size 35 3 v (items xs f t).length (itCells (items xs f t)) ∧ Below w.heap.size w w' := by
  have HA := Lib.hid ha
  have HAP := Lib.hid hap
  clear ha hap
  obtain ⟨i0, hi0, hz0, hz1, hz2⟩ := info_parts item_row
  go_enter Try.func23, Try.ntmps23
  go_wp2_with fail
  go_loopw [7, 8] (fun out i wr => ItRel w xs f t out i wr) (fun _ i _ => xs.length - (intOf i).toNat)
  case atStart => exact ⟨0, none, 0, [], Nat.zero_le _, rfl, rfl, World.ownsRow_nil _ _ _ _, List.Pairwise.nil, by simp [pick], by simp, Below.refl _ _⟩
  case round =>
    obtain ⟨j, A1, c1, os, hj, rfl, rfl, hown, hris, hmem, hlen, hb⟩ := hrel
    have hj0 : (0 : Int) ≤ (j : Int) := Int.natCast_nonneg _
    by_cases hlt : j < xs.length
    · obtain ⟨b, o, rfl, hN⟩ := HA.out (by omega) -- ARM round
      have hsz := Nat.lt_of_lt_of_le hN.1 hb.size
      obtain ⟨a0, a1, a2, a3, a4⟩ := (hN.below hb).2 j hlt
      have htk := pick_take hlt f t
      have hji : (j : Int) < (xs.length : Int) := by omega
      have ej : IntKind.i64.wrap ((j : Int) + 1) = (j : Int) + 1 := by rw [IntKind.wrap_i64]; omega
      have hol : os.length ≤ 100 := by omega
      obtain ⟨X, hX⟩ : ∃ X, X = xs[j] := ⟨_, rfl⟩
      rw [← hX] at a0 a1 a2 a3 a4 htk
      have HO := Lib.hid hown
      have HRD := Lib.hid (Reads.of_own hown)
      have HLG := Lib.hid (RdT.own hown)
      have HRI := Lib.hid hris
      have HB := Lib.hid hb
      have HM := Lib.hid hmem
      clear hown hris hmem hb hN hX
      by_cases hf : X.f = f
      case neg => -- ARM skipf
        have e1 : (X.f == f) = false := by simpa using hf
        have e2 : decide (X.f = f) = false := decide_eq_false hf
        have e3 : (X.f != f) = true := by simp [hf]
        rw [if_neg (fun h => hf h.1)] at htk
        have HTK := Lib.hid htk
        clear hf htk
        go_wp2_with fail
        exact ⟨⟨j + 1, A1, c1, os, hlt, rfl, rfl, HO.out, HRI.out, by rw [HTK.out]; exact HM.out, by omega, HB.out⟩, by simp only [intOf]; omega⟩
      by_cases ht : X.t = t
      case neg => -- ARM skipt
        have e1 : (X.f == f) = true := by simpa using hf
        have e2 : decide (X.f = f) = true := decide_eq_true hf
        have e3 : (X.f != f) = false := by simp [hf]
        have e4 : (X.t == t) = false := by simpa using ht
        have e5 : decide (X.t = t) = false := decide_eq_false ht
        have e6 : (X.t != t) = true := by simp [ht]
        rw [if_neg (fun h => ht h.2)] at htk
        have HTK := Lib.hid htk
        clear hf ht htk
        go_wp2_with fail
        exact ⟨⟨j + 1, A1, c1, os, hlt, rfl, rfl, HO.out, HRI.out, by rw [HTK.out]; exact HM.out, by omega, HB.out⟩, by simp only [intOf]; omega⟩
      rw [if_pos ⟨hf, ht⟩] at htk -- ARM both
      have e1 : (X.f == f) = true := by simpa using hf
      have e2 : decide (X.f = f) = true := decide_eq_true hf
      have e3 : (X.f != f) = false := by simp [hf]
      have e4 : (X.t == t) = true := by simpa using ht
      have e5 : decide (X.t = t) = true := decide_eq_true ht
      have e6 : (X.t != t) = false := by simp [ht]
      obtain ⟨x, hx⟩ : ∃ x : ItD, x = ⟨X.l, X.a, X.n⟩ := ⟨_, rfl⟩
      have x2 : X.l = x.l := by rw [hx]
      have x3 : X.a = x.a := by rw [hx]
      have x4 : X.n = x.n := by rw [hx]
      rw [x2] at a2
      rw [x3] at a3
      rw [x4] at a4
      rw [← hx] at htk
      have HTK := Lib.hid htk
      clear hf ht htk hx x2 x3 x4
      go_wp2_with fail
      clear e1 e2 e3 e4 e5 e6 a0 a1
      go_region_held3 (fun w' => w'.cell? ⟨b, o + j * 5 + 2, none⟩ = some (.int .i64 x.l) ∧ w'.cell? ⟨b, o + j * 5 + 3, none⟩ = some (.int .i64 x.a) ∧ w'.cell? ⟨b, o + j * 5 + 4, none⟩ = some (.int .i64 x.n)) (go_keep) (first | fail)
      obtain ⟨W6, hW6⟩ : ∃ W6, W6 = (wr.alloc (.cells #[.int .i64 x.l, .int .i64 x.a, .int .i64 x.n] 35)).drew := ⟨_, rfl⟩
      have bW6 : Below wr.heap.size wr W6 := by rw [hW6]; exact ((Below.refl _ _).alloc (Nat.le_refl _) _).drew
      have kX : Blk W6 wr.heap.size 35 #[.int .i64 x.l, .int .i64 x.a, .int .i64 x.n] := by rw [hW6]; exact (Blk.new _ _ _).drew
      obtain ⟨gx, hgx⟩ : ∃ gx, gx = wr.heap.size := ⟨_, rfl⟩
      rw [← hW6, ← hgx]
      rw [← hgx] at kX
      have HO6 := Lib.hid (own_below HO.out bW6)
      have HRD6 := Lib.hid ((HRD.out.below bW6).more bW6.size)
      have HLG6 := Lib.hid (show LegAt W6 (.slice A1 os.length c1) os from RdT.kept HLG.out (TK.of_below bW6))
      have HB6 := Lib.hid (HB.out.trans (bW6.mono HB.out.size))
      have x0 := kX.cell 0
      have x1 := kX.cell 1
      have x2 := kX.cell 2
      simp at x0 x1 x2
      have hgxl := kX.lt
      clear hW6 bW6 kX hgx HO HRD HLG HB a2 a3 a4 hsz
      go_wp2_with fail
      go_loopw [10] (fun i wk => ItIn W6 os x i wk) (fun i _ => (intOf i).toNat)
      case atStart => exact ⟨os.length, Nat.le_refl _, rfl, by simp, Below.refl _ _⟩
      case round =>
        obtain ⟨k, hk, rfl, hdr, hb1⟩ := hrel
        have hk0 : (0 : Int) ≤ (k : Int) := Int.natCast_nonneg _
        have y0 := (hb1.cell (p := ⟨gx, 0, none⟩) hgxl).trans x0
        have y1 := (hb1.cell (p := ⟨gx, 1, none⟩) hgxl).trans x1
        have hgx1 := Nat.lt_of_lt_of_le hgxl hb1.size
        by_cases hk1 : 0 < k
        · have d1 : decide (0 < (k : Int)) = true := decide_eq_true (by omega) -- ARM pos
          have d1' : decide (0 < k) = true := decide_eq_true hk1
          obtain ⟨r, p, cc, hv, hrb, hrc⟩ := leg_cells HLG6.out (by omega)
          injection hv with hA1 _ hcc
          obtain ⟨r0, r1, _⟩ := hrc (k - 1) (by omega)
          have q0 := (hb1.cell (p := ⟨r, p + (k - 1) * 3, none⟩) hrb).trans r0
          have q1 := (hb1.cell (p := ⟨r, p + (k - 1) * 3 + 1, none⟩) hrb).trans r1
          have hrs := Nat.lt_of_lt_of_le hrb hb1.size
          have hdrop : os.drop (k - 1) = os[k - 1]'(by omega) :: os.drop k := by
            have := List.drop_eq_getElem_cons (l := os) (i := k - 1) (by omega)
            rw [this, show k - 1 + 1 = k by omega]
          have hlow : ¬ iLt x (os[k - 1]'(by omega)) → ∀ y ∈ os.take k, ¬ iLt x y := fun h => sor_below HRI.out hk (fun _ _ => h)
          obtain ⟨y, hy⟩ : ∃ y, y = os[k - 1]'(by omega) := ⟨_, rfl⟩
          rw [← hy] at q0 q1 hdrop hlow
          have HD := Lib.hid (show iLt x y → ∀ z ∈ os.drop (k - 1), iLt x z by
            rw [hdrop]
            intro hgo z hz
            rcases List.mem_cons.1 hz with rfl | hz
            · exact hgo
            · exact hdr z hz)
          have HD0 := Lib.hid hdr
          have HLW := Lib.hid hlow
          have HB1 := Lib.hid hb1
          have ek : IntKind.i64.wrap ((k : Int) - 1) = ((k - 1 : Nat) : Int) := by rw [IntKind.wrap_i64]; omega
          have hk2 : ((k - 1 : Nat) : Int) < (os.length : Int) := by omega
          have hk3 : (0 : Int) ≤ ((k - 1 : Nat) : Int) := Int.natCast_nonneg _
          have ek2 : (((k - 1 : Nat) : Int)).toNat = k - 1 := Int.toNat_natCast _
          clear hrc hdr hb1 r0 r1 hdrop hlow hy
          subst hA1 hcc
          by_cases m1 : x.l < y.l
          case pos => -- ARM sh1
            have HG := Lib.hid (show iLt x y from .inl m1)
            have f1 : decide (x.l < y.l) = true := decide_eq_true m1
            clear m1
            go_wp2_with fail
            go_quiet (fail)
            go_wp2_with fail
            have HDD := Lib.hid (HD.out HG.out)
            refine ⟨⟨k - 1, by omega, ?_, HDD.out, below_drewN HB1.out _⟩, ?_⟩
            · first | rfl | (rw [← ek])
            · first | (simp only [intOf]; omega) | (simp [intOf]; omega) | (rw [← ek]; simp [intOf]; omega)
          by_cases m2 : y.l = x.l
          case neg => -- ARM en1
            have HG := Lib.hid (show ¬ iLt x y from fun h => by unfold iLt at h; omega)
            have f1 : decide (x.l < y.l) = false := decide_eq_false m1
            have f2 : (y.l == x.l) = false := by simpa using m2
            have f3 : decide (y.l = x.l) = false := decide_eq_false m2
            clear m1 m2
            have HL := Lib.hid (HLW.out HG.out)
            have HD1 := Lib.hid HD0.out
            clear HD
            have HD := HD1
            go_wp2_with fail
            go_quiet (fail)
            clear q0 q1 d1 d1' ek hk2 hk3 ek2 hrs
            obtain ⟨A1, hA1⟩ : ∃ A1, A1 = some (⟨r, p, none⟩ : Addr) := ⟨_, rfl⟩
            rw [← hA1] at HO6 HRD6 HLG6 ⊢
            clear hA1
            obtain ⟨W, hW⟩ : ∃ W, W = wr.drewN nq := ⟨_, rfl⟩
            rw [← hW]
            have bW : Below W6.heap.size W6 W := by rw [hW]; exact below_drewN HB1.out _
            have aW : W.cell? ⟨gx, 0, none⟩ = some (.int .i64 x.l) ∧ W.cell? ⟨gx, 1, none⟩ = some (.int .i64 x.a) ∧ W.cell? ⟨gx, 2, none⟩ = some (.int .i64 x.n) := ⟨(bW.cell (p := ⟨gx, 0, none⟩) hgxl).trans x0, (bW.cell (p := ⟨gx, 1, none⟩) hgxl).trans x1, (bW.cell (p := ⟨gx, 2, none⟩) hgxl).trans x2⟩
            have hszW := Nat.lt_of_lt_of_le hgxl bW.size
            have hcap := own_cap HO6.out
            have hr1 := ((HRD6.out.below bW).more bW.size).head (k := k) hk
            have hr2 := ((HRD6.out.below bW).more bW.size).cut (k := k) (cap := c1) hk hcap.1
            rw [itCells_take] at hr1
            rw [itCells_drop] at hr2
            have HR1 := Lib.hid hr1
            have HBW := Lib.hid bW
            have hp1 : (k : Int) ≤ (c1 : Int) := by omega
            have hp2 : (k : Int) ≤ (os.length : Int) := by omega
            have hp3 : (os.length : Int) ≤ (c1 : Int) := by omega
            have hc1m := hcap.2
            obtain ⟨aW0, aW1, aW2⟩ := aW
            obtain ⟨hSS0, hSS1, hSS2⟩ : W.drew.cell? ⟨gx, 0, none⟩ = some (.int .i64 x.l) ∧ W.drew.cell? ⟨gx, 1, none⟩ = some (.int .i64 x.a) ∧ W.drew.cell? ⟨gx, 2, none⟩ = some (.int .i64 x.n) := ⟨aW0, aW1, aW2⟩
            obtain ⟨A2, hA2⟩ : ∃ A2, (if c1 = k then A1 else A1.map (·.add (k * 3))) = A2 := ⟨_, rfl⟩
            rw [hA2] at hr2
            have HR2 := Lib.hid hr2
            clear hW hr1 hr2 bW hcap y0 y1
            go_wp2_with fail
            go_region_held3 (fun w' => w'.cell? ⟨gx, 0, none⟩ = some (.int .i64 x.l) ∧ w'.cell? ⟨gx, 1, none⟩ = some (.int .i64 x.a) ∧ w'.cell? ⟨gx, 2, none⟩ = some (.int .i64 x.n)) (first | with_reducible exact ⟨s40, s41, s42⟩ | with_reducible exact ⟨s30, s31, s32⟩ | with_reducible exact ⟨s20, s21, s22⟩ | go_keep) (first
              | (refine step_append_any _ rfl (.tmp 88) (.tmp 91) 33 rfl W.heap.size 35 i0 _ 3 24 Try.underlying33 hi0 hz0 hz1 hz2 rfl (by omega) (.slice (some ⟨W.heap.size, 0, none⟩) 0 0) (0) ([]) (by simp [Act.eval, Act.put]) (World.ownsRow_made (base := W.heap.size) (e := 35) (size := 3) W #[] 0 (Nat.le_refl _) (by decide) rfl).drew W.heap.size (A1) (k) (c1) (itCells (os.take k)) (by simp [Act.eval, Act.put]) (HR1.out.alloc (Nat.le_refl _) (.cells #[] 35)).drew (itCells_one _) (by simp only [maxLen]; omega) (by omega) (by first | exact Nat.le_refl _ | exact bw3.size | exact bw2.size | (simp; done) | (simp; omega) | (have := bw2.size; simp; omega)) ?_; intro v2 w2 hown2 hg2 hat2; obtain ⟨A12, c12, rfl⟩ := own_shape hown2; have bw2 : Below W.heap.size W w2 := Below.grown (below_drew ((Below.refl W.heap.size W).alloc (Nat.le_refl _) (.cells #[] 35))) hg2 (by first | (simp; done) | (simp; omega)) (fun j hj => by simp [Value.ownBlock] at hj; omega); have s20 := (bw2.cell (p := ⟨gx, 0, none⟩) hszW).trans aW0; have s21 := (bw2.cell (p := ⟨gx, 1, none⟩) hszW).trans aW1; have s22 := (bw2.cell (p := ⟨gx, 2, none⟩) hszW).trans aW2)
              | (refine step_append_any _ rfl (.tmp 88) (.tmp 91) 33 rfl W.heap.size 35 i0 _ 3 24 Try.underlying33 hi0 hz0 hz1 hz2 rfl (by omega) (.slice (some ⟨W.heap.size, 0, none⟩) 0 0) (0) ([]) (by simp [Act.eval, Act.put]) (((World.ownsRow_made (base := W.heap.size) (e := 35) (size := 3) W #[] 0 (Nat.le_refl _) (by decide) rfl).alloc (.cells #[.int .i64 x.l, .int .i64 x.a, .int .i64 x.n] 35)).drew) W.heap.size (A1) (k) (c1) (itCells (os.take k)) (by simp [Act.eval, Act.put]) ((HR1.out.alloc (Nat.le_refl _) (.cells #[] 35)).alloc (by simp) (.cells #[.int .i64 x.l, .int .i64 x.a, .int .i64 x.n] 35)).drew (itCells_one _) (by simp only [maxLen]; omega) (by omega) (by first | exact Nat.le_refl _ | exact bw3.size | exact bw2.size | (simp; done) | (simp; omega) | (have := bw2.size; simp; omega)) ?_; intro v2 w2 hown2 hg2 hat2; obtain ⟨A12, c12, rfl⟩ := own_shape hown2; have bw2 : Below W.heap.size W w2 := Below.grown (below_drew (((Below.refl W.heap.size W).alloc (Nat.le_refl _) (.cells #[] 35)).alloc (by simp) (.cells #[.int .i64 x.l, .int .i64 x.a, .int .i64 x.n] 35))) hg2 (by first | (simp; done) | (simp; omega)) (fun j hj => by simp [Value.ownBlock] at hj; omega); have s20 := (bw2.cell (p := ⟨gx, 0, none⟩) hszW).trans aW0; have s21 := (bw2.cell (p := ⟨gx, 1, none⟩) hszW).trans aW1; have s22 := (bw2.cell (p := ⟨gx, 2, none⟩) hszW).trans aW2)
              | (refine step_append_any _ rfl (.tmp 88) (.tmp 91) 33 rfl W.heap.size 35 i0 _ 3 24 Try.underlying33 hi0 hz0 hz1 hz2 rfl (by omega) (.slice (some ⟨W.heap.size + 1, 0, none⟩) 0 0) (0) ([]) (by simp [Act.eval, Act.put]) (by have := (World.ownsRow_made (base := W.heap.size) (e := 35) (size := 3) (W.alloc (.cells #[.int .i64 x.l, .int .i64 x.a, .int .i64 x.n] 35)) #[] 0 (by simp) (by decide) rfl).drew; simp only [World.size_alloc] at this; exact this) W.heap.size (A1) (k) (c1) (itCells (os.take k)) (by simp [Act.eval, Act.put]) ((HR1.out.alloc (Nat.le_refl _) (.cells #[.int .i64 x.l, .int .i64 x.a, .int .i64 x.n] 35)).alloc (by simp) (.cells #[] 35)).drew (itCells_one _) (by simp only [maxLen]; omega) (by omega) (by first | exact Nat.le_refl _ | exact bw3.size | exact bw2.size | (simp; done) | (simp; omega) | (have := bw2.size; simp; omega)) ?_; intro v2 w2 hown2 hg2 hat2; obtain ⟨A12, c12, rfl⟩ := own_shape hown2; have bw2 : Below W.heap.size W w2 := Below.grown (below_drew (((Below.refl W.heap.size W).alloc (Nat.le_refl _) (.cells #[.int .i64 x.l, .int .i64 x.a, .int .i64 x.n] 35)).alloc (by simp) (.cells #[] 35))) hg2 (by first | (simp; done) | (simp; omega)) (fun j hj => by simp [Value.ownBlock] at hj; omega); have s20 := (bw2.cell (p := ⟨gx, 0, none⟩) hszW).trans aW0; have s21 := (bw2.cell (p := ⟨gx, 1, none⟩) hszW).trans aW1; have s22 := (bw2.cell (p := ⟨gx, 2, none⟩) hszW).trans aW2)
              | (refine step_append_any _ rfl (.tmp 92) (.tmp 94) 33 rfl W.heap.size 35 i0 _ 3 24 Try.underlying33 hi0 hz0 hz1 hz2 rfl (by omega) (.slice A12 (0 + k) c12) (0 + k) ([] ++ itCells (os.take k)) (by simp [Act.eval, Act.put]) (hown2.alloc (.cells #[.int .i64 x.l, .int .i64 x.a, .int .i64 x.n] 35)) (w2.heap.size + 1) (some ⟨w2.heap.size, 0, none⟩) (1) (1) (itCells [x]) (by simp [Act.eval, Act.put]) (reads_item w2 35 x) (itCells_one _) (by simp only [maxLen]; omega) (by omega) (by first | exact Nat.le_refl _ | exact bw3.size | exact bw2.size | (simp; done) | (simp; omega) | (have := bw2.size; simp; omega)) ?_; intro v3 w3 hown3 hg3 hat3; obtain ⟨A13, c13, rfl⟩ := own_shape hown3; have bw3 : Below W.heap.size W w3 := Below.grown (bw2.alloc bw2.size (.cells #[.int .i64 x.l, .int .i64 x.a, .int .i64 x.n] 35)) hg3 (by have := bw2.size; simp; omega) (fun j hj => (own_block hown2 hj).1); have s30 := (bw3.cell (p := ⟨gx, 0, none⟩) hszW).trans aW0; have s31 := (bw3.cell (p := ⟨gx, 1, none⟩) hszW).trans aW1; have s32 := (bw3.cell (p := ⟨gx, 2, none⟩) hszW).trans aW2)
              | (refine step_append_any _ rfl (.tmp 92) (.tmp 94) 33 rfl W.heap.size 35 i0 _ 3 24 Try.underlying33 hi0 hz0 hz1 hz2 rfl (by omega) (.slice A12 (0 + k) c12) (0 + k) ([] ++ itCells (os.take k)) (by simp [Act.eval, Act.put]) hown2 (W.heap.size + 2) (some ⟨W.heap.size + 1, 0, none⟩) (1) (1) (itCells [x]) (by simp [Act.eval, Act.put]) (((by have := reads_item (W.alloc (.cells #[] 35)) 35 x; simpa using this : Reads ((W.alloc (.cells #[] 35)).alloc (.cells #[.int .i64 x.l, .int .i64 x.a, .int .i64 x.n] 35)) (W.heap.size + 2) 3 (some ⟨W.heap.size + 1, 0, none⟩) 1 (itCells [x])).drew).fr (by simp) (Fr.of_grown (S := fun i => i = W.heap.size) hg2 (fun i hi => by injection hi with hi; exact hi.symm)) (fun _ ad h => by injection h with h; subst h; simp)) (itCells_one _) (by simp only [maxLen]; omega) (by omega) (by first | exact Nat.le_refl _ | exact bw3.size | exact bw2.size | (simp; done) | (simp; omega) | (have := bw2.size; simp; omega)) ?_; intro v3 w3 hown3 hg3 hat3; obtain ⟨A13, c13, rfl⟩ := own_shape hown3; have bw3 : Below W.heap.size W w3 := Below.grown bw2 hg3 bw2.size (fun j hj => (own_block hown2 hj).1); have s30 := (bw3.cell (p := ⟨gx, 0, none⟩) hszW).trans aW0; have s31 := (bw3.cell (p := ⟨gx, 1, none⟩) hszW).trans aW1; have s32 := (bw3.cell (p := ⟨gx, 2, none⟩) hszW).trans aW2)
              | (refine step_append_any _ rfl (.tmp 92) (.tmp 94) 33 rfl W.heap.size 35 i0 _ 3 24 Try.underlying33 hi0 hz0 hz1 hz2 rfl (by omega) (.slice A12 (0 + k) c12) (0 + k) ([] ++ itCells (os.take k)) (by simp [Act.eval, Act.put]) hown2 (W.heap.size + 1) (some ⟨W.heap.size, 0, none⟩) (1) (1) (itCells [x]) (by simp [Act.eval, Act.put]) ((((reads_item W 35 x).alloc (by simp) (.cells #[] 35)).drew).fr (by simp) (Fr.of_grown (S := fun i => i = W.heap.size + 1) hg2 (fun i hi => by injection hi with hi; exact hi.symm)) (fun _ ad h => by injection h with h; subst h; simp)) (itCells_one _) (by simp only [maxLen]; omega) (by omega) (by first | exact Nat.le_refl _ | exact bw3.size | exact bw2.size | (simp; done) | (simp; omega) | (have := bw2.size; simp; omega)) ?_; intro v3 w3 hown3 hg3 hat3; obtain ⟨A13, c13, rfl⟩ := own_shape hown3; have bw3 : Below W.heap.size W w3 := Below.grown bw2 hg3 bw2.size (fun j hj => (own_block hown2 hj).1); have s30 := (bw3.cell (p := ⟨gx, 0, none⟩) hszW).trans aW0; have s31 := (bw3.cell (p := ⟨gx, 1, none⟩) hszW).trans aW1; have s32 := (bw3.cell (p := ⟨gx, 2, none⟩) hszW).trans aW2)
              | (refine step_append_any _ rfl (.tmp 95) (.tmp 98) 33 rfl W.heap.size 35 i0 _ 3 24 Try.underlying33 hi0 hz0 hz1 hz2 rfl (by omega) (.slice A13 (0 + k + 1) c13) (0 + k + 1) ([] ++ itCells (os.take k) ++ itCells [x]) (by simp [Act.eval, Act.put]) hown3 W.heap.size (A2) (os.length - k) (c1 - k) (itCells (os.drop k)) (by simp [Act.eval, Act.put, hA2]) (HR2.out.below bw3) (itCells_one _) (by simp only [maxLen]; omega) (by omega) (by first | exact Nat.le_refl _ | exact bw3.size | exact bw2.size | (simp; done) | (simp; omega) | (have := bw2.size; simp; omega)) ?_; intro v4 w4 hown4 hg4 hat4; obtain ⟨A14, c14, rfl⟩ := own_shape hown4; have bw4 : Below W.heap.size W w4 := Below.grown bw3 hg4 bw3.size (fun j hj => (own_block hown3 hj).1); have s40 := (bw4.cell (p := ⟨gx, 0, none⟩) hszW).trans aW0; have s41 := (bw4.cell (p := ⟨gx, 1, none⟩) hszW).trans aW1; have s42 := (bw4.cell (p := ⟨gx, 2, none⟩) hszW).trans aW2))
            all_goals
              have e5 : k + 1 + (os.length - k) = (os.take k ++ [x] ++ os.drop k).length := by simp; omega
              have e6 : [] ++ itCells (os.take k) ++ itCells [x] ++ itCells (os.drop k) = itCells (os.take k ++ [x] ++ os.drop k) := by rw [itCells_app, itCells_app]; simp
              rw [Nat.zero_add, e5, e6] at hown4
              rw [e5]
              have hris2 := Lib.hid (sor_put HRI.out HL.out HD.out)
              have hmem2 := Lib.hid (show (os.take k ++ [x] ++ os.drop k).Perm (pick (xs.take (j + 1)) f t) from by rw [HTK.out]; exact (put_perm os x k).trans (HM.out.append_right _))
              have hlen2 : (os.take k ++ [x] ++ os.drop k).length ≤ j + 1 := by rw [← e5]; omega
              have hbw := HBW.out
              have hsW : w.heap.size ≤ W.heap.size := Nat.le_trans HB6.out.size hbw.size
              have HO4 := Lib.hid (own_mono hown4 hsW)
              have HB4 := Lib.hid ((HB6.out.trans (hbw.mono HB6.out.size)).trans (bw4.mono hsW))
              generalize os.take k ++ [x] ++ os.drop k = os2 at hris2 hmem2 hlen2 HO4 ⊢
              clear hown2 hown3 hown4 hg2 hg3 hg4 hat2 hat3 hat4 bw2 bw3 bw4 s20 s21 s22 s30 s31 s32 s40 s41 s42 e5 e6 hSS0 hSS1 hSS2 aW0 aW1 aW2 HR1 HR2 hbw HBW
              go_wp2_with fail
              go_roundw
              case rel => exact ⟨j + 1, A14, c14, os2, by omega, by go_num, rfl, HO4.out, hris2.out, hmem2.out, hlen2, HB4.out⟩
              case measure => simp [intOf]; omega
          by_cases m3 : x.a < y.a
          case pos => -- ARM sh2
            have HG := Lib.hid (show iLt x y from .inr ⟨m2.symm, m3⟩)
            have f1 : decide (x.l < y.l) = false := decide_eq_false m1
            have f2 : (y.l == x.l) = true := by simpa using m2
            have f3 : decide (y.l = x.l) = true := decide_eq_true m2
            have f4 : decide (x.a < y.a) = true := decide_eq_true m3
            clear m1 m2 m3
            go_wp2_with fail
            go_quiet (fail)
            go_wp2_with fail
            have HDD := Lib.hid (HD.out HG.out)
            refine ⟨⟨k - 1, by omega, ?_, HDD.out, below_drewN HB1.out _⟩, ?_⟩
            · first | rfl | (rw [← ek])
            · first | (simp only [intOf]; omega) | (simp [intOf]; omega) | (rw [← ek]; simp [intOf]; omega)
          case neg => -- ARM en2
            have HG := Lib.hid (show ¬ iLt x y from fun h => by unfold iLt at h; omega)
            have f1 : decide (x.l < y.l) = false := decide_eq_false m1
            have f2 : (y.l == x.l) = true := by simpa using m2
            have f3 : decide (y.l = x.l) = true := decide_eq_true m2
            have f4 : decide (x.a < y.a) = false := decide_eq_false m3
            clear m1 m2 m3
            have HL := Lib.hid (HLW.out HG.out)
            have HD1 := Lib.hid HD0.out
            clear HD
            have HD := HD1
            go_wp2_with fail
            go_quiet (fail)
            clear q0 q1 d1 d1' ek hk2 hk3 ek2 hrs
            obtain ⟨A1, hA1⟩ : ∃ A1, A1 = some (⟨r, p, none⟩ : Addr) := ⟨_, rfl⟩
            rw [← hA1] at HO6 HRD6 HLG6 ⊢
            clear hA1
            obtain ⟨W, hW⟩ : ∃ W, W = wr.drewN nq := ⟨_, rfl⟩
            rw [← hW]
            have bW : Below W6.heap.size W6 W := by rw [hW]; exact below_drewN HB1.out _
            have aW : W.cell? ⟨gx, 0, none⟩ = some (.int .i64 x.l) ∧ W.cell? ⟨gx, 1, none⟩ = some (.int .i64 x.a) ∧ W.cell? ⟨gx, 2, none⟩ = some (.int .i64 x.n) := ⟨(bW.cell (p := ⟨gx, 0, none⟩) hgxl).trans x0, (bW.cell (p := ⟨gx, 1, none⟩) hgxl).trans x1, (bW.cell (p := ⟨gx, 2, none⟩) hgxl).trans x2⟩
            have hszW := Nat.lt_of_lt_of_le hgxl bW.size
            have hcap := own_cap HO6.out
            have hr1 := ((HRD6.out.below bW).more bW.size).head (k := k) hk
            have hr2 := ((HRD6.out.below bW).more bW.size).cut (k := k) (cap := c1) hk hcap.1
            rw [itCells_take] at hr1
            rw [itCells_drop] at hr2
            have HR1 := Lib.hid hr1
            have HBW := Lib.hid bW
            have hp1 : (k : Int) ≤ (c1 : Int) := by omega
            have hp2 : (k : Int) ≤ (os.length : Int) := by omega
            have hp3 : (os.length : Int) ≤ (c1 : Int) := by omega
            have hc1m := hcap.2
            obtain ⟨aW0, aW1, aW2⟩ := aW
            obtain ⟨hSS0, hSS1, hSS2⟩ : W.drew.cell? ⟨gx, 0, none⟩ = some (.int .i64 x.l) ∧ W.drew.cell? ⟨gx, 1, none⟩ = some (.int .i64 x.a) ∧ W.drew.cell? ⟨gx, 2, none⟩ = some (.int .i64 x.n) := ⟨aW0, aW1, aW2⟩
            obtain ⟨A2, hA2⟩ : ∃ A2, (if c1 = k then A1 else A1.map (·.add (k * 3))) = A2 := ⟨_, rfl⟩
            rw [hA2] at hr2
            have HR2 := Lib.hid hr2
            clear hW hr1 hr2 bW hcap y0 y1
            go_wp2_with fail
            go_region_held3 (fun w' => w'.cell? ⟨gx, 0, none⟩ = some (.int .i64 x.l) ∧ w'.cell? ⟨gx, 1, none⟩ = some (.int .i64 x.a) ∧ w'.cell? ⟨gx, 2, none⟩ = some (.int .i64 x.n)) (first | with_reducible exact ⟨s40, s41, s42⟩ | with_reducible exact ⟨s30, s31, s32⟩ | with_reducible exact ⟨s20, s21, s22⟩ | go_keep) (first
              | (refine step_append_any _ rfl (.tmp 88) (.tmp 91) 33 rfl W.heap.size 35 i0 _ 3 24 Try.underlying33 hi0 hz0 hz1 hz2 rfl (by omega) (.slice (some ⟨W.heap.size, 0, none⟩) 0 0) (0) ([]) (by simp [Act.eval, Act.put]) (World.ownsRow_made (base := W.heap.size) (e := 35) (size := 3) W #[] 0 (Nat.le_refl _) (by decide) rfl).drew W.heap.size (A1) (k) (c1) (itCells (os.take k)) (by simp [Act.eval, Act.put]) (HR1.out.alloc (Nat.le_refl _) (.cells #[] 35)).drew (itCells_one _) (by simp only [maxLen]; omega) (by omega) (by first | exact Nat.le_refl _ | exact bw3.size | exact bw2.size | (simp; done) | (simp; omega) | (have := bw2.size; simp; omega)) ?_; intro v2 w2 hown2 hg2 hat2; obtain ⟨A12, c12, rfl⟩ := own_shape hown2; have bw2 : Below W.heap.size W w2 := Below.grown (below_drew ((Below.refl W.heap.size W).alloc (Nat.le_refl _) (.cells #[] 35))) hg2 (by first | (simp; done) | (simp; omega)) (fun j hj => by simp [Value.ownBlock] at hj; omega); have s20 := (bw2.cell (p := ⟨gx, 0, none⟩) hszW).trans aW0; have s21 := (bw2.cell (p := ⟨gx, 1, none⟩) hszW).trans aW1; have s22 := (bw2.cell (p := ⟨gx, 2, none⟩) hszW).trans aW2)
              | (refine step_append_any _ rfl (.tmp 88) (.tmp 91) 33 rfl W.heap.size 35 i0 _ 3 24 Try.underlying33 hi0 hz0 hz1 hz2 rfl (by omega) (.slice (some ⟨W.heap.size, 0, none⟩) 0 0) (0) ([]) (by simp [Act.eval, Act.put]) (((World.ownsRow_made (base := W.heap.size) (e := 35) (size := 3) W #[] 0 (Nat.le_refl _) (by decide) rfl).alloc (.cells #[.int .i64 x.l, .int .i64 x.a, .int .i64 x.n] 35)).drew) W.heap.size (A1) (k) (c1) (itCells (os.take k)) (by simp [Act.eval, Act.put]) ((HR1.out.alloc (Nat.le_refl _) (.cells #[] 35)).alloc (by simp) (.cells #[.int .i64 x.l, .int .i64 x.a, .int .i64 x.n] 35)).drew (itCells_one _) (by simp only [maxLen]; omega) (by omega) (by first | exact Nat.le_refl _ | exact bw3.size | exact bw2.size | (simp; done) | (simp; omega) | (have := bw2.size; simp; omega)) ?_; intro v2 w2 hown2 hg2 hat2; obtain ⟨A12, c12, rfl⟩ := own_shape hown2; have bw2 : Below W.heap.size W w2 := Below.grown (below_drew (((Below.refl W.heap.size W).alloc (Nat.le_refl _) (.cells #[] 35)).alloc (by simp) (.cells #[.int .i64 x.l, .int .i64 x.a, .int .i64 x.n] 35))) hg2 (by first | (simp; done) | (simp; omega)) (fun j hj => by simp [Value.ownBlock] at hj; omega); have s20 := (bw2.cell (p := ⟨gx, 0, none⟩) hszW).trans aW0; have s21 := (bw2.cell (p := ⟨gx, 1, none⟩) hszW).trans aW1; have s22 := (bw2.cell (p := ⟨gx, 2, none⟩) hszW).trans aW2)
              | (refine step_append_any _ rfl (.tmp 88) (.tmp 91) 33 rfl W.heap.size 35 i0 _ 3 24 Try.underlying33 hi0 hz0 hz1 hz2 rfl (by omega) (.slice (some ⟨W.heap.size + 1, 0, none⟩) 0 0) (0) ([]) (by simp [Act.eval, Act.put]) (by have := (World.ownsRow_made (base := W.heap.size) (e := 35) (size := 3) (W.alloc (.cells #[.int .i64 x.l, .int .i64 x.a, .int .i64 x.n] 35)) #[] 0 (by simp) (by decide) rfl).drew; simp only [World.size_alloc] at this; exact this) W.heap.size (A1) (k) (c1) (itCells (os.take k)) (by simp [Act.eval, Act.put]) ((HR1.out.alloc (Nat.le_refl _) (.cells #[.int .i64 x.l, .int .i64 x.a, .int .i64 x.n] 35)).alloc (by simp) (.cells #[] 35)).drew (itCells_one _) (by simp only [maxLen]; omega) (by omega) (by first | exact Nat.le_refl _ | exact bw3.size | exact bw2.size | (simp; done) | (simp; omega) | (have := bw2.size; simp; omega)) ?_; intro v2 w2 hown2 hg2 hat2; obtain ⟨A12, c12, rfl⟩ := own_shape hown2; have bw2 : Below W.heap.size W w2 := Below.grown (below_drew (((Below.refl W.heap.size W).alloc (Nat.le_refl _) (.cells #[.int .i64 x.l, .int .i64 x.a, .int .i64 x.n] 35)).alloc (by simp) (.cells #[] 35))) hg2 (by first | (simp; done) | (simp; omega)) (fun j hj => by simp [Value.ownBlock] at hj; omega); have s20 := (bw2.cell (p := ⟨gx, 0, none⟩) hszW).trans aW0; have s21 := (bw2.cell (p := ⟨gx, 1, none⟩) hszW).trans aW1; have s22 := (bw2.cell (p := ⟨gx, 2, none⟩) hszW).trans aW2)
              | (refine step_append_any _ rfl (.tmp 92) (.tmp 94) 33 rfl W.heap.size 35 i0 _ 3 24 Try.underlying33 hi0 hz0 hz1 hz2 rfl (by omega) (.slice A12 (0 + k) c12) (0 + k) ([] ++ itCells (os.take k)) (by simp [Act.eval, Act.put]) (hown2.alloc (.cells #[.int .i64 x.l, .int .i64 x.a, .int .i64 x.n] 35)) (w2.heap.size + 1) (some ⟨w2.heap.size, 0, none⟩) (1) (1) (itCells [x]) (by simp [Act.eval, Act.put]) (reads_item w2 35 x) (itCells_one _) (by simp only [maxLen]; omega) (by omega) (by first | exact Nat.le_refl _ | exact bw3.size | exact bw2.size | (simp; done) | (simp; omega) | (have := bw2.size; simp; omega)) ?_; intro v3 w3 hown3 hg3 hat3; obtain ⟨A13, c13, rfl⟩ := own_shape hown3; have bw3 : Below W.heap.size W w3 := Below.grown (bw2.alloc bw2.size (.cells #[.int .i64 x.l, .int .i64 x.a, .int .i64 x.n] 35)) hg3 (by have := bw2.size; simp; omega) (fun j hj => (own_block hown2 hj).1); have s30 := (bw3.cell (p := ⟨gx, 0, none⟩) hszW).trans aW0; have s31 := (bw3.cell (p := ⟨gx, 1, none⟩) hszW).trans aW1; have s32 := (bw3.cell (p := ⟨gx, 2, none⟩) hszW).trans aW2)
              | (refine step_append_any _ rfl (.tmp 92) (.tmp 94) 33 rfl W.heap.size 35 i0 _ 3 24 Try.underlying33 hi0 hz0 hz1 hz2 rfl (by omega) (.slice A12 (0 + k) c12) (0 + k) ([] ++ itCells (os.take k)) (by simp [Act.eval, Act.put]) hown2 (W.heap.size + 2) (some ⟨W.heap.size + 1, 0, none⟩) (1) (1) (itCells [x]) (by simp [Act.eval, Act.put]) (((by have := reads_item (W.alloc (.cells #[] 35)) 35 x; simpa using this : Reads ((W.alloc (.cells #[] 35)).alloc (.cells #[.int .i64 x.l, .int .i64 x.a, .int .i64 x.n] 35)) (W.heap.size + 2) 3 (some ⟨W.heap.size + 1, 0, none⟩) 1 (itCells [x])).drew).fr (by simp) (Fr.of_grown (S := fun i => i = W.heap.size) hg2 (fun i hi => by injection hi with hi; exact hi.symm)) (fun _ ad h => by injection h with h; subst h; simp)) (itCells_one _) (by simp only [maxLen]; omega) (by omega) (by first | exact Nat.le_refl _ | exact bw3.size | exact bw2.size | (simp; done) | (simp; omega) | (have := bw2.size; simp; omega)) ?_; intro v3 w3 hown3 hg3 hat3; obtain ⟨A13, c13, rfl⟩ := own_shape hown3; have bw3 : Below W.heap.size W w3 := Below.grown bw2 hg3 bw2.size (fun j hj => (own_block hown2 hj).1); have s30 := (bw3.cell (p := ⟨gx, 0, none⟩) hszW).trans aW0; have s31 := (bw3.cell (p := ⟨gx, 1, none⟩) hszW).trans aW1; have s32 := (bw3.cell (p := ⟨gx, 2, none⟩) hszW).trans aW2)
              | (refine step_append_any _ rfl (.tmp 92) (.tmp 94) 33 rfl W.heap.size 35 i0 _ 3 24 Try.underlying33 hi0 hz0 hz1 hz2 rfl (by omega) (.slice A12 (0 + k) c12) (0 + k) ([] ++ itCells (os.take k)) (by simp [Act.eval, Act.put]) hown2 (W.heap.size + 1) (some ⟨W.heap.size, 0, none⟩) (1) (1) (itCells [x]) (by simp [Act.eval, Act.put]) ((((reads_item W 35 x).alloc (by simp) (.cells #[] 35)).drew).fr (by simp) (Fr.of_grown (S := fun i => i = W.heap.size + 1) hg2 (fun i hi => by injection hi with hi; exact hi.symm)) (fun _ ad h => by injection h with h; subst h; simp)) (itCells_one _) (by simp only [maxLen]; omega) (by omega) (by first | exact Nat.le_refl _ | exact bw3.size | exact bw2.size | (simp; done) | (simp; omega) | (have := bw2.size; simp; omega)) ?_; intro v3 w3 hown3 hg3 hat3; obtain ⟨A13, c13, rfl⟩ := own_shape hown3; have bw3 : Below W.heap.size W w3 := Below.grown bw2 hg3 bw2.size (fun j hj => (own_block hown2 hj).1); have s30 := (bw3.cell (p := ⟨gx, 0, none⟩) hszW).trans aW0; have s31 := (bw3.cell (p := ⟨gx, 1, none⟩) hszW).trans aW1; have s32 := (bw3.cell (p := ⟨gx, 2, none⟩) hszW).trans aW2)
              | (refine step_append_any _ rfl (.tmp 95) (.tmp 98) 33 rfl W.heap.size 35 i0 _ 3 24 Try.underlying33 hi0 hz0 hz1 hz2 rfl (by omega) (.slice A13 (0 + k + 1) c13) (0 + k + 1) ([] ++ itCells (os.take k) ++ itCells [x]) (by simp [Act.eval, Act.put]) hown3 W.heap.size (A2) (os.length - k) (c1 - k) (itCells (os.drop k)) (by simp [Act.eval, Act.put, hA2]) (HR2.out.below bw3) (itCells_one _) (by simp only [maxLen]; omega) (by omega) (by first | exact Nat.le_refl _ | exact bw3.size | exact bw2.size | (simp; done) | (simp; omega) | (have := bw2.size; simp; omega)) ?_; intro v4 w4 hown4 hg4 hat4; obtain ⟨A14, c14, rfl⟩ := own_shape hown4; have bw4 : Below W.heap.size W w4 := Below.grown bw3 hg4 bw3.size (fun j hj => (own_block hown3 hj).1); have s40 := (bw4.cell (p := ⟨gx, 0, none⟩) hszW).trans aW0; have s41 := (bw4.cell (p := ⟨gx, 1, none⟩) hszW).trans aW1; have s42 := (bw4.cell (p := ⟨gx, 2, none⟩) hszW).trans aW2))
            all_goals
              have e5 : k + 1 + (os.length - k) = (os.take k ++ [x] ++ os.drop k).length := by simp; omega
              have e6 : [] ++ itCells (os.take k) ++ itCells [x] ++ itCells (os.drop k) = itCells (os.take k ++ [x] ++ os.drop k) := by rw [itCells_app, itCells_app]; simp
              rw [Nat.zero_add, e5, e6] at hown4
              rw [e5]
              have hris2 := Lib.hid (sor_put HRI.out HL.out HD.out)
              have hmem2 := Lib.hid (show (os.take k ++ [x] ++ os.drop k).Perm (pick (xs.take (j + 1)) f t) from by rw [HTK.out]; exact (put_perm os x k).trans (HM.out.append_right _))
              have hlen2 : (os.take k ++ [x] ++ os.drop k).length ≤ j + 1 := by rw [← e5]; omega
              have hbw := HBW.out
              have hsW : w.heap.size ≤ W.heap.size := Nat.le_trans HB6.out.size hbw.size
              have HO4 := Lib.hid (own_mono hown4 hsW)
              have HB4 := Lib.hid ((HB6.out.trans (hbw.mono HB6.out.size)).trans (bw4.mono hsW))
              generalize os.take k ++ [x] ++ os.drop k = os2 at hris2 hmem2 hlen2 HO4 ⊢
              clear hown2 hown3 hown4 hg2 hg3 hg4 hat2 hat3 hat4 bw2 bw3 bw4 s20 s21 s22 s30 s31 s32 s40 s41 s42 e5 e6 hSS0 hSS1 hSS2 aW0 aW1 aW2 HR1 HR2 hbw HBW
              go_wp2_with fail
              go_roundw
              case rel => exact ⟨j + 1, A14, c14, os2, by omega, by go_num, rfl, HO4.out, hris2.out, hmem2.out, hlen2, HB4.out⟩
              case measure => simp [intOf]; omega
        · have HL := Lib.hid (show ∀ y ∈ os.take k, ¬ iLt x y from by rw [show k = 0 by omega]; simp) -- ARM endB
          have d1 : decide (0 < (k : Int)) = false := decide_eq_false (by omega)
          have d1' : decide (0 < k) = false := decide_eq_false hk1
          have HD := Lib.hid hdr
          have HB1 := Lib.hid hb1
          clear hdr hb1
          go_wp2_with fail
          go_quiet (fail)
          obtain ⟨W, hW⟩ : ∃ W, W = wr.drewN nq := ⟨_, rfl⟩
          rw [← hW]
          have bW : Below W6.heap.size W6 W := by rw [hW]; exact below_drewN HB1.out _
          have aW : W.cell? ⟨gx, 0, none⟩ = some (.int .i64 x.l) ∧ W.cell? ⟨gx, 1, none⟩ = some (.int .i64 x.a) ∧ W.cell? ⟨gx, 2, none⟩ = some (.int .i64 x.n) := ⟨(bW.cell (p := ⟨gx, 0, none⟩) hgxl).trans x0, (bW.cell (p := ⟨gx, 1, none⟩) hgxl).trans x1, (bW.cell (p := ⟨gx, 2, none⟩) hgxl).trans x2⟩
          have hszW := Nat.lt_of_lt_of_le hgxl bW.size
          have hcap := own_cap HO6.out
          have hr1 := ((HRD6.out.below bW).more bW.size).head (k := k) hk
          have hr2 := ((HRD6.out.below bW).more bW.size).cut (k := k) (cap := c1) hk hcap.1
          rw [itCells_take] at hr1
          rw [itCells_drop] at hr2
          have HR1 := Lib.hid hr1
          have HBW := Lib.hid bW
          have hp1 : (k : Int) ≤ (c1 : Int) := by omega
          have hp2 : (k : Int) ≤ (os.length : Int) := by omega
          have hp3 : (os.length : Int) ≤ (c1 : Int) := by omega
          have hc1m := hcap.2
          obtain ⟨aW0, aW1, aW2⟩ := aW
          obtain ⟨hSS0, hSS1, hSS2⟩ : W.drew.cell? ⟨gx, 0, none⟩ = some (.int .i64 x.l) ∧ W.drew.cell? ⟨gx, 1, none⟩ = some (.int .i64 x.a) ∧ W.drew.cell? ⟨gx, 2, none⟩ = some (.int .i64 x.n) := ⟨aW0, aW1, aW2⟩
          obtain ⟨A2, hA2⟩ : ∃ A2, (if c1 = k then A1 else A1.map (·.add (k * 3))) = A2 := ⟨_, rfl⟩
          rw [hA2] at hr2
          have HR2 := Lib.hid hr2
          clear hW hr1 hr2 bW hcap y0 y1
          go_wp2_with fail
          go_region_held3 (fun w' => w'.cell? ⟨gx, 0, none⟩ = some (.int .i64 x.l) ∧ w'.cell? ⟨gx, 1, none⟩ = some (.int .i64 x.a) ∧ w'.cell? ⟨gx, 2, none⟩ = some (.int .i64 x.n)) (first | with_reducible exact ⟨s40, s41, s42⟩ | with_reducible exact ⟨s30, s31, s32⟩ | with_reducible exact ⟨s20, s21, s22⟩ | go_keep) (first
            | (refine step_append_any _ rfl (.tmp 88) (.tmp 91) 33 rfl W.heap.size 35 i0 _ 3 24 Try.underlying33 hi0 hz0 hz1 hz2 rfl (by omega) (.slice (some ⟨W.heap.size, 0, none⟩) 0 0) (0) ([]) (by simp [Act.eval, Act.put]) (World.ownsRow_made (base := W.heap.size) (e := 35) (size := 3) W #[] 0 (Nat.le_refl _) (by decide) rfl).drew W.heap.size (A1) (k) (c1) (itCells (os.take k)) (by simp [Act.eval, Act.put]) (HR1.out.alloc (Nat.le_refl _) (.cells #[] 35)).drew (itCells_one _) (by simp only [maxLen]; omega) (by omega) (by first | exact Nat.le_refl _ | exact bw3.size | exact bw2.size | (simp; done) | (simp; omega) | (have := bw2.size; simp; omega)) ?_; intro v2 w2 hown2 hg2 hat2; obtain ⟨A12, c12, rfl⟩ := own_shape hown2; have bw2 : Below W.heap.size W w2 := Below.grown (below_drew ((Below.refl W.heap.size W).alloc (Nat.le_refl _) (.cells #[] 35))) hg2 (by first | (simp; done) | (simp; omega)) (fun j hj => by simp [Value.ownBlock] at hj; omega); have s20 := (bw2.cell (p := ⟨gx, 0, none⟩) hszW).trans aW0; have s21 := (bw2.cell (p := ⟨gx, 1, none⟩) hszW).trans aW1; have s22 := (bw2.cell (p := ⟨gx, 2, none⟩) hszW).trans aW2)
            | (refine step_append_any _ rfl (.tmp 88) (.tmp 91) 33 rfl W.heap.size 35 i0 _ 3 24 Try.underlying33 hi0 hz0 hz1 hz2 rfl (by omega) (.slice (some ⟨W.heap.size, 0, none⟩) 0 0) (0) ([]) (by simp [Act.eval, Act.put]) (((World.ownsRow_made (base := W.heap.size) (e := 35) (size := 3) W #[] 0 (Nat.le_refl _) (by decide) rfl).alloc (.cells #[.int .i64 x.l, .int .i64 x.a, .int .i64 x.n] 35)).drew) W.heap.size (A1) (k) (c1) (itCells (os.take k)) (by simp [Act.eval, Act.put]) ((HR1.out.alloc (Nat.le_refl _) (.cells #[] 35)).alloc (by simp) (.cells #[.int .i64 x.l, .int .i64 x.a, .int .i64 x.n] 35)).drew (itCells_one _) (by simp only [maxLen]; omega) (by omega) (by first | exact Nat.le_refl _ | exact bw3.size | exact bw2.size | (simp; done) | (simp; omega) | (have := bw2.size; simp; omega)) ?_; intro v2 w2 hown2 hg2 hat2; obtain ⟨A12, c12, rfl⟩ := own_shape hown2; have bw2 : Below W.heap.size W w2 := Below.grown (below_drew (((Below.refl W.heap.size W).alloc (Nat.le_refl _) (.cells #[] 35)).alloc (by simp) (.cells #[.int .i64 x.l, .int .i64 x.a, .int .i64 x.n] 35))) hg2 (by first | (simp; done) | (simp; omega)) (fun j hj => by simp [Value.ownBlock] at hj; omega); have s20 := (bw2.cell (p := ⟨gx, 0, none⟩) hszW).trans aW0; have s21 := (bw2.cell (p := ⟨gx, 1, none⟩) hszW).trans aW1; have s22 := (bw2.cell (p := ⟨gx, 2, none⟩) hszW).trans aW2)
            | (refine step_append_any _ rfl (.tmp 88) (.tmp 91) 33 rfl W.heap.size 35 i0 _ 3 24 Try.underlying33 hi0 hz0 hz1 hz2 rfl (by omega) (.slice (some ⟨W.heap.size + 1, 0, none⟩) 0 0) (0) ([]) (by simp [Act.eval, Act.put]) (by have := (World.ownsRow_made (base := W.heap.size) (e := 35) (size := 3) (W.alloc (.cells #[.int .i64 x.l, .int .i64 x.a, .int .i64 x.n] 35)) #[] 0 (by simp) (by decide) rfl).drew; simp only [World.size_alloc] at this; exact this) W.heap.size (A1) (k) (c1) (itCells (os.take k)) (by simp [Act.eval, Act.put]) ((HR1.out.alloc (Nat.le_refl _) (.cells #[.int .i64 x.l, .int .i64 x.a, .int .i64 x.n] 35)).alloc (by simp) (.cells #[] 35)).drew (itCells_one _) (by simp only [maxLen]; omega) (by omega) (by first | exact Nat.le_refl _ | exact bw3.size | exact bw2.size | (simp; done) | (simp; omega) | (have := bw2.size; simp; omega)) ?_; intro v2 w2 hown2 hg2 hat2; obtain ⟨A12, c12, rfl⟩ := own_shape hown2; have bw2 : Below W.heap.size W w2 := Below.grown (below_drew (((Below.refl W.heap.size W).alloc (Nat.le_refl _) (.cells #[.int .i64 x.l, .int .i64 x.a, .int .i64 x.n] 35)).alloc (by simp) (.cells #[] 35))) hg2 (by first | (simp; done) | (simp; omega)) (fun j hj => by simp [Value.ownBlock] at hj; omega); have s20 := (bw2.cell (p := ⟨gx, 0, none⟩) hszW).trans aW0; have s21 := (bw2.cell (p := ⟨gx, 1, none⟩) hszW).trans aW1; have s22 := (bw2.cell (p := ⟨gx, 2, none⟩) hszW).trans aW2)
            | (refine step_append_any _ rfl (.tmp 92) (.tmp 94) 33 rfl W.heap.size 35 i0 _ 3 24 Try.underlying33 hi0 hz0 hz1 hz2 rfl (by omega) (.slice A12 (0 + k) c12) (0 + k) ([] ++ itCells (os.take k)) (by simp [Act.eval, Act.put]) (hown2.alloc (.cells #[.int .i64 x.l, .int .i64 x.a, .int .i64 x.n] 35)) (w2.heap.size + 1) (some ⟨w2.heap.size, 0, none⟩) (1) (1) (itCells [x]) (by simp [Act.eval, Act.put]) (reads_item w2 35 x) (itCells_one _) (by simp only [maxLen]; omega) (by omega) (by first | exact Nat.le_refl _ | exact bw3.size | exact bw2.size | (simp; done) | (simp; omega) | (have := bw2.size; simp; omega)) ?_; intro v3 w3 hown3 hg3 hat3; obtain ⟨A13, c13, rfl⟩ := own_shape hown3; have bw3 : Below W.heap.size W w3 := Below.grown (bw2.alloc bw2.size (.cells #[.int .i64 x.l, .int .i64 x.a, .int .i64 x.n] 35)) hg3 (by have := bw2.size; simp; omega) (fun j hj => (own_block hown2 hj).1); have s30 := (bw3.cell (p := ⟨gx, 0, none⟩) hszW).trans aW0; have s31 := (bw3.cell (p := ⟨gx, 1, none⟩) hszW).trans aW1; have s32 := (bw3.cell (p := ⟨gx, 2, none⟩) hszW).trans aW2)
            | (refine step_append_any _ rfl (.tmp 92) (.tmp 94) 33 rfl W.heap.size 35 i0 _ 3 24 Try.underlying33 hi0 hz0 hz1 hz2 rfl (by omega) (.slice A12 (0 + k) c12) (0 + k) ([] ++ itCells (os.take k)) (by simp [Act.eval, Act.put]) hown2 (W.heap.size + 2) (some ⟨W.heap.size + 1, 0, none⟩) (1) (1) (itCells [x]) (by simp [Act.eval, Act.put]) (((by have := reads_item (W.alloc (.cells #[] 35)) 35 x; simpa using this : Reads ((W.alloc (.cells #[] 35)).alloc (.cells #[.int .i64 x.l, .int .i64 x.a, .int .i64 x.n] 35)) (W.heap.size + 2) 3 (some ⟨W.heap.size + 1, 0, none⟩) 1 (itCells [x])).drew).fr (by simp) (Fr.of_grown (S := fun i => i = W.heap.size) hg2 (fun i hi => by injection hi with hi; exact hi.symm)) (fun _ ad h => by injection h with h; subst h; simp)) (itCells_one _) (by simp only [maxLen]; omega) (by omega) (by first | exact Nat.le_refl _ | exact bw3.size | exact bw2.size | (simp; done) | (simp; omega) | (have := bw2.size; simp; omega)) ?_; intro v3 w3 hown3 hg3 hat3; obtain ⟨A13, c13, rfl⟩ := own_shape hown3; have bw3 : Below W.heap.size W w3 := Below.grown bw2 hg3 bw2.size (fun j hj => (own_block hown2 hj).1); have s30 := (bw3.cell (p := ⟨gx, 0, none⟩) hszW).trans aW0; have s31 := (bw3.cell (p := ⟨gx, 1, none⟩) hszW).trans aW1; have s32 := (bw3.cell (p := ⟨gx, 2, none⟩) hszW).trans aW2)
            | (refine step_append_any _ rfl (.tmp 92) (.tmp 94) 33 rfl W.heap.size 35 i0 _ 3 24 Try.underlying33 hi0 hz0 hz1 hz2 rfl (by omega) (.slice A12 (0 + k) c12) (0 + k) ([] ++ itCells (os.take k)) (by simp [Act.eval, Act.put]) hown2 (W.heap.size + 1) (some ⟨W.heap.size, 0, none⟩) (1) (1) (itCells [x]) (by simp [Act.eval, Act.put]) ((((reads_item W 35 x).alloc (by simp) (.cells #[] 35)).drew).fr (by simp) (Fr.of_grown (S := fun i => i = W.heap.size + 1) hg2 (fun i hi => by injection hi with hi; exact hi.symm)) (fun _ ad h => by injection h with h; subst h; simp)) (itCells_one _) (by simp only [maxLen]; omega) (by omega) (by first | exact Nat.le_refl _ | exact bw3.size | exact bw2.size | (simp; done) | (simp; omega) | (have := bw2.size; simp; omega)) ?_; intro v3 w3 hown3 hg3 hat3; obtain ⟨A13, c13, rfl⟩ := own_shape hown3; have bw3 : Below W.heap.size W w3 := Below.grown bw2 hg3 bw2.size (fun j hj => (own_block hown2 hj).1); have s30 := (bw3.cell (p := ⟨gx, 0, none⟩) hszW).trans aW0; have s31 := (bw3.cell (p := ⟨gx, 1, none⟩) hszW).trans aW1; have s32 := (bw3.cell (p := ⟨gx, 2, none⟩) hszW).trans aW2)
            | (refine step_append_any _ rfl (.tmp 95) (.tmp 98) 33 rfl W.heap.size 35 i0 _ 3 24 Try.underlying33 hi0 hz0 hz1 hz2 rfl (by omega) (.slice A13 (0 + k + 1) c13) (0 + k + 1) ([] ++ itCells (os.take k) ++ itCells [x]) (by simp [Act.eval, Act.put]) hown3 W.heap.size (A2) (os.length - k) (c1 - k) (itCells (os.drop k)) (by simp [Act.eval, Act.put, hA2]) (HR2.out.below bw3) (itCells_one _) (by simp only [maxLen]; omega) (by omega) (by first | exact Nat.le_refl _ | exact bw3.size | exact bw2.size | (simp; done) | (simp; omega) | (have := bw2.size; simp; omega)) ?_; intro v4 w4 hown4 hg4 hat4; obtain ⟨A14, c14, rfl⟩ := own_shape hown4; have bw4 : Below W.heap.size W w4 := Below.grown bw3 hg4 bw3.size (fun j hj => (own_block hown3 hj).1); have s40 := (bw4.cell (p := ⟨gx, 0, none⟩) hszW).trans aW0; have s41 := (bw4.cell (p := ⟨gx, 1, none⟩) hszW).trans aW1; have s42 := (bw4.cell (p := ⟨gx, 2, none⟩) hszW).trans aW2))
          all_goals
            have e5 : k + 1 + (os.length - k) = (os.take k ++ [x] ++ os.drop k).length := by simp; omega
            have e6 : [] ++ itCells (os.take k) ++ itCells [x] ++ itCells (os.drop k) = itCells (os.take k ++ [x] ++ os.drop k) := by rw [itCells_app, itCells_app]; simp
            rw [Nat.zero_add, e5, e6] at hown4
            rw [e5]
            have hris2 := Lib.hid (sor_put HRI.out HL.out HD.out)
            have hmem2 := Lib.hid (show (os.take k ++ [x] ++ os.drop k).Perm (pick (xs.take (j + 1)) f t) from by rw [HTK.out]; exact (put_perm os x k).trans (HM.out.append_right _))
            have hlen2 : (os.take k ++ [x] ++ os.drop k).length ≤ j + 1 := by rw [← e5]; omega
            have hbw := HBW.out
            have hsW : w.heap.size ≤ W.heap.size := Nat.le_trans HB6.out.size hbw.size
            have HO4 := Lib.hid (own_mono hown4 hsW)
            have HB4 := Lib.hid ((HB6.out.trans (hbw.mono HB6.out.size)).trans (bw4.mono hsW))
            generalize os.take k ++ [x] ++ os.drop k = os2 at hris2 hmem2 hlen2 HO4 ⊢
            clear hown2 hown3 hown4 hg2 hg3 hg4 hat2 hat3 hat4 bw2 bw3 bw4 s20 s21 s22 s30 s31 s32 s40 s41 s42 e5 e6 hSS0 hSS1 hSS2 aW0 aW1 aW2 HR1 HR2 hbw HBW
            go_wp2_with fail
            go_roundw
            case rel => exact ⟨j + 1, A14, c14, os2, by omega, by go_num, rfl, HO4.out, hris2.out, hmem2.out, hlen2, HB4.out⟩
            case measure => simp [intOf]; omega
    · obtain rfl : j = xs.length := by omega -- ARM done
      rw [List.take_length] at hmem
      have hji : ¬ ((xs.length : Int) < (xs.length : Int)) := by omega
      have HE := Lib.hid (show os = items xs f t from sort_one HAP.out hmem hris)
      have HO := Lib.hid hown
      have HB := Lib.hid hb
      clear hown hris hmem hb
      go_wp2_with fail
      go_ret
      exact ⟨_, rfl, by rw [← HE.out]; exact HO.out, HB.out⟩
end Go.Proofs.Ythoniedmeeahgaa
