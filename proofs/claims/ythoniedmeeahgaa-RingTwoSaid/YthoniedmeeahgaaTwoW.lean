/-
  RingTwo: two that give one another are one ring; the walk.
-/
import Derived.Test.YthoniedmeeahgaaMayX
namespace Go.Proofs.Ythoniedmeeahgaa
open Go.RowKit Go.Maps

/-- A slice of rings that is there. -/
def RingsAt (w : World) (v : Value) (rs : List RingD) : Prop := ∃ (base : Nat) (cs : List (Value × Value)), w.ownsRow base 32 2 v cs.length (rCells cs) ∧ RingsIn w cs rs
section
variable {w w' : World} {v : Value} {rs : List RingD}
theorem RingsAt.shape (h : RingsAt w v rs) : ∃ A c, v = .slice A rs.length c := by
  obtain ⟨base, cs, ho, hri⟩ := h
  rw [hri.1] at ho
  exact own_shape ho
theorem RingsAt.below (h : RingsAt w v rs) (hb : Below w.heap.size w w') : RingsAt w' v rs := by
  obtain ⟨base, cs, ho, hri⟩ := h
  exact ⟨base, cs, own_below ho hb, hri.kept (TK3.of_below hb)⟩
theorem RingsAt.get (h : RingsAt w v rs) (hn : 0 < rs.length) : ∃ g c, v = .slice (some ⟨g, 0, none⟩) rs.length c ∧ g < w.heap.size ∧ ∀ k (hk : k < rs.length), ∃ vp vl, w.cell? ⟨g, k * 2, none⟩ = some vp ∧ w.cell? ⟨g, k * 2 + 1, none⟩ = some vl ∧ RingAt w vp vl rs[k] := by
  obtain ⟨base, cs, ho, hri⟩ := h
  have hl := hri.1
  rw [hl] at ho
  obtain ⟨A, c, rfl⟩ := own_shape ho
  obtain ⟨g, rfl, hg, hc⟩ := rings_cells ho hn
  exact ⟨g, c, rfl, hg, fun k hk => ⟨_, _, (hc k (by omega)).1, (hc k (by omega)).2, hri.get (by omega) hk⟩⟩
end
/-- What one gives another one, counted. -/
def cnt (xs : List NetD) (f t : Int) : Nat := (xs.filter (isE f t)).length
theorem items_cnt (xs : List NetD) (f t : Int) : (items xs f t).length = cnt xs f t := by
  unfold cnt
  have := (items_back xs f t).length_eq
  simpa using this
theorem cnt_pos {xs : List NetD} {f t : Int} : 0 < cnt xs f t ↔ hasE xs f t = true := by
  rw [← items_cnt, List.length_pos_iff, ← TOf_ne (K := ⟨f, t⟩)]
  rfl
theorem cnt_succ {xs : List NetD} {k : Nat} (hk : k < xs.length) (f t : Int) : cnt (xs.take (k + 1)) f t = if xs[k].f = f ∧ xs[k].t = t then cnt (xs.take k) f t + 1 else cnt (xs.take k) f t := by
  unfold cnt
  rw [take_filter hk]
  by_cases h : xs[k].f = f ∧ xs[k].t = t
  · rw [if_pos h, if_pos (by simp [isE, h.1, h.2])]
    simp
  · rw [if_neg h, if_neg (by simpa [isE] using h)]
/-- How many of the first rings are of these two. -/
def cntR (rs : List RingD) (a b : Int) : Nat := (rs.filter fun r => r.ps == [a, b]).length
theorem take_filterR {rs : List RingD} {p : RingD → Bool} {j : Nat} (hj : j < rs.length) : (rs.take (j + 1)).filter p = if p rs[j] = true then (rs.take j).filter p ++ [rs[j]] else (rs.take j).filter p := by
  rw [List.take_succ_eq_append_getElem hj, List.filter_append]
  by_cases h : p rs[j] = true <;> simp [h]
theorem cntR_succ {rs : List RingD} {k : Nat} (hk : k < rs.length) (a b : Int) : cntR (rs.take (k + 1)) a b = if rs[k].ps = [a, b] then cntR (rs.take k) a b + 1 else cntR (rs.take k) a b := by
  unfold cntR
  rw [take_filterR hk]
  by_cases h : rs[k].ps = [a, b]
  · rw [if_pos h, if_pos (by simpa using h)]
    simp
  · rw [if_neg h, if_neg (by simpa using h)]
theorem two_of {xs : List NetD} {rs : List RingD} {left : List NetD} (h : RingsOK xs rs left) {a b : Int} (hab : a < b) : cntR rs a b ≤ 1 ∧ (cntR rs a b = 1 ↔ (0 < cnt xs a b ∧ 0 < cnt xs b a)) ∧ ∀ r ∈ rs, r.ps = [a, b] → ∃ l0 l1, r.legs = [l0, l1] ∧ l0.length = cnt xs a b ∧ l1.length = cnt xs b a := by
  have ht := h.twos a b hab
  refine ⟨?_, ?_, fun r hr hps => ?_⟩
  · unfold cntR
    rw [ht]
    split <;> simp
  · unfold cntR
    rw [ht, cnt_pos, cnt_pos]
    split
    · rename_i h1
      simp [h1]
    · rename_i h1
      simp [h1]
  · have : r ∈ rs.filter (fun r => r.ps == [a, b]) := List.mem_filter.2 ⟨hr, by simpa using hps⟩
    rw [ht] at this
    split at this
    · rw [List.mem_singleton] at this
      subst this
      exact ⟨_, _, rfl, items_cnt _ _ _, items_cnt _ _ _⟩
    · simp at this
theorem cntR_le {rs : List RingD} (a b : Int) : cntR rs a b ≤ rs.length := List.length_filter_le _ _
theorem cnt_le (xs : List NetD) (f t : Int) : cnt xs f t ≤ xs.length := List.length_filter_le _ _
theorem two_list {L : List Int} (h : L.length = 2) {a b : Int} : L = [a, b] ↔ L.getD 0 0 = a ∧ L.getD 1 0 = b := by
  match L, h with
  | [x, y], _ => simp
theorem netsR_pos {r : RingD} (h : GoodR r) : 0 < (netsR r).length := by
  have h2 := h.two
  have hne := h.ne 0 (by omega)
  obtain ⟨i, is, e⟩ := List.exists_cons_of_ne_nil hne
  refine List.length_pos_of_mem (a := mkN (r.ps.getD 0 0) (nextOf r.ps 0) i) ?_
  unfold netsR
  rw [List.mem_flatMap]
  refine ⟨0, List.mem_range.2 (by omega), ?_⟩
  rw [e]
  simp
theorem flat_len {α β : Type} {f : α → List β} : ∀ {rs : List α}, (∀ r ∈ rs, 0 < (f r).length) → rs.length ≤ (rs.flatMap f).length := by
  intro rs
  induction rs with
  | nil => intro _; simp
  | cons r rs ih =>
    intro h
    have h1 := h r (by simp)
    have h2 := ih (fun x hx => h x (by simp [hx]))
    rw [List.flatMap_cons, List.length_append, List.length_cons]
    omega
set_option maxRecDepth 100000 in
set_option maxHeartbeats 16000000 in
theorem two_law (t : NsD) (w : World) (ht : t.ok w) (hsz : t.n ≤ 9223372036854775807) : Calls Try.prog 6 #[.slice t.A t.n t.c] w fun e w' => e = .returned (.bool true) ∧ Below w.heap.size w w' := by
  have HT := Lib.hid ht
  clear ht
  go_enter Try.func6, Try.ntmps6
  go_wp2_with fail
  refine (first_any w).mono ?_
  rintro e w1 ⟨rfl, hb1⟩
  have HB1 := Lib.hid hb1
  clear hb1
  go_wp2_with fail
  refine (may_any t w1 (HT.out.below HB1.out) hsz).mono ?_
  rintro e w2 ⟨r, rfl, hr, hb2⟩
  have HB2 := Lib.hid (HB1.out.trans (hb2.mono HB1.out.size))
  have HR := Lib.hid hr
  clear hb2 hr
  cases r with
  | false => -- ARM bad
    clear HT HR
    go_wp2_with fail
    refine (first_any w2).mono ?_
    rintro e w3 ⟨rfl, hb3⟩
    go_wp2_with fail
    go_ret
    exact ⟨rfl, HB2.out.trans (hb3.mono HB2.out.size)⟩
  | true =>
    have hmx := HR.out.1 rfl -- ARM good
    have hok := ringsOf_ok (fun x hx => (hmx.each x hx).ne)
    have hlen := hmx.len
    have HMX := Lib.hid hmx
    have HOK := Lib.hid hok
    clear HR hmx hok
    go_wp2_with fail
    refine (of_any t w2 (HT.out.below HB2.out) HMX.out).mono ?_
    rintro e w3 ⟨v1, v2, cs, rfl, ho1, hri, ho2, hb3⟩
    have HB3 := Lib.hid (HB2.out.trans (hb3.mono HB2.out.size))
    have hra : RingsAt w3 v1 (ringsOf t.xs).1 := ⟨_, cs, ho1, hri⟩
    have hT3 := HT.out.below HB3.out
    have hpl := HOK.out.perm.length_eq
    have hgd := HOK.out.good
    have htw : ∀ a b : Int, a < b → cntR (ringsOf t.xs).1 a b ≤ 1 ∧ (cntR (ringsOf t.xs).1 a b = 1 ↔ (0 < cnt t.xs a b ∧ 0 < cnt t.xs b a)) ∧ ∀ r ∈ (ringsOf t.xs).1, r.ps = [a, b] → ∃ l0 l1, r.legs = [l0, l1] ∧ l0.length = cnt t.xs a b ∧ l1.length = cnt t.xs b a := fun a b h => two_of HOK.out h
    obtain ⟨A, n, c, xs⟩ := t
    have hat := hT3.at_
    obtain ⟨hl, _⟩ := hT3
    simp only at hl hat hsz hra hlen hpl hgd htw ⊢
    obtain rfl := hl
    generalize ringsOf xs = R at hra hpl hgd htw
    obtain ⟨rs, lf⟩ := R
    simp only at hra hpl hgd htw
    have hrl : rs.length ≤ 100 := by
      have h1 : rs.length ≤ (rs.flatMap netsR).length := flat_len (fun r hr => netsR_pos (hgd r hr).1)
      rw [List.length_append] at hpl
      omega
    obtain ⟨Ar, cr, rfl⟩ := hra.shape
    have HRA := Lib.hid hra
    have HAT := Lib.hid hat
    have HG := Lib.hid hgd
    have HTW := Lib.hid htw
    clear hra hat hgd htw hpl hb3 ho1 ho2 hri HB1 HB2 HT HMX HOK
    go_wp2_with fail
    go_loopw [5] (fun i wr => ∃ a : Nat, a ≤ 16 ∧ i = .int .i64 a ∧ wr = w3) (fun i _ => 16 - (intOf i).toNat)
    case atStart => exact ⟨0, by omega, rfl, rfl⟩
    case round =>
      obtain ⟨a, ha, rfl, rfl⟩ := hrel
      have ha0 : (0 : Int) ≤ (a : Int) := Int.natCast_nonneg _
      by_cases hla : a < 16
      · have hai : (a : Int) < 16 := by omega -- ARM la
        have da : decide ((a : Int) < 16) = true := decide_eq_true hai
        have ea : IntKind.i64.wrap ((a : Int) + 1) = (a : Int) + 1 := by rw [IntKind.wrap_i64]; omega
        go_wp2_with fail
        go_loopw [6] (fun i wq => ∃ b : Nat, a < b ∧ b ≤ 16 ∧ i = .int .i64 b ∧ wq = wr) (fun i _ => 16 - (intOf i).toNat)
        case atStart => exact ⟨a + 1, by omega, by omega, by simp, rfl⟩
        case round =>
          obtain ⟨b, hab, hb16, rfl, rfl⟩ := hrel
          have hb0 : (0 : Int) ≤ (b : Int) := Int.natCast_nonneg _
          by_cases hlb : b < 16
          · have hbi : (b : Int) < 16 := by omega -- ARM lb
            have db : decide ((b : Int) < 16) = true := decide_eq_true hbi
            have eb : IntKind.i64.wrap ((b : Int) + 1) = (b : Int) + 1 := by rw [IntKind.wrap_i64]; omega
            have habi : (a : Int) < (b : Int) := by omega
            go_wp2_with fail
            go_loopw [7, 8, 9] (fun x y i wq => ∃ k : Nat, k ≤ xs.length ∧ i = .int .i64 k ∧ x = .int .i64 (cnt (xs.take k) a b) ∧ y = .int .i64 (cnt (xs.take k) b a) ∧ wq = wr) (fun _ _ i _ => xs.length - (intOf i).toNat)
            case atStart => exact ⟨0, Nat.zero_le _, rfl, rfl, rfl, rfl⟩
            case round =>
              obtain ⟨k, hk, rfl, rfl, rfl, rfl⟩ := hrel
              have hk0 : (0 : Int) ≤ (k : Int) := Int.natCast_nonneg _
              by_cases hlk : k < xs.length
              · obtain ⟨bN, oN, rfl, hbN, hN⟩ := HAT.out (by omega) -- ARM count
                have hki : (k : Int) < (xs.length : Int) := by omega
                have ek : IntKind.i64.wrap ((k : Int) + 1) = (k : Int) + 1 := by rw [IntKind.wrap_i64]; omega
                obtain ⟨c0, c1, _, _, _⟩ := hN k hlk
                have hs1 := cnt_succ hlk a b
                have hs2 := cnt_succ hlk b a
                have hc1 := cnt_le (xs.take k) a b
                have hc2 := cnt_le (xs.take k) b a
                rw [List.length_take] at hc1 hc2
                have w1' : IntKind.i64.wrap ((cnt (xs.take k) a b : Nat) + 1 : Int) = (cnt (xs.take k) a b : Nat) + 1 := by rw [IntKind.wrap_i64]; omega
                have w2' : IntKind.i64.wrap ((cnt (xs.take k) b a : Nat) + 1 : Int) = (cnt (xs.take k) b a : Nat) + 1 := by rw [IntKind.wrap_i64]; omega
                obtain ⟨x, hx⟩ : ∃ x, x = xs[k] := ⟨_, rfl⟩
                rw [← hx] at c0 c1 hs1 hs2
                obtain ⟨th, hth⟩ : ∃ th, th = cnt (xs.take k) a b := ⟨_, rfl⟩
                obtain ⟨bk, hbk⟩ : ∃ bk, bk = cnt (xs.take k) b a := ⟨_, rfl⟩
                rw [← hth] at hs1 w1' ⊢
                rw [← hbk] at hs2 w2' ⊢
                clear hx hN hth hbk hc1 hc2
                by_cases fa : x.f = (a : Int)
                · have fb : ¬ x.f = (b : Int) := by omega
                  by_cases tb : x.t = (b : Int)
                  · skip -- ARM k1
                    have afa : (x.f == (a : Int)) = true := by simpa using fa
                    have bfa : decide (x.f = (a : Int)) = true := decide_eq_true fa
                    have atb : (x.t == (b : Int)) = true := by simpa using tb
                    have btb : decide (x.t = (b : Int)) = true := decide_eq_true tb
                    have afb : (x.f == (b : Int)) = false := by simpa using fb
                    have bfb : decide (x.f = (b : Int)) = false := decide_eq_false fb
                    have HS1 := Lib.hid (show cnt (xs.take (k + 1)) a b = th + 1 from by rw [hs1]; split <;> omega)
                    have HS2 := Lib.hid (show cnt (xs.take (k + 1)) b a = bk from by rw [hs2]; split <;> omega)
                    clear hs1 hs2 fa tb fb
                    go_wp2_with fail
                    exact ⟨⟨k + 1, hlk, rfl, by rw [HS1.out] <;> rfl, by rw [HS2.out] <;> rfl, by trivial⟩, by simp only [intOf]; omega⟩
                  · skip -- ARM k2
                    have afa : (x.f == (a : Int)) = true := by simpa using fa
                    have bfa : decide (x.f = (a : Int)) = true := decide_eq_true fa
                    have atb : (x.t == (b : Int)) = false := by simpa using tb
                    have btb : decide (x.t = (b : Int)) = false := decide_eq_false tb
                    have afb : (x.f == (b : Int)) = false := by simpa using fb
                    have bfb : decide (x.f = (b : Int)) = false := decide_eq_false fb
                    have HS1 := Lib.hid (show cnt (xs.take (k + 1)) a b = th from by rw [hs1]; split <;> omega)
                    have HS2 := Lib.hid (show cnt (xs.take (k + 1)) b a = bk from by rw [hs2]; split <;> omega)
                    clear hs1 hs2 fa tb fb
                    go_wp2_with fail
                    exact ⟨⟨k + 1, hlk, rfl, by rw [HS1.out] <;> rfl, by rw [HS2.out] <;> rfl, by trivial⟩, by simp only [intOf]; omega⟩
                · by_cases fb : x.f = (b : Int)
                  · by_cases ta : x.t = (a : Int)
                    · skip -- ARM k3
                      have afa : (x.f == (a : Int)) = false := by simpa using fa
                      have bfa : decide (x.f = (a : Int)) = false := decide_eq_false fa
                      have afb : (x.f == (b : Int)) = true := by simpa using fb
                      have bfb : decide (x.f = (b : Int)) = true := decide_eq_true fb
                      have ata : (x.t == (a : Int)) = true := by simpa using ta
                      have bta : decide (x.t = (a : Int)) = true := decide_eq_true ta
                      have HS1 := Lib.hid (show cnt (xs.take (k + 1)) a b = th from by rw [hs1]; split <;> omega)
                      have HS2 := Lib.hid (show cnt (xs.take (k + 1)) b a = bk + 1 from by rw [hs2]; split <;> omega)
                      clear hs1 hs2 fa fb ta
                      go_wp2_with fail
                      exact ⟨⟨k + 1, hlk, rfl, by rw [HS1.out] <;> rfl, by rw [HS2.out] <;> rfl, by trivial⟩, by simp only [intOf]; omega⟩
                    · skip -- ARM k4
                      have afa : (x.f == (a : Int)) = false := by simpa using fa
                      have bfa : decide (x.f = (a : Int)) = false := decide_eq_false fa
                      have afb : (x.f == (b : Int)) = true := by simpa using fb
                      have bfb : decide (x.f = (b : Int)) = true := decide_eq_true fb
                      have ata : (x.t == (a : Int)) = false := by simpa using ta
                      have bta : decide (x.t = (a : Int)) = false := decide_eq_false ta
                      have HS1 := Lib.hid (show cnt (xs.take (k + 1)) a b = th from by rw [hs1]; split <;> omega)
                      have HS2 := Lib.hid (show cnt (xs.take (k + 1)) b a = bk from by rw [hs2]; split <;> omega)
                      clear hs1 hs2 fa fb ta
                      go_wp2_with fail
                      exact ⟨⟨k + 1, hlk, rfl, by rw [HS1.out] <;> rfl, by rw [HS2.out] <;> rfl, by trivial⟩, by simp only [intOf]; omega⟩
                  · skip -- ARM k5
                    have afa : (x.f == (a : Int)) = false := by simpa using fa
                    have bfa : decide (x.f = (a : Int)) = false := decide_eq_false fa
                    have afb : (x.f == (b : Int)) = false := by simpa using fb
                    have bfb : decide (x.f = (b : Int)) = false := decide_eq_false fb
                    have HS1 := Lib.hid (show cnt (xs.take (k + 1)) a b = th from by rw [hs1]; split <;> omega)
                    have HS2 := Lib.hid (show cnt (xs.take (k + 1)) b a = bk from by rw [hs2]; split <;> omega)
                    clear hs1 hs2 fa fb
                    go_wp2_with fail
                    exact ⟨⟨k + 1, hlk, rfl, by rw [HS1.out] <;> rfl, by rw [HS2.out] <;> rfl, by trivial⟩, by simp only [intOf]; omega⟩
              · obtain rfl : k = xs.length := by omega -- ARM rings
                have hki : ¬ ((xs.length : Int) < (xs.length : Int)) := by omega
                rw [List.take_length]
                have hc1 := cnt_le xs a b
                have hc2 := cnt_le xs b a
                obtain ⟨ht1, ht2, ht3⟩ := HTW.out a b habi
                obtain ⟨th, hth⟩ : ∃ th, th = cnt xs a b := ⟨_, rfl⟩
                obtain ⟨bk, hbk⟩ : ∃ bk, bk = cnt xs b a := ⟨_, rfl⟩
                rw [← hth] at ht2 ht3 hc1 ⊢
                rw [← hbk] at ht2 ht3 hc2 ⊢
                have HT1 := Lib.hid ht1
                have HT2 := Lib.hid ht2
                have HT3 := Lib.hid ht3
                clear hth hbk ht1 ht2 ht3
                go_wp2_with fail
                go_loopw [10, 11] (fun z i wq => ∃ j : Nat, j ≤ rs.length ∧ i = .int .i64 j ∧ z = .int .i64 (cntR (rs.take j) a b) ∧ wq = wr) (fun _ i _ => rs.length - (intOf i).toNat)
                case atStart => exact ⟨0, Nat.zero_le _, rfl, rfl, rfl⟩
                case round =>
                  obtain ⟨j, hj, rfl, rfl, rfl⟩ := hrel
                  have hj0 : (0 : Int) ≤ (j : Int) := Int.natCast_nonneg _
                  by_cases hlj : j < rs.length
                  · obtain ⟨gR, cR, hv, hgR, hcR⟩ := HRA.out.get (by omega) -- ARM ring
                    injection hv with hA _ hc
                    subst hA hc
                    have hji : (j : Int) < (rs.length : Int) := by omega
                    have ej : IntKind.i64.wrap ((j : Int) + 1) = (j : Int) + 1 := by rw [IntKind.wrap_i64]; omega
                    obtain ⟨vp, vl, k0, k1, hra⟩ := hcR j hlj
                    have hgr := (HG.out rs[j] (List.getElem_mem hlj)).1
                    have hr3 := HT3.out rs[j] (List.getElem_mem hlj)
                    have hsu := cntR_succ hlj (a : Int) (b : Int)
                    have hcl := cntR_le (rs := rs.take j) (a : Int) (b : Int)
                    rw [List.length_take] at hcl
                    obtain ⟨r, hr⟩ : ∃ r, r = rs[j] := ⟨_, rfl⟩
                    rw [← hr] at hra hgr hr3 hsu
                    have h2 := hgr.two
                    have hlg := hgr.legs
                    obtain ⟨bP, oP, cP, rfl, _, hzP, _, hcP⟩ := rdT_int hra.1 (by omega)
                    obtain ⟨bL, oL, cL, rfl, hzL, hcL⟩ := legs_cells hra.2 (by omega)
                    have p0 := hcP 0 (by omega)
                    have p1 := hcP 1 (by omega)
                    rw [← getD_eq (by omega) 0] at p0 p1
                    obtain ⟨q0, hq0⟩ : ∃ q, q = r.ps.getD 0 0 := ⟨_, rfl⟩
                    obtain ⟨q1, hq1⟩ : ∃ q, q = r.ps.getD 1 0 := ⟨_, rfl⟩
                    rw [← hq0] at p0
                    rw [← hq1] at p1
                    simp only [Nat.add_zero] at p0
                    obtain ⟨u0, m0, hu0⟩ := hcL 0 (by omega)
                    obtain ⟨u1, m1, hu1⟩ := hcL 1 (by omega)
                    simp only [Nat.add_zero] at m0
                    obtain ⟨U0, d0, rfl⟩ := leg_shape hu0
                    obtain ⟨U1, d1, rfl⟩ := leg_shape hu1
                    obtain ⟨l0, hl0⟩ : ∃ l, l = (r.legs[0]'(by omega)).length := ⟨_, rfl⟩
                    obtain ⟨l1, hl1⟩ : ∃ l, l = (r.legs[1]'(by omega)).length := ⟨_, rfl⟩
                    rw [← hl0] at m0
                    rw [← hl1] at m1
                    obtain ⟨lp, hlp⟩ : ∃ l, l = r.ps.length := ⟨_, rfl⟩
                    obtain ⟨ll, hll⟩ : ∃ l, l = r.legs.length := ⟨_, rfl⟩
                    have hlpl : ll = lp := by omega
                    rw [← hlp] at k0
                    rw [← hll] at k1
                    obtain ⟨tw, htw⟩ : ∃ tw, tw = cntR (rs.take j) a b := ⟨_, rfl⟩
                    rw [← htw] at hsu ⊢
                    have wt : IntKind.i64.wrap ((tw : Int) + 1) = (tw : Int) + 1 := by rw [IntKind.wrap_i64]; omega
                    have hps : lp = 2 → (r.ps = [(a : Int), (b : Int)] ↔ q0 = (a : Int) ∧ q1 = (b : Int)) := fun h => by rw [hq0, hq1]; exact two_list (by omega)
                    have hp1 : lp ≠ 2 → ¬ r.ps = [(a : Int), (b : Int)] := fun h e => h (by rw [hlp, e]; rfl)
                    have hll2 : r.ps = [(a : Int), (b : Int)] → l0 = th ∧ l1 = bk := fun e => by
                      obtain ⟨x0, x1, e1, e2, e3⟩ := hr3 e
                      rw [hl0, hl1]
                      simp only [e1]
                      exact ⟨e2, e3⟩
                    have i1 : (1 : Int) < (lp : Int) := by omega
                    have i2 : (0 : Int) < (lp : Int) := by omega
                    have i3 : (1 : Int) < (ll : Int) := by omega
                    have i4 : (0 : Int) < (ll : Int) := by omega
                    have hz0 := hgR
                    clear hcR hra hgr hr3 hlg hcP hcL hu0 hu1 hl0 hl1 hq0 hq1 hr hcl h2 htw
                    by_cases l2 : lp = 2
                    · subst l2 -- ARM two
                      subst hlpl
                      by_cases e0 : q0 = (a : Int)
                      · by_cases e1 : q1 = (b : Int)
                        · have hP := (hps rfl).2 ⟨e0, e1⟩ -- ARM hit
                          obtain ⟨rfl, rfl⟩ := hll2 hP
                          rw [if_pos hP] at hsu
                          have HSU := Lib.hid hsu
                          have f0 : (q0 == (a : Int)) = true := by simpa using e0
                          have f1 : (q1 == (b : Int)) = true := by simpa using e1
                          have f2 : decide (q0 = (a : Int)) = true := decide_eq_true e0
                          have f3 : decide (q1 = (b : Int)) = true := decide_eq_true e1
                          clear hsu hP e0 e1 hps hp1 hll2 hlp hll
                          go_wp2_with fail
                          exact ⟨⟨j + 1, hlj, rfl, by rw [HSU.out] <;> rfl, by trivial⟩, by simp only [intOf]; omega⟩
                        · have hP := fun h => e1 ((hps rfl).1 h).2 -- ARM miss1
                          rw [if_neg hP] at hsu
                          have HSU := Lib.hid hsu
                          have f0 : (q0 == (a : Int)) = true := by simpa using e0
                          have f1 : (q1 == (b : Int)) = false := by simpa using e1
                          have f2 : decide (q0 = (a : Int)) = true := decide_eq_true e0
                          have f3 : decide (q1 = (b : Int)) = false := decide_eq_false e1
                          clear hsu hP e0 e1 hps hp1 hll2 hlp hll
                          go_wp2_with fail
                          exact ⟨⟨j + 1, hlj, rfl, by rw [HSU.out] <;> rfl, by trivial⟩, by simp only [intOf]; omega⟩
                      · have hP := fun h => e0 ((hps rfl).1 h).1 -- ARM miss0
                        rw [if_neg hP] at hsu
                        have HSU := Lib.hid hsu
                        have f0 : (q0 == (a : Int)) = false := by simpa using e0
                        have f2 : decide (q0 = (a : Int)) = false := decide_eq_false e0
                        clear hsu hP e0 hps hp1 hll2 hlp hll
                        go_wp2_with fail
                        exact ⟨⟨j + 1, hlj, rfl, by rw [HSU.out] <;> rfl, by trivial⟩, by simp only [intOf]; omega⟩
                    · rw [if_neg (hp1 l2)] at hsu -- ARM more
                      have HSU := Lib.hid hsu
                      have f0 : (lp == 2) = false := by simpa using l2
                      have f1 : ((lp : Int) == 2) = false := by simp; omega
                      have f2 : decide ((lp : Int) = 2) = false := decide_eq_false (by omega)
                      have f3 : decide (lp = 2) = false := decide_eq_false l2
                      clear hsu hps hp1 hll2 hlp hll l2
                      go_wp2_with fail
                      exact ⟨⟨j + 1, hlj, rfl, by rw [HSU.out] <;> rfl, by trivial⟩, by simp only [intOf]; omega⟩
                  · obtain rfl : j = rs.length := by omega -- ARM test
                    have hji : ¬ ((rs.length : Int) < (rs.length : Int)) := by omega
                    rw [List.take_length]
                    obtain ⟨tw, htw⟩ : ∃ tw, tw = cntR rs a b := ⟨_, rfl⟩
                    have ht1 := HT1.out
                    have ht2 := HT2.out
                    rw [← htw] at ht1 ht2 ⊢
                    clear htw
                    have wtw : (0 : Int) ≤ (tw : Int) := Int.natCast_nonneg _
                    have dtw : decide ((1 : Int) < (tw : Int)) = false := decide_eq_false (by omega)
                    have dtw' : decide (1 < tw) = false := decide_eq_false (by omega)
                    by_cases z1 : tw = 1
                    · obtain ⟨zt, zb⟩ := ht2.1 z1 -- ARM test1
                      have q1 : (tw == 1) = true := by simpa using z1
                      have q2 : ((tw : Int) == 1) = true := by simp; omega
                      have q3 : decide (tw = 1) = true := decide_eq_true z1
                      have q4 : decide ((tw : Int) = 1) = true := decide_eq_true (by omega)
                      have q5 : decide ((0 : Int) < (th : Int)) = true := decide_eq_true (by omega)
                      have q6 : decide (0 < th) = true := decide_eq_true zt
                      have q7 : decide ((0 : Int) < (bk : Int)) = true := decide_eq_true (by omega)
                      have q8 : decide (0 < bk) = true := decide_eq_true zb
                      clear ht1 ht2 z1 zt zb
                      go_wp2_with fail
                      exact ⟨⟨b + 1, by omega, by omega, rfl, by trivial⟩, by simp only [intOf]; omega⟩
                    · have q1 : (tw == 1) = false := by simpa using z1
                      have q2 : ((tw : Int) == 1) = false := by simp; omega
                      have q3 : decide (tw = 1) = false := decide_eq_false z1
                      have q4 : decide ((tw : Int) = 1) = false := decide_eq_false (by omega)
                      by_cases zt : 0 < th
                      · have zb : ¬ 0 < bk := fun h => z1 (ht2.2 ⟨zt, h⟩) -- ARM test2
                        have q5 : decide ((0 : Int) < (th : Int)) = true := decide_eq_true (by omega)
                        have q6 : decide (0 < th) = true := decide_eq_true zt
                        have q7 : decide ((0 : Int) < (bk : Int)) = false := decide_eq_false (by omega)
                        have q8 : decide (0 < bk) = false := decide_eq_false zb
                        clear ht1 ht2 z1 zt zb
                        go_wp2_with fail
                        exact ⟨⟨b + 1, by omega, by omega, rfl, by trivial⟩, by simp only [intOf]; omega⟩
                      · have q5 : decide ((0 : Int) < (th : Int)) = false := decide_eq_false (by omega) -- ARM test3
                        have q6 : decide (0 < th) = false := decide_eq_false zt
                        clear ht1 ht2 z1 zt
                        go_wp2_with fail
                        exact ⟨⟨b + 1, by omega, by omega, rfl, by trivial⟩, by simp only [intOf]; omega⟩
          · obtain rfl : b = 16 := by omega -- ARM enb
            have hbi : ¬ (((16 : Nat) : Int) < 16) := by omega
            have db : decide (((16 : Nat) : Int) < 16) = false := decide_eq_false hbi
            go_wp2_with fail
            exact ⟨⟨a + 1, by omega, rfl, by trivial⟩, by simp only [intOf]; omega⟩
      · obtain rfl : a = 16 := by omega -- ARM ena
        have hai : ¬ (((16 : Nat) : Int) < 16) := by omega
        have da : decide (((16 : Nat) : Int) < 16) = false := decide_eq_false hai
        go_wp2_with fail
        refine (first_any _).mono ?_
        rintro e w4 ⟨rfl, hb4⟩
        go_wp2_with fail
        go_ret
        exact ⟨rfl, HB3.out.trans (hb4.mono HB3.out.size)⟩
end Go.Proofs.Ythoniedmeeahgaa
