/-
  take by contract: a net that is free is taken somewhere.
-/
import Derived.Test.YthoniedmeeahgaaMayX
import Derived.Test.YthoniedmeeahgaaWholeLaw
namespace Go.Proofs.Ythoniedmeeahgaa
open Go.RowKit Go.Maps

/-- The cells of who is gone. -/
def boolV (G : List Bool) : Array Value := (G.map Value.bool).toArray
theorem boolV_at {G : List Bool} {k : Nat} (h : k < G.length) : (boolV G)[k]? = some (.bool (G.getD k false)) := by
  unfold boolV
  rw [getD_eq h]
  simp [h]
theorem boolV_set (G : List Bool) (k : Nat) : (boolV G).setIfInBounds k (.bool true) = boolV (G.set k true) := by
  unfold boolV
  simp [List.map_set]
def TakeP (w : World) (g : Nat) (xs : List NetD) (us : List Bool) (x : NetD) (e : Ending) (w' : World) : Prop :=
  e = .returned (.bool true) ∧ ∃ i, ∃ hi : i < xs.length, ∃ hu : i < us.length, us[i] = false ∧ xs[i] = x ∧ Blk w' g 4 (boolV (us.set i true)) ∧ w.grownBy w' (some g)
def structN (x : NetD) : Value := .agg #[.int .i64 x.f, .int .i64 x.t, .int .i64 x.l, .int .i64 x.a, .int .i64 x.n]
set_option maxRecDepth 100000 in
set_option maxHeartbeats 16000000 in
theorem take_any (A : Option Addr) (c d g : Nat) (xs : List NetD) (us : List Bool) (x : NetD) (w : World) (hat : 0 < xs.length → ∃ b o, A = some ⟨b, o, none⟩ ∧ b ≠ g ∧ NetAt w xs b o) (hg : Blk w g 4 (boolV us)) (hlen : us.length = xs.length) (hsz : xs.length ≤ 9223372036854775807) (hx : x ∈ freeOf xs us) : Calls Try.prog 11 #[.slice A xs.length c, .slice (some ⟨g, 0, none⟩) us.length d, structN x] w (TakeP w g xs us x) := by
  have HAT := Lib.hid hat
  have HG := Lib.hid hg
  have hfind := freeOf_find hx
  have HF := Lib.hid hfind
  clear hat hg hx hfind
  obtain ⟨yf, yt, yl, ya, yn⟩ := x
  unfold structN
  simp only
  go_enter Try.func11, Try.ntmps11
  go_wp2_with fail
  have HNW := Lib.hid (Blk.new w 38 #[.int .i64 yf, .int .i64 yt, .int .i64 yl, .int .i64 ya, .int .i64 yn])
  have HB0 := Lib.hid ((Below.refl w.heap.size w).alloc (Nat.le_refl _) (.cells #[.int .i64 yf, .int .i64 yt, .int .i64 yl, .int .i64 ya, .int .i64 yn] 38))
  obtain ⟨h, hh⟩ : ∃ h, h = w.heap.size := ⟨_, rfl⟩
  have HH := Lib.hid hh
  rw [← hh] at HNW HB0 ⊢
  clear hh
  go_loopw [7] (fun i wr => ∃ k : Nat, k ≤ xs.length ∧ i = .int .i64 k ∧ (∀ j (h1 : j < xs.length) (h2 : j < us.length), j < k → ¬ (us[j] = false ∧ xs[j] = ⟨yf, yt, yl, ya, yn⟩)) ∧ Below h w wr ∧ Blk wr h 38 #[.int .i64 yf, .int .i64 yt, .int .i64 yl, .int .i64 ya, .int .i64 yn]) (fun i _ => xs.length - (intOf i).toNat)
  case atStart => exact ⟨0, Nat.zero_le _, rfl, fun j _ _ hj => absurd hj (Nat.not_lt_zero _), HB0.out, HNW.out⟩
  case round =>
    obtain ⟨k, hk, rfl, hn, hb, hbl⟩ := hrel
    have hk0 : (0 : Int) ≤ (k : Int) := Int.natCast_nonneg _
    by_cases hlt : k < xs.length
    · obtain ⟨b, o, rfl, hbg, hN⟩ := HAT.out (by omega) -- ARM round
      have hki : (k : Int) < (xs.length : Int) := by omega
      have hku : k < us.length := by omega
      have hkui : (k : Int) < (us.length : Int) := by omega
      have ek : IntKind.i64.wrap ((k : Int) + 1) = (k : Int) + 1 := by rw [IntKind.wrap_i64]; omega
      have hbh : b < h := by rw [HH.out]; exact hN.1
      have hgh : g < h := by rw [HH.out]; exact HG.out.lt
      have hz1 : b < wr.heap.size := Nat.lt_trans hbh hbl.lt
      obtain ⟨h0, h1, h2, h3, h4⟩ := hN.2 k hlt
      have c0 := (hb.cell (p := ⟨b, o + k * 5, none⟩) hbh).trans h0
      have c1 := (hb.cell (p := ⟨b, o + k * 5 + 1, none⟩) hbh).trans h1
      have c2 := (hb.cell (p := ⟨b, o + k * 5 + 2, none⟩) hbh).trans h2
      have c3 := (hb.cell (p := ⟨b, o + k * 5 + 3, none⟩) hbh).trans h3
      have c4 := (hb.cell (p := ⟨b, o + k * 5 + 4, none⟩) hbh).trans h4
      obtain ⟨y0, y1, y2, y3, y4⟩ := hbl.five
      have hgr := HG.out.below hb hgh
      have u0 := (hgr.cell k).trans (boolV_at hku)
      have hgl := hgr.lt
      have hhl := hbl.lt
      have hfz := hgr.frozen k
      obtain ⟨u, hu⟩ : ∃ u, u = us.getD k false := ⟨_, rfl⟩
      rw [← hu] at u0
      rw [getD_eq hku] at hu
      obtain ⟨x, hx⟩ : ∃ x, x = xs[k] := ⟨_, rfl⟩
      rw [← hx] at c0 c1 c2 c3 c4
      have HU := Lib.hid hu
      have HX := Lib.hid hx
      have HGR := Lib.hid hgr
      have HN := Lib.hid hn
      have HB := Lib.hid hb
      have HBL := Lib.hid hbl
      obtain ⟨xf, xt, xl, xa, xn⟩ := x
      simp only at c0 c1 c2 c3 c4
      clear hu hx hn hb hbl h0 h1 h2 h3 h4 hN hgr
      by_cases mf : xf = yf
      case neg => -- ARM df
        have HNO := Lib.hid (show ¬ (us[k] = false ∧ xs[k] = (⟨yf, yt, yl, ya, yn⟩ : NetD)) from fun h => mf (by have e := HX.out.trans h.2; injection e))
        have ef : (xf == yf) = false := by simpa using mf
        clear mf
        go_wp2_with fail
        go_quiet (fail)
        go_wp2_with fail
        refine ⟨⟨k + 1, hlt, rfl, fun j q1 q2 hj => ?_, below_drewN HB.out _, HBL.out.drewN _⟩, by simp only [intOf]; omega⟩
        by_cases e : j = k
        · subst e
          exact HNO.out
        · exact HN.out j q1 q2 (by omega)
      by_cases mt : xt = yt
      case neg => -- ARM dt
        have HNO := Lib.hid (show ¬ (us[k] = false ∧ xs[k] = (⟨yf, yt, yl, ya, yn⟩ : NetD)) from fun h => mt (by have e := HX.out.trans h.2; injection e))
        have ef : (xf == yf) = true := by simpa using mf
        have et : (xt == yt) = false := by simpa using mt
        clear mf mt
        go_wp2_with fail
        go_quiet (fail)
        go_wp2_with fail
        refine ⟨⟨k + 1, hlt, rfl, fun j q1 q2 hj => ?_, below_drewN HB.out _, HBL.out.drewN _⟩, by simp only [intOf]; omega⟩
        by_cases e : j = k
        · subst e
          exact HNO.out
        · exact HN.out j q1 q2 (by omega)
      by_cases ml : xl = yl
      case neg => -- ARM dl
        have HNO := Lib.hid (show ¬ (us[k] = false ∧ xs[k] = (⟨yf, yt, yl, ya, yn⟩ : NetD)) from fun h => ml (by have e := HX.out.trans h.2; injection e))
        have ef : (xf == yf) = true := by simpa using mf
        have et : (xt == yt) = true := by simpa using mt
        have el : (xl == yl) = false := by simpa using ml
        clear mf mt ml
        go_wp2_with fail
        go_quiet (fail)
        go_wp2_with fail
        refine ⟨⟨k + 1, hlt, rfl, fun j q1 q2 hj => ?_, below_drewN HB.out _, HBL.out.drewN _⟩, by simp only [intOf]; omega⟩
        by_cases e : j = k
        · subst e
          exact HNO.out
        · exact HN.out j q1 q2 (by omega)
      by_cases ma : xa = ya
      case neg => -- ARM da
        have HNO := Lib.hid (show ¬ (us[k] = false ∧ xs[k] = (⟨yf, yt, yl, ya, yn⟩ : NetD)) from fun h => ma (by have e := HX.out.trans h.2; injection e))
        have ef : (xf == yf) = true := by simpa using mf
        have et : (xt == yt) = true := by simpa using mt
        have el : (xl == yl) = true := by simpa using ml
        have ea : (xa == ya) = false := by simpa using ma
        clear mf mt ml ma
        go_wp2_with fail
        go_quiet (fail)
        go_wp2_with fail
        refine ⟨⟨k + 1, hlt, rfl, fun j q1 q2 hj => ?_, below_drewN HB.out _, HBL.out.drewN _⟩, by simp only [intOf]; omega⟩
        by_cases e : j = k
        · subst e
          exact HNO.out
        · exact HN.out j q1 q2 (by omega)
      by_cases mn : xn = yn
      case neg => -- ARM dn
        have HNO := Lib.hid (show ¬ (us[k] = false ∧ xs[k] = (⟨yf, yt, yl, ya, yn⟩ : NetD)) from fun h => mn (by have e := HX.out.trans h.2; injection e))
        have ef : (xf == yf) = true := by simpa using mf
        have et : (xt == yt) = true := by simpa using mt
        have el : (xl == yl) = true := by simpa using ml
        have ea : (xa == ya) = true := by simpa using ma
        have en : (xn == yn) = false := by simpa using mn
        clear mf mt ml ma mn
        go_wp2_with fail
        go_quiet (fail)
        go_wp2_with fail
        refine ⟨⟨k + 1, hlt, rfl, fun j q1 q2 hj => ?_, below_drewN HB.out _, HBL.out.drewN _⟩, by simp only [intOf]; omega⟩
        by_cases e : j = k
        · subst e
          exact HNO.out
        · exact HN.out j q1 q2 (by omega)
      subst mf mt ml ma mn
      cases u with
      | true => -- ARM used
        have HNO := Lib.hid (show ¬ (us[k] = false ∧ xs[k] = (⟨xf, xt, xl, xa, xn⟩ : NetD)) from fun h => by rw [← HU.out] at h; exact absurd h.1 (by decide))
        go_wp2_with fail
        go_quiet (fail)
        go_wp2_with fail
        refine ⟨⟨k + 1, hlt, rfl, fun j q1 q2 hj => ?_, below_drewN HB.out _, HBL.out.drewN _⟩, by simp only [intOf]; omega⟩
        by_cases e : j = k
        · subst e
          exact HNO.out
        · exact HN.out j q1 q2 (by omega)
      | false => -- ARM takes
        go_wp2_with fail
        go_quiet (fail)
        go_wp2_with fail
        go_ret
        refine ⟨rfl, k, hlt, hku, HU.out.symm, HX.out.symm, ?_, ?_⟩
        · rw [← boolV_set]
          exact (HGR.out.drewN _).set_ k (.bool true)
        · have h5 := HB.out
          rw [HH.out] at h5
          exact only_set (only_drewN (only_of_below h5 _) _) k _
    · obtain rfl : k = xs.length := by omega -- ARM none
      obtain ⟨i, q1, q2, e1, e2⟩ := HF.out
      exact absurd ⟨e1, e2⟩ (hn i q1 q2 q1)
end Go.Proofs.Ythoniedmeeahgaa
