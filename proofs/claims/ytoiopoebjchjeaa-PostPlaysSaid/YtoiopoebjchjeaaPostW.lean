/-
  The reference's post by contract, the third part: Drop, Copy.
-/
import Derived.Test.YtoiopoebjchjeaaPostZ
namespace Go.Proofs.Ytoiopoebjchjeaa
open Go.RowKit

set_option maxRecDepth 100000 in
set_option maxHeartbeats 1000000 in
theorem dropy_any (base g : Nat) (rb : Option Nat) (most : Int) (L : List Pk) (i : Int) (w : World) (h : PY w base g rb most L) (hbase : base ≤ w.heap.size) :
    Calls Try.prog 17 #[.pointer (some ⟨g, 0, none⟩), .int .i64 i] w (CallR PY w base g rb most (dropL L i) (.bool (okL L i))) := by
  have ht := takey_any base g rb most L i w h hbase
  have hl := h.lt
  have HT := Lib.hid ht
  have Hh := Lib.hid h
  clear ht h
  go_enter Try.func17, Try.ntmps17
  go_wp2_with fail
  refine HT.out.mono ?_
  rintro e w1 ⟨v, rb', rfl, ⟨A1, c1, rfl, ho1⟩, hp1, hm1, hf1⟩
  have HP1 := Lib.hid hp1
  clear ho1 hp1
  go_wp2_with fail
  go_ret
  exact ⟨rb', rfl, HP1.out.below ((Below.refl _ _).alloc (Nat.le_refl _) _), hm1, hf1.alloc _⟩

set_option maxRecDepth 100000 in
set_option maxHeartbeats 1000000 in
theorem copyy_any (base g : Nat) (rb : Option Nat) (most : Int) (L : List Pk) (i : Int) (w : World) (h : PY w base g rb most L) (hbase : base ≤ w.heap.size) :
    Calls Try.prog 19 #[.pointer (some ⟨g, 0, none⟩), .int .i64 i] w (CallR PY w base g rb most (copyL most L i).1 (.int .i64 (copyL most L i).2)) := by
  have his := is_any base g rb most L i w h
  cases hok : okL L i with
  | false =>
    rw [hok] at his
    have HI := Lib.hid his
    have Hc := Lib.hid (copyL_no (most := most) hok)
    clear his hok
    go_enter Try.func19, Try.ntmps19
    go_wp2_with fail
    refine HI.out.mono ?_
    rintro e w1 ⟨rfl, rfl⟩
    go_wp2_with fail
    go_ret
    rw [Hc.out]
    exact ⟨rb, rfl, h, .inl rfl, Fr.refl _ _⟩
  | true =>
    have hsm := atL_small h.1 i
    have hc := copyL_yes (most := most) hok
    obtain ⟨k, rfl, hkl⟩ := okL_yes hok
    rw [hok] at his
    obtain ⟨hsmall, A, c, ps, hb, hrb, hrow, hL⟩ := id h
    have hlt := hb.lt
    have c1 := hb.cell 1
    simp at c1
    have hlen : ps.length = L.length := by rw [← hL]; simp
    have hk : k < ps.length := by omega
    obtain ⟨r, rfl, hr, e1, e2⟩ := hrow.at k hk
    have hpk := hrow.2 ps[k] (List.getElem_mem hk)
    have hat := atL_in hkl
    have hLk : L[k] = (ps[k].to, ps[k].bs) := by subst hL; simp [PD.data]
    rw [hLk] at hat
    obtain ⟨pk, hpe⟩ : ∃ pk, pk = ps[k] := ⟨_, rfl⟩
    rw [← hpe] at hat hpk e1 e2
    obtain ⟨to, Ab, cb, bs⟩ := pk
    have hpk' : w.ownsRow base 5 1 (.slice Ab bs.length cb) bs.length (bv bs) := hpk
    simp only at e1 e2 hat
    rw [hat] at hsm hc
    simp only at hsm hc
    have Hc := Lib.hid hc
    have HP := Lib.hid hpk'
    have HI := Lib.hid his
    have hk1 : (k : Int) < (ps.length : Int) := by omega
    have hk0 : (0 : Int) ≤ (k : Int) := Int.natCast_nonneg _
    have Hh := Lib.hid h
    clear hpe hpk hat hLk hL hrb hlen hpk' his hok hc h
    go_enter Try.func19, Try.ntmps19
    go_wp2_with fail
    refine HI.out.mono ?_
    rintro e w1 ⟨rfl, rfl⟩
    go_wp2_with fail
    have hput := puty_any base g rb most L to Ab bs.length cb bs w.drew (Hh.out.below (Below.refl _ _).drew) (by simpa using hbase) (Reads.of_own HP.out).drew (by omega)
    have HPut := Lib.hid hput
    clear hput
    go_region_with (go_at_call 12; refine HPut.out.mono ?_; rintro e w2 ⟨rb', rfl, hp2, hm2, hf2⟩)
    all_goals go_wp2_with fail
    all_goals
      go_ret
      rw [Hc.out]
      exact CallR.pre (Below.refl _ _).drew ⟨rb', rfl, hp2, hm2, hf2⟩
end Go.Proofs.Ytoiopoebjchjeaa
