/-
  The reference's post by contract, the first part: is, At, Put.
-/
import Derived.Test.YtoiopoebjchjeaaPostD
namespace Go.Proofs.Ytoiopoebjchjeaa
open Go.RowKit

set_option maxHeartbeats 1000000 in
theorem is_any (base g : Nat) (rb : Option Nat) (most : Int) (L : List Pk) (i : Int) (w : World) (h : PY w base g rb most L) :
    Calls Try.prog 26 #[.pointer (some ⟨g, 0, none⟩), .int .i64 i] w fun e w' => e = .returned (.bool (okL L i)) ∧ w = w' := by
  obtain ⟨_, A, c, ps, hb, _, _, hL⟩ := h
  have c1 := hb.cell 1
  simp at c1
  have hlen : (ps.length : Int) = L.length := by rw [← hL]; simp
  by_cases h0 : i < 0
  · have ho := Lib.hid (okL_out (L := L) (i := i) (.inl h0))
    have hd : decide (0 ≤ i) = false := decide_eq_false (by omega)
    clear hL hlen hb
    go_enter Try.func26, Try.ntmps26
    go_wp2
    go_ret
    exact ⟨by rw [ho.out]; rfl, rfl⟩
  · by_cases h1 : (ps.length : Int) ≤ i
    · have ho := Lib.hid (okL_out (L := L) (i := i) (.inr (by omega)))
      have hd : decide (0 ≤ i) = true := decide_eq_true (by omega)
      have hd1 : decide (i < (ps.length : Int)) = false := decide_eq_false (by omega)
      clear hL hlen hb
      go_enter Try.func26, Try.ntmps26
      go_wp2
      go_ret
      exact ⟨by rw [ho.out]; rfl, rfl⟩
    · have ho := Lib.hid (show okL L i = true by unfold okL; simp; omega)
      have hd : decide (0 ≤ i) = true := decide_eq_true (by omega)
      have hd1 : decide (i < (ps.length : Int)) = true := decide_eq_true (by omega)
      clear hL hlen hb
      go_enter Try.func26, Try.ntmps26
      go_wp2
      go_ret
      exact ⟨by rw [ho.out]; rfl, rfl⟩

/-- What At of the reference gives: the parcel of the row itself. -/
def AtY (base : Nat) (w : World) (L : List Pk) (i : Int) (e : Ending) (w' : World) : Prop :=
  ∃ A c, e = .returned (.tuple #[.agg #[.int .i64 (atL L i).1, .slice A (atL L i).2.length c], .bool (okL L i)]) ∧
    w'.ownsRow base 5 1 (.slice A (atL L i).2.length c) (atL L i).2.length (bv (atL L i).2) ∧ Below w.heap.size w w'

set_option maxRecDepth 100000 in
set_option maxHeartbeats 1000000 in
theorem aty_any (base g : Nat) (rb : Option Nat) (most : Int) (L : List Pk) (i : Int) (w : World) (h : PY w base g rb most L) :
    Calls Try.prog 21 #[.pointer (some ⟨g, 0, none⟩), .int .i64 i] w (AtY base w L i) := by
  have his := fun w' (hw : PY w' base g rb most L) => is_any base g rb most L i w' hw
  cases hok : okL L i with
  | false =>
    simp only [hok] at his
    have HI := Lib.hid his
    have Ho := Lib.hid hok
    have Hp := Lib.hid (atL_out hok)
    clear his hok
    go_enter Try.func21, Try.ntmps21
    go_wp2_with fail
    refine (HI.out _ (h.below ((Below.refl _ _).alloc (Nat.le_refl _) _))).mono ?_
    rintro e w1 ⟨rfl, rfl⟩
    go_wp2_with fail
    refine bodyPost_ret (results_row_tmp Try.results21 _ _ w.heap.size _ _ _ rfl (Blk.new _ _ _) Try.underlying37 rfl (by kernel_rfl)) rfl ?_
    exact ⟨none, 0, by rw [Ho.out, Hp.out]; rfl, by rw [Hp.out]; exact World.ownsRow_nil _ _ _ _, (Below.refl _ _).alloc (Nat.le_refl _) _⟩
  | true =>
    obtain ⟨k, rfl, hkl⟩ := okL_yes hok
    simp only [hok] at his
    obtain ⟨hsmall, A, c, ps, hb, hrb, hrow, hL⟩ := id h
    have hlt := hb.lt
    have c1 := hb.cell 1
    simp at c1
    have hlen : ps.length = L.length := by rw [← hL]; simp
    have hk : k < ps.length := by omega
    obtain ⟨r, rfl, hr, e1, e2⟩ := hrow.at k hk
    have hpk := hrow.2 ps[k] (List.getElem_mem hk)
    have hat := atL_in hkl
    have hLk : L[k] = (ps[k].to, ps[k].bs) := by subst hL; simp [PD.data]
    rw [hLk] at hat
    obtain ⟨pk, hpe⟩ : ∃ pk, pk = ps[k] := ⟨_, rfl⟩
    rw [← hpe] at hat hpk e1 e2
    obtain ⟨to, Ab, cb, bs⟩ := pk
    have hpk' : w.ownsRow base 5 1 (.slice Ab bs.length cb) bs.length (bv bs) := hpk
    simp only at e1 e2 hat
    have Hat := Lib.hid hat
    have Ho := Lib.hid hok
    have HP := Lib.hid hpk'
    have HI := Lib.hid his
    have hk1 : (k : Int) < (ps.length : Int) := by omega
    have hk0 : (0 : Int) ≤ (k : Int) := Int.natCast_nonneg _
    clear hpe hpk hat hLk hL hrb hlen hpk' his hok
    go_enter Try.func21, Try.ntmps21
    go_wp2_with fail
    refine (HI.out _ (h.below ((Below.refl _ _).alloc (Nat.le_refl _) _))).mono ?_
    rintro e w1 ⟨rfl, rfl⟩
    go_wp2_with fail
    refine bodyPost_ret (results_row_tmp Try.results21 _ _ w.heap.size _ _ _ rfl (Blk.new _ _ _) Try.underlying37 rfl (by kernel_rfl)) rfl ?_
    refine ⟨Ab, cb, by rw [Ho.out, Hat.out]; rfl, ?_, (Below.refl _ _).alloc (Nat.le_refl _) _⟩
    rw [Hat.out]
    exact HP.out.alloc _

set_option maxRecDepth 100000 in
set_option maxHeartbeats 2000000 in
theorem puty_any (base g : Nat) (rb : Option Nat) (most : Int) (L : List Pk) (to : Int) (A0 : Option Addr) (n0 c0 : Nat) (bs : List UInt8) (w : World) (h : PY w base g rb most L) (hbase : base ≤ w.heap.size)
    (ha : Reads w w.heap.size 1 A0 n0 (bv bs)) (hmax : n0 ≤ 9223372036854775807) :
    Calls Try.prog 12 #[.pointer (some ⟨g, 0, none⟩), .int .i64 to, .slice A0 n0 c0] w (CallR PY w base g rb most (putL most L to bs).1 (.int .i64 (putL most L to bs).2)) := by
  obtain ⟨i0, hi0, hz0, hz1, hz2⟩ := info_parts parcel_info
  obtain ⟨hsmall, A, c, ps, hb, hrb, hrow, hL⟩ := id h
  have hlt := hb.lt
  obtain ⟨⟨d0, d1⟩, f0, f1⟩ := Blk.two hb
  have hlen : (ps.length : Int) = L.length := by rw [← hL]; simp
  obtain rfl : bs.length = n0 := by have := ha.1; simp [bv] at this; omega
  by_cases h1 : most ≤ (ps.length : Int)
  · have Hp := Lib.hid (putL_full (to := to) (bs := bs) (show most ≤ (L.length : Int) by omega))
    clear hL hrb hlen
    go_enter Try.func12, Try.ntmps12
    go_wp2_with fail
    go_quiet (fail)
    go_wp2_with fail
    go_ret
    rw [Hp.out]
    exact ⟨rb, rfl, h.below (below_drewN (Below.refl _ _) _), .inl rfl, (Fr.refl _ _).drewN _⟩
  · have h1' : (ps.length : Int) < most := by omega
    by_cases h2 : (60100 : Int) < (bs.length : Int)
    · have Hp := Lib.hid (putL_long (to := to) (bs := bs) (show ¬ most ≤ (L.length : Int) by omega) (by omega))
      clear hL hrb hlen h1
      go_enter Try.func12, Try.ntmps12
      go_wp2_with fail
      go_quiet (fail)
      go_wp2_with fail
      go_ret
      rw [Hp.out]
      exact ⟨rb, rfl, h.below (below_drewN (Below.refl _ _) _), .inl rfl, (Fr.refl _ _).drewN _⟩
    · have hn2 : bs.length ≤ 60100 := by omega
      have Hp := Lib.hid (putL_ok (to := to) (bs := bs) (show ¬ most ≤ (L.length : Int) by omega) (by omega))
      have HS := Lib.hid (small_put hsmall (to := to) (bs := bs) (by omega) (by omega))
      have h200 : ps.length < 200 := by obtain ⟨_, q2, q3, _⟩ := hsmall; omega
      have HL := Lib.hid hL
      have Hrb := Lib.hid hrb
      have Hrow := Lib.hid hrow
      have Hb := Lib.hid hb
      clear hL hrb hlen h1 h2 hrow hb
      go_enter Try.func12, Try.ntmps12
      go_wp2_with fail
      go_quiet (fail)
      go_wp2_with fail
      have hgr : (Value.slice A ps.length c).ownBlock ≠ some g := by
        intro e
        exact (h.row (k := g) (Hrb.out.symm.trans e)).2.2.1 rfl
      go_region_law (first
        | (go_simp; go_at_call 25; refine (copy_any A0 bs.length c0 bs _ ?_ (by omega)).mono ?_; exact (ha.drewN (nq + 1)).more (Nat.le_refl _); rintro e w1 ⟨A1, c1, rfl, ho1, hb1⟩; have hlt1 := ((Hb.out.drewN (nq + 1)).below hb1 hlt).lt; obtain ⟨⟨q0, q1⟩, g0, g1⟩ := Blk.two ((Hb.out.drewN (nq + 1)).below hb1 hlt))
        | (go_must (refine step_append_any _ rfl (.tmp 26) (.tmp 31) 44 rfl base 37 i0 _ 2 32 Try.underlying44 hi0 hz0 hz1 hz2 rfl (by omega) (.slice A ps.length c) ps.length (pcells ps) (by simp [Act.eval]) ((own_below (w := w.drewN (nq + 1)) Hrow.out.1 hb1).alloc _) (w1.heap.size + 1) (some ⟨w1.heap.size, 0, none⟩) 1 1 [.int .i64 to, .slice A1 bs.length c1] (by simp [Act.eval]) (reads_two _ _ _ _) (by simp [Value.oneCell']) (by simp only [maxLen]; omega) (by omega) (by have := hb1.size; simp at this ⊢; omega) ?_); intro v2 w2 hown2 hg2 hat2; obtain ⟨A2, c2, rfl⟩ := own_shape hown2; obtain ⟨⟨r0, r1⟩, g0', g1'⟩ := Blk.two (((Hb.out.drewN (nq + 1)).below hb1 hlt).alloc _ |>.grown hg2 (Ne.symm hgr))))
      all_goals go_wp2_with fail
      all_goals
        go_ret
        rw [Hp.out]
        have b01 : Below w.heap.size w w1 := (below_drewN (Below.refl _ _) (nq + 1)).trans hb1
        have f1 : Fr (PS g rb) w (w1.alloc (.cells #[.int .i64 to, .slice A1 bs.length c1] 37)) := (Fr.of_below b01).alloc _
        have g2 : Fr (PS g rb) (w1.alloc (.cells #[.int .i64 to, .slice A1 bs.length c1] 37)) w2 := Fr.of_grown hg2 (fun j hj => .inr (by rw [← Hrb.out]; exact hj))
        have g3 : Fr (PS g rb) (w1.alloc (.cells #[.int .i64 to, .slice A1 bs.length c1] 37)) (w2.setCell ⟨g, 1, none⟩ (.slice A2 (ps.length + 1) c2)) := g2.set g 1 _ (fun _ => .inl rfl)
        have f3 := f1.trans g3
        have k2 := (((Hb.out.drewN (nq + 1)).below hb1 hlt).alloc (.cells #[.int .i64 to, .slice A1 bs.length c1] 37)).grown hg2 (Ne.symm hgr)
        have k3 := k2.set_ 1 (.slice A2 (ps.length + 1) c2)
        have h1x : PY (w1.alloc (.cells #[.int .i64 to, .slice A1 bs.length c1] 37)) base g rb most L := h.below (b01.alloc b01.size _)
        have ok1 : PD.ok ⟨to, A1, c1, bs⟩ (w1.alloc (.cells #[.int .i64 to, .slice A1 bs.length c1] 37)) base := own_mono (ho1.alloc _) (by simp; omega)
        refine ⟨(Value.slice A2 (ps.length + 1) c2).ownBlock, rfl, ⟨HS.out, A2, c2, ps ++ [⟨to, A1, c1, bs⟩], by simpa using k3, by simp, ⟨?_, ?_⟩, by rw [List.map_append, HL.out]; rfl⟩, ?_, f3⟩
        · rw [pcells_append, List.length_append]
          refine own_fr (S := fun k => k = g) hown2 (Fr.of_grown (set_only _ g 1 _) (fun j hj => by injection hj with hj; exact hj.symm)) (fun j hj e => ?_)
          subst e
          exact own_blk_ne hown2 k2 (by decide) hj
        · intro p hp
          rcases List.mem_append.1 hp with hp | hp
          · exact (Hrow.out.2 p hp).fr f3 h.nobytes
          · simp at hp
            subst hp
            exact ok1.fr g3 h1x.nobytes
        · rcases hat2 with e | e
          · exact .inl (e.trans Hrb.out)
          · exact .inr ⟨_, e, by have := b01.size; simp; omega⟩
end Go.Proofs.Ytoiopoebjchjeaa
