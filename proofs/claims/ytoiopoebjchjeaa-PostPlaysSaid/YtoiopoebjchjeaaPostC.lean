/-
  package post by contract, the third part: Drop, Put, Copy, Take.
-/
import Derived.Test.YtoiopoebjchjeaaDelete
import Derived.Deep.DeepMust
namespace Go.Proofs.Ytoiopoebjchjeaa
open Go.RowKit

/-- What a call on a post may turn. -/
abbrev PS (g : Nat) (rb : Option Nat) : Nat → Prop := fun k => k = g ∨ rb = some k
/-- Where the row lies behind a call. -/
def Moved (w : World) (rb rb' : Option Nat) : Prop := rb' = rb ∨ ∃ k, rb' = some k ∧ w.heap.size ≤ k
/-- A call on a post that gives the value v and leaves the list L'. -/
def CallR (P : World → Nat → Nat → Option Nat → Int → List Pk → Prop) (w : World) (base g : Nat) (rb : Option Nat) (most : Int) (L' : List Pk) (v : Value) (e : Ending) (w' : World) : Prop :=
  ∃ rb', e = .returned v ∧ P w' base g rb' most L' ∧ Moved w rb rb' ∧ Fr (PS g rb) w w'

theorem eraseIdx_map {α β : Type} (f : α → β) : ∀ (l : List α) (k : Nat), (l.eraseIdx k).map f = (l.map f).eraseIdx k
  | [], _ => rfl
  | a :: l, 0 => rfl
  | a :: l, k + 1 => by simp [eraseIdx_map f l k]
theorem small_erase {most : Int} {L : List Pk} (h : SmallL most L) (k : Nat) : SmallL most (L.eraseIdx k) := by
  obtain ⟨h1, h2, h3, h4⟩ := h
  refine ⟨h1, h2, ?_, fun x hx => h4 x (List.mem_of_mem_eraseIdx hx)⟩
  have := List.length_eraseIdx_le L k
  omega
/-- No block that a post's call may turn holds bytes. -/
theorem PX.nobytes {w : World} {base g : Nat} {rb : Option Nat} {most : Int} {L : List Pk} (h : PX w base g rb most L) : ∀ k cs, PS g rb k → k < w.heap.size → ¬ Blk w k 5 cs := by
  intro k cs hk _ hb
  rcases hk with rfl | hk
  · obtain ⟨_, A, c, ps, h1, _⟩ := h
    exact Blk.ne_ h1 hb (by decide) rfl
  · obtain ⟨_, _, _, cs', h1⟩ := h.row hk
    exact Blk.ne_ h1 hb (by decide) rfl
theorem PY.nobytes {w : World} {base g : Nat} {rb : Option Nat} {most : Int} {L : List Pk} (h : PY w base g rb most L) : ∀ k cs, PS g rb k → k < w.heap.size → ¬ Blk w k 5 cs := by
  intro k cs hk _ hb
  rcases hk with rfl | hk
  · obtain ⟨_, A, c, ps, h1, _⟩ := h
    exact Blk.ne_ h1 hb (by decide) rfl
  · obtain ⟨_, _, _, cs', h1⟩ := h.row hk
    exact Blk.ne_ h1 hb (by decide) rfl
theorem dropL_out {L : List Pk} {i : Int} (h : okL L i = false) : dropL L i = L := by unfold dropL; rw [if_neg (by simp [h])]
theorem dropL_in {L : List Pk} {k : Nat} (h : k < L.length) : dropL L (k : Int) = L.eraseIdx k := by unfold dropL; rw [if_pos (okL_in h)]; simp

set_option maxRecDepth 100000 in
set_option maxHeartbeats 1000000 in
theorem drop_any (base g : Nat) (rb : Option Nat) (most : Int) (L : List Pk) (i : Int) (w : World) (h : PX w base g rb most L) :
    Calls Try.prog 16 #[.pointer (some ⟨g, 0, none⟩), .int .i64 i] w (CallR PX w base g rb most (dropL L i) (.bool (okL L i))) := by
  obtain ⟨hsmall, A, c, ps, hb, hrb, hrow, hL⟩ := id h
  have hlt := hb.lt
  have c0 := hb.cell 0
  simp at c0
  have hlen : (ps.length : Int) = L.length := by rw [← hL]; simp
  by_cases h0 : i < 0
  · have ho := okL_out (L := L) (i := i) (.inl h0)
    have Hp := Lib.hid (dropL_out ho)
    have Ho := Lib.hid ho
    clear ho hL hrb hlen
    go_enter Try.func16, Try.ntmps16
    go_wp2_with fail
    go_ret
    exact ⟨rb, by rw [Ho.out]; rfl, by rw [Hp.out]; exact h, .inl rfl, Fr.refl _ _⟩
  · by_cases h1 : (ps.length : Int) ≤ i
    · have ho := okL_out (L := L) (i := i) (.inr (by omega))
      have Hp := Lib.hid (dropL_out ho)
      have Ho := Lib.hid ho
      clear ho hL hrb hlen
      go_enter Try.func16, Try.ntmps16
      go_wp2_with fail
      go_ret
      exact ⟨rb, by rw [Ho.out]; rfl, by rw [Hp.out]; exact h, .inl rfl, Fr.refl _ _⟩
    · obtain ⟨k, rfl⟩ := Int.eq_ofNat_of_zero_le (by omega : 0 ≤ i)
      have hk : k < ps.length := by omega
      obtain ⟨m, hm⟩ : ∃ m, ps.length = m + 1 := ⟨ps.length - 1, by omega⟩
      have hown := hrow.1
      obtain ⟨r, rfl, hr, e1, e2⟩ := hrow.at k hk
      clear e1 e2
      rw [hm] at hown
      have hkl : k < L.length := by omega
      have Ho := Lib.hid (okL_in hkl)
      have Hd := Lib.hid (dropL_in hkl)
      have HL := Lib.hid hL
      have Hm := Lib.hid hm
      have Hrow := Lib.hid hrow
      have Hb := Lib.hid hb
      have f0 := hb.frozen 0
      have Hrb := Lib.hid hrb
      have hne : r ≠ g := by
        have := h.row hrb.symm
        exact this.2.2.1
      rw [hm] at c0 h1
      have hkm : (k : Int) ≤ (m : Int) := by omega
      have hm200 : (m : Int) ≤ 200 := by obtain ⟨_, q2, q3, _⟩ := hsmall; omega
      clear hL hrb hlen hm hrow hk hb
      go_enter Try.func16, Try.ntmps16
      go_wp2_with fail
      refine (delete_any base r c m k ps w Hm.out (by omega) hown).mono ?_
      rintro e w1 ⟨rfl, hown1, hg1⟩
      have hb1 := Hb.out.grown hg1 (fun e => by injection e; omega)
      obtain ⟨⟨q0, q1⟩, g0, g1⟩ := Blk.two hb1
      have HB1 := Lib.hid hb1
      clear hb1
      go_wp2_with fail
      go_ret
      have hlen2 : (ps.eraseIdx k).length = m := by rw [List.length_eraseIdx, if_pos (by rw [Hm.out]; omega), Hm.out]; omega
      have b2 := HB1.out.set_ 0 (.slice (some ⟨r, 0, none⟩) m c)
      have fr : Fr (PS g rb) w (w1.setCell ⟨g, 0, none⟩ (.slice (some ⟨r, 0, none⟩) m c)) := (Fr.of_grown hg1 (fun j hj => .inr (by rw [← Hrb.out]; simpa [Value.ownBlock] using hj))).set g 0 _ (fun _ => .inl rfl)
      refine ⟨rb, by rw [Ho.out]; rfl, ?_, .inl rfl, fr⟩
      rw [Hd.out]
      refine ⟨small_erase hsmall k, some ⟨r, 0, none⟩, c, ps.eraseIdx k, by rw [hlen2]; simpa using b2, by rw [← Hrb.out]; rfl, ⟨?_, fun p hp => (Hrow.out.2 p (List.mem_of_mem_eraseIdx hp)).fr fr h.nobytes⟩, by rw [eraseIdx_map, HL.out]⟩
      rw [hlen2]
      exact own_fr (S := fun k => k = g) hown1 (Fr.of_grown (set_only _ g 0 _) (fun j hj => by injection hj with hj; exact hj.symm)) (fun j hj e => by simp [Value.ownBlock] at hj; omega)
theorem putL_full {most : Int} {L : List Pk} {to : Int} {bs : List UInt8} (h : most ≤ L.length) : putL most L to bs = (L, 12) := by unfold putL; rw [if_pos h]
theorem putL_long {most : Int} {L : List Pk} {to : Int} {bs : List UInt8} (h : ¬ most ≤ L.length) (h2 : 60100 < bs.length) : putL most L to bs = (L, 3) := by unfold putL; rw [if_neg h, if_pos h2]
theorem putL_ok {most : Int} {L : List Pk} {to : Int} {bs : List UInt8} (h : ¬ most ≤ L.length) (h2 : ¬ 60100 < bs.length) : putL most L to bs = (L ++ [(to, bs)], 0) := by unfold putL; rw [if_neg h, if_neg h2]
theorem small_put {most : Int} {L : List Pk} (h : SmallL most L) {to : Int} {bs : List UInt8} (h1 : ¬ most ≤ L.length) (h2 : ¬ 60100 < bs.length) : SmallL most (L ++ [(to, bs)]) := by
  obtain ⟨a, b, c, d⟩ := h
  refine ⟨a, b, by simp; omega, fun x hx => ?_⟩
  rcases List.mem_append.1 hx with hx | hx
  · exact d x hx
  · simp at hx
    subst hx
    simp only
    omega

theorem reads_two (w : World) (t : TypeId) (a b : Value) : Reads (w.alloc (.cells #[a, b] t)) (w.heap.size + 1) 2 (some ⟨w.heap.size, 0, none⟩) 1 [a, b] := by
  refine ⟨rfl, fun _ => ⟨_, rfl, by simp, fun j u hu => ?_⟩⟩
  have hb := Blk.new w t #[a, b]
  match j, hu with
  | 0, hu =>
    have : a = u := by simpa using hu
    subst this
    rw [Addr.add_lit, hb.cell]
    rfl
  | 1, hu =>
    have : b = u := by simpa using hu
    subst this
    rw [Addr.add_lit, hb.cell]
    rfl

set_option maxRecDepth 100000 in
set_option maxHeartbeats 2000000 in
theorem put_any (base g : Nat) (rb : Option Nat) (most : Int) (L : List Pk) (to : Int) (A0 : Option Addr) (n0 c0 : Nat) (bs : List UInt8) (w : World) (h : PX w base g rb most L) (hbase : base ≤ w.heap.size)
    (ha : Reads w w.heap.size 1 A0 n0 (bv bs)) (hc0 : A0 = none → n0 = 0 ∧ c0 = 0) (hmax : n0 ≤ 9223372036854775807) :
    Calls Try.prog 11 #[.pointer (some ⟨g, 0, none⟩), .int .i64 to, .slice A0 n0 c0] w (CallR PX w base g rb most (putL most L to bs).1 (.int .i64 (putL most L to bs).2)) := by
  obtain ⟨i0, hi0, hz0, hz1, hz2⟩ := info_parts parcel_info
  obtain ⟨hsmall, A, c, ps, hb, hrb, hrow, hL⟩ := id h
  have hlt := hb.lt
  obtain ⟨⟨d0, d1⟩, f0, f1⟩ := Blk.two hb
  have hlen : (ps.length : Int) = L.length := by rw [← hL]; simp
  obtain rfl : bs.length = n0 := by have := ha.1; simp [bv] at this; omega
  have Hc0 := Lib.hid hc0
  clear hc0
  by_cases h1 : most ≤ (ps.length : Int)
  · have Hp := Lib.hid (putL_full (to := to) (bs := bs) (show most ≤ (L.length : Int) by omega))
    clear hL hrb hlen
    go_enter Try.func11, Try.ntmps11
    go_wp2_with fail
    go_quiet (fail)
    go_wp2_with fail
    go_ret
    rw [Hp.out]
    exact ⟨rb, rfl, h.below (below_drewN (Below.refl _ _) _), .inl rfl, (Fr.refl _ _).drewN _⟩
  · have h1' : (ps.length : Int) < most := by omega
    by_cases h2 : (60100 : Int) < (bs.length : Int)
    · have Hp := Lib.hid (putL_long (to := to) (bs := bs) (show ¬ most ≤ (L.length : Int) by omega) (by omega))
      clear hL hrb hlen h1
      go_enter Try.func11, Try.ntmps11
      go_wp2_with fail
      go_quiet (fail)
      go_wp2_with fail
      go_ret
      rw [Hp.out]
      exact ⟨rb, rfl, h.below (below_drewN (Below.refl _ _) _), .inl rfl, (Fr.refl _ _).drewN _⟩
    · have hn2 : bs.length ≤ 60100 := by omega
      have Hp := Lib.hid (putL_ok (to := to) (bs := bs) (show ¬ most ≤ (L.length : Int) by omega) (by omega))
      have HS := Lib.hid (small_put hsmall (to := to) (bs := bs) (by omega) (by omega))
      have h200 : ps.length < 200 := by obtain ⟨_, q2, q3, _⟩ := hsmall; omega
      have HL := Lib.hid hL
      have Hrb := Lib.hid hrb
      have Hrow := Lib.hid hrow
      have Hb := Lib.hid hb
      clear hL hrb hlen h1 h2 hrow hb
      go_enter Try.func11, Try.ntmps11
      go_wp2_with fail
      go_quiet (fail)
      go_wp2_with fail
      have hgr : (Value.slice A ps.length c).ownBlock ≠ some g := by
        intro e
        exact (h.row (k := g) (Hrb.out.symm.trans e)).2.2.1 rfl
      go_region_law (first
        | (go_simp; go_at_call 24; refine (copied_any to A0 c0 bs _ ?_ Hc0.out (by omega)).mono ?_; exact (ha.drewN (nq + 1)).more (Nat.le_refl _); rintro e w1 ⟨v, rfl, ⟨A1, c1, rfl, ho1⟩, hb1⟩; have hlt1 := ((Hb.out.drewN (nq + 1)).below hb1 hlt).lt; obtain ⟨⟨q0, q1⟩, g0, g1⟩ := Blk.two ((Hb.out.drewN (nq + 1)).below hb1 hlt))
        | (go_must (refine step_append_any _ rfl (.tmp 26) (.tmp 31) 44 rfl base 37 i0 _ 2 32 Try.underlying44 hi0 hz0 hz1 hz2 rfl (by omega) (.slice A ps.length c) ps.length (pcells ps) (by simp [Act.eval]) ((own_below (w := w.drewN (nq + 1)) Hrow.out.1 hb1).alloc _) (w1.heap.size + 1) (some ⟨w1.heap.size, 0, none⟩) 1 1 [.int .i64 to, .slice A1 bs.length c1] (by simp [Act.eval]) (reads_two _ _ _ _) (by simp [Value.oneCell']) (by simp only [maxLen]; omega) (by omega) (by have := hb1.size; simp at this ⊢; omega) ?_); intro v2 w2 hown2 hg2 hat2; obtain ⟨A2, c2, rfl⟩ := own_shape hown2; obtain ⟨⟨r0, r1⟩, g0', g1'⟩ := Blk.two (((Hb.out.drewN (nq + 1)).below hb1 hlt).alloc _ |>.grown hg2 (Ne.symm hgr))))
      all_goals go_wp2_with fail
      all_goals
        go_ret
        rw [Hp.out]
        have b01 : Below w.heap.size w w1 := (below_drewN (Below.refl _ _) (nq + 1)).trans hb1
        have f1 : Fr (PS g rb) w (w1.alloc (.cells #[.int .i64 to, .slice A1 bs.length c1] 37)) := (Fr.of_below b01).alloc _
        have g2 : Fr (PS g rb) (w1.alloc (.cells #[.int .i64 to, .slice A1 bs.length c1] 37)) w2 := Fr.of_grown hg2 (fun j hj => .inr (by rw [← Hrb.out]; exact hj))
        have g3 : Fr (PS g rb) (w1.alloc (.cells #[.int .i64 to, .slice A1 bs.length c1] 37)) (w2.setCell ⟨g, 0, none⟩ (.slice A2 (ps.length + 1) c2)) := g2.set g 0 _ (fun _ => .inl rfl)
        have f3 := f1.trans g3
        have k2 := (((Hb.out.drewN (nq + 1)).below hb1 hlt).alloc (.cells #[.int .i64 to, .slice A1 bs.length c1] 37)).grown hg2 (Ne.symm hgr)
        have k3 := k2.set_ 0 (.slice A2 (ps.length + 1) c2)
        have h1x : PX (w1.alloc (.cells #[.int .i64 to, .slice A1 bs.length c1] 37)) base g rb most L := h.below (b01.alloc b01.size _)
        have ok1 : PD.ok ⟨to, A1, c1, bs⟩ (w1.alloc (.cells #[.int .i64 to, .slice A1 bs.length c1] 37)) base := own_mono (ho1.alloc _) (by simp; omega)
        refine ⟨(Value.slice A2 (ps.length + 1) c2).ownBlock, rfl, ⟨HS.out, A2, c2, ps ++ [⟨to, A1, c1, bs⟩], by simpa using k3, by simp, ⟨?_, ?_⟩, by rw [List.map_append, HL.out]; rfl⟩, ?_, f3⟩
        · rw [pcells_append, List.length_append]
          refine own_fr (S := fun k => k = g) hown2 (Fr.of_grown (set_only _ g 0 _) (fun j hj => by injection hj with hj; exact hj.symm)) (fun j hj e => ?_)
          subst e
          exact own_blk_ne hown2 k2 (by decide) hj
        · intro p hp
          rcases List.mem_append.1 hp with hp | hp
          · exact (Hrow.out.2 p hp).fr f3 h.nobytes
          · simp at hp
            subst hp
            exact ok1.fr g3 h1x.nobytes
        · rcases hat2 with e | e
          · exact .inl (e.trans Hrb.out)
          · exact .inr ⟨_, e, by have := b01.size; simp; omega⟩
end Go.Proofs.Ytoiopoebjchjeaa
