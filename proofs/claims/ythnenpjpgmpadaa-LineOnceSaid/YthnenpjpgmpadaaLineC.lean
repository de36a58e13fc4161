/-
  The reference's line by contract; SameNote.
-/
import Derived.Test.YthnenpjpgmpadaaLineB
import Derived.Deep.RegionHeld3
import Derived.Deep.RegionWith
namespace Go.Proofs.Ythnenpjpgmpadaa
open Go.RowKit

set_option maxHeartbeats 1000000 in
theorem ynote_any (base g : Nat) (s : LineD) (w : World) (h : YL w base g s) :
    Calls Try.prog 25 #[.pointer (some ⟨g, 0, none⟩)] w fun e w' => ∃ v, e = .returned v ∧ NoteV w s.note v w' ∧ Below w.heap.size w w' := by
  obtain ⟨⟨h1, h2, h3⟩, A, c, hb, hown⟩ := h
  have hlt := hb.lt
  have c0 := hb.cell 0
  have c1 := hb.cell 1
  have c2 := hb.cell 2
  have c4 := hb.cell 4
  simp at c0 c1 c2 c4
  have hr := Reads.of_own hown
  clear hb hown h1 h2
  go_enter Try.func25, Try.ntmps25
  go_wp2_with fail
  go_region_held3 (fun w' => w'.cell? ⟨g, 0, none⟩ = some (.int .i64 s.party) ∧ w'.cell? ⟨g, 1, none⟩ = some (.int .i64 s.which) ∧ w'.cell? ⟨g, 2, none⟩ = some (.int .i64 s.seq) ∧ w'.cell? ⟨g, 4, none⟩ = some (.slice A s.body.length c)) (first | go_keep | exact ⟨(set5_cell (by simp; omega) (by simp; omega)).trans d0, (set5_cell (by simp; omega) (by simp; omega)).trans d1, (set5_cell (by simp; omega) (by simp; omega)).trans d2, (set5_cell (by simp; omega) (by simp; omega)).trans d4⟩)
    (first | (go_at_call 24; refine (copy_any A s.body.length c s.body _ ?_ h3).mono ?_; exact (((hr.alloc (Nat.le_refl _) _).drew).more (by simp)); rintro e w1 ⟨A', c', rfl, hown1, hb1⟩; have d0 := (hb1.cell (p := ⟨g, 0, none⟩) (by simp; omega)).trans ((World.cell?_alloc_lt w _ _ hlt).trans c0); have d1 := (hb1.cell (p := ⟨g, 1, none⟩) (by simp; omega)).trans ((World.cell?_alloc_lt w _ _ hlt).trans c1); have d2 := (hb1.cell (p := ⟨g, 2, none⟩) (by simp; omega)).trans ((World.cell?_alloc_lt w _ _ hlt).trans c2); have d4 := (hb1.cell (p := ⟨g, 4, none⟩) (by simp; omega)).trans ((World.cell?_alloc_lt w _ _ hlt).trans c4); have hz1 : w.heap.size < w1.heap.size := (by have := hb1.size; simp at this; omega); obtain ⟨⟨q0, q1, q2, q3, q4⟩, g0, g1, g2, g3, g4⟩ := Blk.five (((Blk.new w 28 #[.int .i64 0, .int .i64 0, .int .i64 0, .int .i64 0, .slice none 0 0]).drew).below hb1 (by simp))))
  go_wp2_with fail
  have r5 := set5_blk (((Blk.new w 28 #[.int .i64 0, .int .i64 0, .int .i64 0, .int .i64 0, .slice none 0 0]).drew).below hb1 (by simp)) (.int .i64 s.party) (.int .i64 s.which) (.int .i64 0) (.int .i64 s.seq) (.slice A' s.body.length c')
  have o5 := set5_only w1 w.heap.size (.int .i64 s.party) (.int .i64 s.which) (.int .i64 0) (.int .i64 s.seq) (.slice A' s.body.length c')
  refine bodyPost_ret (results_cell_row Try.results25 _ _ w.heap.size _ _ (0, 0) _ rfl r5 Try.underlying28 rfl (by kernel_rfl)) rfl ?_
  refine ⟨_, rfl, ⟨A', c', rfl, own_mono (own_only hown1 o5 (by simp)) (by simp)⟩, ?_⟩
  exact below_only (((Below.refl _ _).alloc (Nat.le_refl _) _).drew.trans (hb1.mono (by simp))) o5 (by omega) (Nat.le_refl _)

def SendY (w : World) (base g : Nat) (r : NoteD × Int × LineD) (e : Ending) (w' : World) : Prop := ∃ v, e = .returned (.tuple #[v, .int .i64 r.2.1]) ∧ NoteV w r.1 v w' ∧ YL w' base g r.2.2 ∧ w.grownBy w' (some g)

set_option maxHeartbeats 2000000 in
theorem ysend_any (base g : Nat) (s : LineD) (w : World) (h : YL w base g s) (hbase : base ≤ w.heap.size) (A : Option Addr) (n c : Nat) (bs : List UInt8) (ha : Reads w w.heap.size 1 A n (bv bs)) (hn : n ≤ 140737488351232) :
    Calls Try.prog 15 #[.pointer (some ⟨g, 0, none⟩), .slice A n c] w (SendY w base g (s.send bs)) := by
  obtain ⟨⟨h1, h2, h3⟩, A0, k0, hb, hown⟩ := id h
  have hlt := hb.lt
  have c2 := hb.cell 2
  have c3 := hb.cell 3
  have f2 := hb.frozen 2
  have f3 := hb.frozen 3
  have f4 := hb.frozen 4
  simp at c2 c3
  obtain rfl : bs.length = n := by have := ha.1; simp [bv] at this; omega
  cases hbusy : s.busy with
  | true =>
    rw [hbusy] at c3
    have hs := Lib.hid (send_busy bs hbusy)
    clear hbusy
    go_enter Try.func15, Try.ntmps15
    go_wp2_with fail
    refine bodyPost_ret (results_row_tmp Try.results15 _ _ w.heap.size _ _ _ rfl (Blk.new _ _ _) Try.underlying28 rfl (by kernel_rfl)) rfl ?_
    rw [hs.out]
    exact ⟨_, rfl, noNoteV _ _, h.below ((Below.refl _ _).alloc (Nat.le_refl _) _), World.grownBy_alloc _ _ _⟩
  | false =>
    rw [hbusy] at c3
    by_cases hfull : s.seq = 4294967295
    · have hs := Lib.hid (send_full bs hbusy hfull)
      rw [hfull] at c2
      clear hbusy hfull
      go_enter Try.func15, Try.ntmps15
      go_wp2_with fail
      refine bodyPost_ret (results_row_tmp Try.results15 _ _ w.heap.size _ _ _ rfl (Blk.new _ _ _) Try.underlying28 rfl (by kernel_rfl)) rfl ?_
      rw [hs.out]
      exact ⟨_, rfl, noNoteV _ _, h.below ((Below.refl _ _).alloc (Nat.le_refl _) _), World.grownBy_alloc _ _ _⟩
    · have hs := Lib.hid (send_ok bs hbusy hfull)
      have hlt2 : s.seq < 4294967295 := by omega
      clear hfull hbusy
      have Hb := Lib.hid hb
      have HO := Lib.hid hown
      clear hb hown
      go_enter Try.func15, Try.ntmps15
      go_wp2_with fail
      go_region_with (go_at_call 24; refine (copy_any A bs.length c bs _ ?_ hn).mono ?_; exact (((ha.alloc (Nat.le_refl _) _).drew).more (by simp)); rintro e w1 ⟨A', c', rfl, hown1, hb1⟩; obtain ⟨⟨q0, q1, q2, q3, q4⟩, g0, g1, g2, g3, g4⟩ := Blk.five (((Hb.out.alloc _).drew).below hb1 (by simp; omega)); have hz1 : w.heap.size < w1.heap.size := (by have := hb1.size; simp at this; omega))
      all_goals go_wp2_with fail
      all_goals
        have B1 := (((Hb.out.alloc (.cells #[.int .i64 0, .int .i64 0, .int .i64 0, .int .i64 0, .slice none 0 0] 28)).drew).below hb1 (by simp; omega))
        have b2 := ((B1.set_ 2 (.int .i64 (s.seq + 1))).set_ 3 (.bool true)).set_ 4 (.slice A' bs.length c')
        have ho2 := ownsRow_setCell_below (ownsRow_setCell_below (ownsRow_setCell_below hown1 (a := ⟨g, 2, none⟩) (by simp; omega) (.int .i64 (s.seq + 1))) (a := ⟨g, 3, none⟩) (by simp; omega) (.bool true)) (a := ⟨g, 4, none⟩) (by simp; omega) (.slice A' bs.length c')
        have y2 : YL (((w1.setCell ⟨g, 2, none⟩ (.int .i64 (s.seq + 1))).setCell ⟨g, 3, none⟩ (.bool true)).setCell ⟨g, 4, none⟩ (.slice A' bs.length c')) base g (s.next bs) :=
          ⟨⟨by simp [LineD.next]; omega, by simp [LineD.next]; omega, hn⟩, A', c', by simpa [LineD.next] using b2, own_mono ho2 (by simp; omega)⟩
        refine (ynote_any base g (s.next bs) _ y2).mono ?_
        rintro e w4 ⟨v, rfl, hv, hb4⟩
        obtain ⟨A2, c2, rfl, ho4⟩ := id hv
        have r4 := ((((((Blk.new w 28 #[.int .i64 0, .int .i64 0, .int .i64 0, .int .i64 0, .slice none 0 0]).drew).below hb1 (by simp)).far (p := ⟨g, 2, none⟩) (by simp; omega) (.int .i64 (s.seq + 1))).far (p := ⟨g, 3, none⟩) (by simp; omega) (.bool true)).far (p := ⟨g, 4, none⟩) (by simp; omega) (.slice A' bs.length c')).below hb4 (by simp; omega)
        obtain ⟨⟨p0, p1, p2, p3, p4⟩, k0, k1, k2, k3, k4⟩ := Blk.five r4
        have R4 := Lib.hid r4
        have Hv := Lib.hid hv
        have O4 := Lib.hid ho4
        have Y2 := Lib.hid y2
        have HB1 := Lib.hid hb1
        have HB4 := Lib.hid hb4
        clear r4 hv ho4 y2 hb1 hb4 b2 B1 ho2 hown1
        go_wp2_with fail
        have r5 := set5_blk R4.out (.int .i64 (s.next bs).note.party) (.int .i64 (s.next bs).note.which) (.int .i64 (s.next bs).note.way) (.int .i64 (s.next bs).note.seq) (.slice A2 (s.next bs).note.body.length c2)
        have o5 := set5_only w4 w.heap.size (.int .i64 (s.next bs).note.party) (.int .i64 (s.next bs).note.which) (.int .i64 (s.next bs).note.way) (.int .i64 (s.next bs).note.seq) (.slice A2 (s.next bs).note.body.length c2)
        refine bodyPost_ret (results_row_tmp Try.results15 _ _ w.heap.size _ _ _ rfl r5 Try.underlying28 rfl (by kernel_rfl)) rfl ?_
        rw [hs.out]
        refine ⟨_, rfl, ⟨A2, c2, rfl, ?_⟩, (Y2.out.below HB4.out).only R4.out (by decide) (by decide) o5, ?_⟩
        · exact own_mono (own_only O4.out o5 (by simp; omega)) (by simp; omega)
        · refine only_new ?_ o5 (Nat.le_refl _)
          refine only_below ?_ HB4.out
          refine only_set (only_set (only_set ?_ 2 _) 3 _) 4 _
          exact only_below (only_drew (World.grownBy_alloc _ _ _)) HB1.out
end Go.Proofs.Ythnenpjpgmpadaa
