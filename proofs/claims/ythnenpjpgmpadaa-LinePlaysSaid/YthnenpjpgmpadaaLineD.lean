/-
  The reference's line by contract, the second part: Again, Got; SameNote.
-/
import Derived.Test.YthnenpjpgmpadaaLineC
namespace Go.Proofs.Ythnenpjpgmpadaa
open Go.RowKit

set_option maxHeartbeats 1000000 in
theorem yagain_any (base g : Nat) (s : LineD) (w : World) (h : YL w base g s) :
    Calls Try.prog 18 #[.pointer (some ⟨g, 0, none⟩)] w (AgainR w s.again) := by
  obtain ⟨_, A0, k0, hb, _⟩ := id h
  have hlt := hb.lt
  have c5 := hb.cell 3
  simp at c5
  clear hb
  cases hbusy : s.busy with
  | false =>
    rw [hbusy] at c5
    have hs := Lib.hid (again_no hbusy)
    clear hbusy
    go_enter Try.func18, Try.ntmps18
    go_wp2_with fail
    refine bodyPost_ret (results_row_tmp Try.results18 _ _ w.heap.size _ _ _ rfl (Blk.new _ _ _) Try.underlying28 rfl (by kernel_rfl)) rfl ?_
    rw [hs.out]
    exact ⟨_, rfl, noNoteV _ _, (Below.refl _ _).alloc (Nat.le_refl _) _⟩
  | true =>
    rw [hbusy] at c5
    have hs := Lib.hid (again_yes hbusy)
    clear hbusy
    go_enter Try.func18, Try.ntmps18
    go_wp2_with fail
    refine (ynote_any base g s _ (h.below ((Below.refl _ _).alloc (Nat.le_refl _) _))).mono ?_
    rintro e w4 ⟨v, rfl, hv, hb4⟩
    obtain ⟨A2, c2, rfl, ho4⟩ := id hv
    have r4 : Blk w4 w.heap.size 28 #[.int .i64 0, .int .i64 0, .int .i64 0, .int .i64 0, .slice none 0 0] := (Blk.new w _ _).below hb4 (by simp)
    have q0 := r4.cell 0
    have q1 := r4.cell 1
    have q2 := r4.cell 2
    have q3 := r4.cell 3
    have q4 := r4.cell 4
    have g0 := r4.frozen 0
    have g1 := r4.frozen 1
    have g2 := r4.frozen 2
    have g3 := r4.frozen 3
    have g4 := r4.frozen 4
    simp at q0 q1 q2 q3 q4
    have R4 := Lib.hid r4
    have Hv := Lib.hid hv
    have O4 := Lib.hid ho4
    clear r4 hv ho4
    go_wp2_with fail
    have r5 := set5_blk R4.out (.int .i64 s.note.party) (.int .i64 s.note.which) (.int .i64 s.note.way) (.int .i64 s.note.seq) (.slice A2 s.note.body.length c2)
    have o5 := set5_only w4 w.heap.size (.int .i64 s.note.party) (.int .i64 s.note.which) (.int .i64 s.note.way) (.int .i64 s.note.seq) (.slice A2 s.note.body.length c2)
    refine bodyPost_ret (results_row_tmp Try.results18 _ _ w.heap.size _ _ _ rfl r5 Try.underlying28 rfl (by kernel_rfl)) rfl ?_
    rw [hs.out]
    refine ⟨_, rfl, ⟨A2, c2, rfl, own_mono (own_only O4.out o5 (by simp)) (by simp)⟩, ?_⟩
    exact below_only (((Below.refl _ _).alloc (Nat.le_refl _) _).trans (hb4.mono (by simp))) o5 (by have := hb4.size; simp at this; omega) (Nat.le_refl _)

/-- What Got gives: the text, the error, the line. -/
def GotY (w : World) (base g : Nat) (r : List UInt8 × Int × LineD) (e : Ending) (w' : World) : Prop := ∃ A c, e = .returned (.tuple #[.slice A r.1.length c, .int .i64 r.2.1]) ∧
  w'.ownsRow w.heap.size 5 1 (.slice A r.1.length c) r.1.length (bv r.1) ∧ YL w' base g r.2.2 ∧ w.grownBy w' (some g)

theorem gotY_no {w : World} {base g : Nat} {s : LineD} (h : YL w base g s) (k : Int) (o : Obj) (n : Nat) : GotY w base g ([], k, s) (.returned (.tuple #[.slice none 0 0, .int .i64 k])) ((w.alloc o).drewN n) :=
  ⟨none, 0, rfl, World.ownsRow_nil _ _ _ _, h.below (below_drewN ((Below.refl _ _).alloc (Nat.le_refl _) _) n), only_drewN (World.grownBy_alloc _ _ _) n⟩
theorem gotY_no2 {w : World} {base g : Nat} {s : LineD} (h : YL w base g s) (k : Int) (o : Obj) (n m : Nat) : GotY w base g ([], k, s) (.returned (.tuple #[.slice none 0 0, .int .i64 k])) (((w.alloc o).drewN n).drewN m) :=
  ⟨none, 0, rfl, World.ownsRow_nil _ _ _ _, h.below (below_drewN (below_drewN ((Below.refl _ _).alloc (Nat.le_refl _) _) n) m), only_drewN (only_drewN (World.grownBy_alloc _ _ _) n) m⟩

set_option maxHeartbeats 1000000 in
theorem ygot_any (base g : Nat) (s : LineD) (w : World) (h : YL w base g s) (_hbase : base ≤ w.heap.size) (d : NoteD) (A : Option Addr) (c : Nat) (ha : Reads w w.heap.size 1 A d.body.length (bv d.body)) (hn : d.body.length ≤ 140737488351232) :
    Calls Try.prog 19 #[.pointer (some ⟨g, 0, none⟩), .agg #[.int .i64 d.party, .int .i64 d.which, .int .i64 d.way, .int .i64 d.seq, .slice A d.body.length c]] w (GotY w base g (s.got d)) := by
  obtain ⟨hfine, A0, k0, hb, hown⟩ := id h
  have hlt := hb.lt
  have c0 := hb.cell 0
  have c1 := hb.cell 1
  have c3 := hb.cell 2
  have c5 := hb.cell 3
  have f5 := hb.frozen 3
  simp at c0 c1 c3 c5
  have Hb := Lib.hid hb
  have HO := Lib.hid hown
  clear hb hown
  by_cases h1 : d.party = s.party
  · by_cases h2 : d.which = s.which
    · by_cases h3 : d.way = 1
      · cases h4 : s.busy with
        | false =>
          rw [h4] at c5
          have hs := Lib.hid (got_stale (s := s) (n := d) (by simp [h1, h2, h3]) (.inl h4))
          have h1t : (d.party == s.party) = true := by simp [h1]
          have h1u : (d.party != s.party) = false := by simp [h1]
          have h2t : (d.which == s.which) = true := by simp [h2]
          have h2u : (d.which != s.which) = false := by simp [h2]
          have h3t : (d.way == 1) = true := by simp [h3]
          have h3u : (d.way != 1) = false := by simp [h3]
          clear h1 h2 h3 h4
          go_enter Try.func19, Try.ntmps19
          go_wp2_with fail
          go_quiet (fail)
          go_wp2_with fail
          go_quiet (fail)
          go_wp2_with fail
          go_ret2
          rw [hs.out]
          exact gotY_no2 h 5 _ _ _
        | true =>
          rw [h4] at c5
          by_cases h5 : d.seq = s.seq
          · have hs := Lib.hid (got_ok (s := s) (n := d) (by simp [h1, h2, h3]) (by simp [h4, h5]))
            have h1t : (d.party == s.party) = true := by simp [h1]
            have h1u : (d.party != s.party) = false := by simp [h1]
            have h2t : (d.which == s.which) = true := by simp [h2]
            have h2u : (d.which != s.which) = false := by simp [h2]
            have h3t : (d.way == 1) = true := by simp [h3]
            have h3u : (d.way != 1) = false := by simp [h3]
            have h5t : (d.seq == s.seq) = true := by simp [h5]
            have h5u : (d.seq != s.seq) = false := by simp [h5]
            clear h1 h2 h3 h4 h5
            go_enter Try.func19, Try.ntmps19
            go_wp2_with fail
            go_quiet (fail)
            go_wp2_with fail
            go_quiet (fail)
            go_wp2_with fail
            refine (copy_any A d.body.length c d.body _ ?_ hn).mono ?_
            · exact ((((ha.alloc (Nat.le_refl _) _).drewN _).set_far (p := ⟨g, 3, none⟩) (ha.apart Hb.out bare_y) _)).more (by simp)
            rintro e w1 ⟨A', c', rfl, hown1, hb1⟩
            go_wp2_with fail
            go_ret2
            rw [hs.out]
            have o1 : w.grownBy w1 (some g) := only_below (only_set (only_drewN (World.grownBy_alloc _ _ _) _) 3 _) hb1
            refine ⟨A', c', rfl, own_mono hown1 (by simp), ⟨hfine, A0, k0, ?_, HO.out.kept o1 (own_ne HO.out Hb.out (by decide))⟩, o1⟩
            simpa [LineD.free] using (((Hb.out.alloc _).drewN _).set_ 3 (.bool false)).below hb1 (by simp; omega)
          · have hs := Lib.hid (got_stale (s := s) (n := d) (by simp [h1, h2, h3]) (.inr h5))
            have h1t : (d.party == s.party) = true := by simp [h1]
            have h1u : (d.party != s.party) = false := by simp [h1]
            have h2t : (d.which == s.which) = true := by simp [h2]
            have h2u : (d.which != s.which) = false := by simp [h2]
            have h3t : (d.way == 1) = true := by simp [h3]
            have h3u : (d.way != 1) = false := by simp [h3]
            have h5t : (d.seq == s.seq) = false := by simpa using h5
            have h5u : (d.seq != s.seq) = true := by simpa using h5
            clear h1 h2 h3 h4 h5
            go_enter Try.func19, Try.ntmps19
            go_wp2_with fail
            go_quiet (fail)
            go_wp2_with fail
            go_quiet (fail)
            go_wp2_with fail
            go_ret2
            rw [hs.out]
            exact gotY_no2 h 5 _ _ _
      · have hs := Lib.hid (got_party (s := s) (n := d) (.inr (.inr h3)))
        have h1t : (d.party == s.party) = true := by simp [h1]
        have h1u : (d.party != s.party) = false := by simp [h1]
        have h2t : (d.which == s.which) = true := by simp [h2]
        have h2u : (d.which != s.which) = false := by simp [h2]
        have h3t : (d.way == 1) = false := by simpa using h3
        have h3u : (d.way != 1) = true := by simpa using h3
        clear h1 h2 h3
        go_enter Try.func19, Try.ntmps19
        go_wp2_with fail
        go_quiet (fail)
        go_wp2_with fail
        go_ret2
        rw [hs.out]
        exact gotY_no h _ _ _
    · have hs := Lib.hid (got_party (s := s) (n := d) (.inr (.inl h2)))
      have h1t : (d.party == s.party) = true := by simp [h1]
      have h1u : (d.party != s.party) = false := by simp [h1]
      have h2t : (d.which == s.which) = false := by simpa using h2
      have h2u : (d.which != s.which) = true := by simpa using h2
      clear h1 h2
      go_enter Try.func19, Try.ntmps19
      go_wp2_with fail
      go_quiet (fail)
      go_wp2_with fail
      go_ret2
      rw [hs.out]
      exact gotY_no h _ _ _
  · have hs := Lib.hid (got_party (s := s) (n := d) (.inl h1))
    have h1t : (d.party == s.party) = false := by simpa using h1
    have h1u : (d.party != s.party) = true := by simpa using h1
    clear h1
    go_enter Try.func19, Try.ntmps19
    go_wp2_with fail
    go_quiet (fail)
    go_wp2_with fail
    go_ret2
    rw [hs.out]
    exact gotY_no h _ _ _

set_option maxHeartbeats 1000000 in
/-- Two notes that read alike. -/
theorem same_any (d : NoteD) (A B : Option Addr) (c c' : Nat) (w : World) (ha : Reads w w.heap.size 1 A d.body.length (bv d.body)) (hb : Reads w w.heap.size 1 B d.body.length (bv d.body)) :
    Calls Try.prog 16 #[.agg #[.int .i64 d.party, .int .i64 d.which, .int .i64 d.way, .int .i64 d.seq, .slice A d.body.length c], .agg #[.int .i64 d.party, .int .i64 d.which, .int .i64 d.way, .int .i64 d.seq, .slice B d.body.length c']] w
      fun e w' => e = .returned (.bool true) ∧ Below w.heap.size w w' := by
  go_enter Try.func16, Try.ntmps16
  go_wp2_with fail
  refine (beqs_any A B d.body.length c d.body.length c' d.body d.body _ ?_ ?_).mono ?_
  · exact ((ha.alloc (Nat.le_refl _) _).alloc (by simp) _).more (by simp; omega)
  · exact ((hb.alloc (Nat.le_refl _) _).alloc (by simp) _).more (by simp; omega)
  rintro e w' ⟨rfl, rfl⟩
  go_wp2_with fail
  go_ret
  exact ⟨by simp, ((Below.refl _ _).alloc (Nat.le_refl _) _).alloc (by simp) _⟩
end Go.Proofs.Ythnenpjpgmpadaa
