/-
  package line by contract: a line is party, ledger, number, busy, and the last text.
-/
import Derived.Test.YthnenpjpgmpadaaBytes
import Derived.Deep.QuietTactic
import Derived.BigQuiet
import Derived.Outline
namespace Go.Proofs.Ythnenpjpgmpadaa
open Go.RowKit

structure NoteD where
  party : Int
  which : Int
  way : Int
  seq : Int
  body : List UInt8
structure LineD where
  party : Int
  which : Int
  seq : Int
  busy : Bool
  body : List UInt8

def noNote : NoteD := ⟨0, 0, 0, 0, []⟩
def LineD.note (s : LineD) : NoteD := ⟨s.party, s.which, 0, s.seq, s.body⟩
def LineD.next (s : LineD) (bs : List UInt8) : LineD := ⟨s.party, s.which, s.seq + 1, true, bs⟩
/-- The note, the error, the line behind it. -/
def LineD.send (s : LineD) (bs : List UInt8) : NoteD × Int × LineD :=
  if s.busy = true then (noNote, 6, s) else if s.seq = 4294967295 then (noNote, 1, s) else ((s.next bs).note, 0, s.next bs)
def LineD.again (s : LineD) : NoteD × Bool := if s.busy = true then (s.note, true) else (noNote, false)
def LineD.free (s : LineD) : LineD := ⟨s.party, s.which, s.seq, false, s.body⟩
def LineD.got (s : LineD) (n : NoteD) : List UInt8 × Int × LineD :=
  if n.party ≠ s.party ∨ n.which ≠ s.which ∨ n.way ≠ 1 then ([], 14, s) else if s.busy = false ∨ n.seq ≠ s.seq then ([], 5, s) else (n.body, 0, s.free)

/-- The bounds that hold of every line. -/
def LineD.fine (s : LineD) : Prop := 0 ≤ s.seq ∧ s.seq ≤ 4294967295 ∧ s.body.length ≤ 140737488351232

/-- Block g is a line of package line. -/
def XL (w : World) (base g : Nat) (s : LineD) : Prop := s.fine ∧ ∃ A c, (A = none → s.body.length = 0 ∧ c = 0) ∧
  Blk w g 53 #[.int .i64 s.party, .int .i64 s.which, .int .i64 0, .int .i64 s.seq, .slice A s.body.length c, .bool s.busy] ∧
  w.ownsRow base 5 1 (.slice A s.body.length c) s.body.length (bv s.body)
/-- Block g is a line of the reference. -/
def YL (w : World) (base g : Nat) (s : LineD) : Prop := s.fine ∧ ∃ A c,
  Blk w g 45 #[.int .i64 s.party, .int .i64 s.which, .int .i64 s.seq, .bool s.busy, .slice A s.body.length c] ∧
  w.ownsRow base 5 1 (.slice A s.body.length c) s.body.length (bv s.body)

/-- A note, as a value, whose body is new since w. -/
def NoteV (w : World) (d : NoteD) (v : Value) (w' : World) : Prop := ∃ A c, v = .agg #[.int .i64 d.party, .int .i64 d.which, .int .i64 d.way, .int .i64 d.seq, .slice A d.body.length c] ∧
  w'.ownsRow w.heap.size 5 1 (.slice A d.body.length c) d.body.length (bv d.body)

def SendX (w : World) (base g : Nat) (r : NoteD × Int × LineD) (e : Ending) (w' : World) : Prop := ∃ v, e = .returned (.tuple #[v, .int .i64 r.2.1]) ∧ NoteV w r.1 v w' ∧ XL w' base g r.2.2 ∧ w.grownBy w' (some g)

theorem bare_cells {s : LineD} {v : Value} (hv : ∀ b, v ≠ .int .u8 b) : ∀ (i : Nat) (b : Int), (#[Value.int .i64 s.party, .int .i64 s.which, .int .i64 0, .int .i64 s.seq, v, .bool s.busy])[i]? ≠ some (.int .u8 b) := by
  intro i b
  match i with
  | 0 | 1 | 2 | 3 | 4 | 5 => simp [hv]
  | i + 6 => simp

set_option maxHeartbeats 400000 in
theorem xnote_any (base g : Nat) (s : LineD) (w : World) (h : XL w base g s) :
    Calls Try.prog 23 #[.pointer (some ⟨g, 0, none⟩)] w fun e w' => ∃ v, e = .returned v ∧ NoteV w s.note v w' ∧ Below w.heap.size w w' := by
  obtain ⟨⟨h1, h2, h3⟩, A, c, hA, hb, hown⟩ := h
  have hlt := hb.lt
  have c0 := hb.cell 0
  have c1 := hb.cell 1
  have c2 := hb.cell 2
  have c3 := hb.cell 3
  have c4 := hb.cell 4
  simp at c0 c1 c2 c3 c4
  have hA := Lib.hid hA
  go_enter Try.func23, Try.ntmps23
  go_wp2_with fail
  have hr := (Reads.of_own hown)
  refine (clone_any A s.body.length c s.body _ ?_ hA.out h3).mono ?_
  · exact ((hr.alloc (Nat.le_refl _) _).alloc (by simp) _).more (by simp; omega)
  rintro e w1 ⟨A', c', rfl, hown1, hb1⟩
  obtain ⟨hc, hf⟩ := bcell hb1
  have hz : w.heap.size + 1 < w1.heap.size := by have := hb1.size; simp at this; omega
  simp at hc hf
  go_wp2_with fail
  have k0 : w1.ownsRow (w.heap.size + 1 + 1) 5 1 (.slice A' s.body.length c') s.body.length (bv s.body) := by simpa using hown1
  have k1 : Below w.heap.size w w1 := (((Below.refl _ _).alloc (Nat.le_refl _) _).alloc (by simp) _).trans (hb1.mono (by simp; omega))
  have b1 : Blk w1 w.heap.size 28 _ := ((Blk.new w _ _).alloc _).below hb1 (by simp; omega)
  have b2 := (((((b1.far (p := ⟨w.heap.size + 1, 4, none⟩) (by simp) (.slice A' s.body.length c')).set_ 0 (.int .i64 s.party)).set_ 1 (.int .i64 s.which)).set_ 2 (.int .i64 0)).set_ 3 (.int .i64 s.seq)).set_ 4 (.slice A' s.body.length c')
  refine bodyPost_ret (results_cell_row Try.results23 _ _ w.heap.size _ _ (0, 0) _ rfl b2 Try.underlying28 rfl (by kernel_rfl)) rfl ?_
  refine ⟨_, rfl, ⟨A', c', rfl, ?_⟩, ?_⟩
  · refine own_mono (base := w.heap.size + 1 + 1) ?_ (by omega)
    exact ownsRow_setCell_below (ownsRow_setCell_below (ownsRow_setCell_below (ownsRow_setCell_below (ownsRow_setCell_below (ownsRow_setCell_below k0 (by simp) _) (by simp; omega) _) (by simp; omega) _) (by simp; omega) _) (by simp; omega) _) (by simp; omega) _
  · exact (((((k1.setCell (by simp) _).setCell (by simp) _).setCell (by simp) _).setCell (by simp) _).setCell (by simp) _).setCell (by simp) _
theorem bare_x {s : LineD} {A : Option Addr} {c : Nat} {bs : List UInt8} : ∀ u ∈ bv bs, ∀ i : Nat, (#[Value.int .i64 s.party, .int .i64 s.which, .int .i64 0, .int .i64 s.seq, .slice A s.body.length c, .bool s.busy])[i]? ≠ some u := by
  intro u hu i
  obtain ⟨b, _, rfl⟩ := List.mem_map.1 hu
  match i with
  | 0 | 1 | 2 | 3 | 4 | 5 => simp
  | i + 6 => simp
theorem bare_y {s : LineD} {A : Option Addr} {c : Nat} {bs : List UInt8} : ∀ u ∈ bv bs, ∀ i : Nat, (#[Value.int .i64 s.party, .int .i64 s.which, .int .i64 s.seq, .bool s.busy, .slice A s.body.length c])[i]? ≠ some u := by
  intro u hu i
  obtain ⟨b, _, rfl⟩ := List.mem_map.1 hu
  match i with
  | 0 | 1 | 2 | 3 | 4 => simp
  | i + 5 => simp

theorem XL.lt {w : World} {base g : Nat} {s : LineD} (h : XL w base g s) : g < w.heap.size := by
  obtain ⟨_, A, c, _, hb, _⟩ := h
  exact hb.lt
theorem YL.lt {w : World} {base g : Nat} {s : LineD} (h : YL w base g s) : g < w.heap.size := by
  obtain ⟨_, A, c, hb, _⟩ := h
  exact hb.lt
/-- A line stays, where what is old stays, but for blocks that are no line's and no bytes' .. -/
theorem XL.below {w w' : World} {base g : Nat} {s : LineD} (h : XL w base g s) (hb : Below w.heap.size w w') : XL w' base g s := by
  obtain ⟨hf, A, c, hA, hk, ho⟩ := h
  exact ⟨hf, A, c, hA, hk.below hb hk.lt, own_below ho hb⟩
theorem YL.below {w w' : World} {base g : Nat} {s : LineD} (h : YL w base g s) (hb : Below w.heap.size w w') : YL w' base g s := by
  obtain ⟨hf, A, c, hk, ho⟩ := h
  exact ⟨hf, A, c, hk.below hb hk.lt, own_below ho hb⟩
theorem own_ne {w : World} {base n : Nat} {v : Value} {xs : List Value} {g : Nat} {t : TypeId} {cs : Array Value} (h : w.ownsRow base 5 1 v n xs) (hg : Blk w g t cs) (hne : 5 ≠ t) : v.ownBlock = none ∨ v.ownBlock ≠ some g := .inr (own_blk_ne h hg hne)
theorem XL.blk {w : World} {base g : Nat} {s : LineD} (h : XL w base g s) : ∃ cs, Blk w g 53 cs := by
  obtain ⟨_, A, c, _, hk, _⟩ := h
  exact ⟨_, hk⟩
theorem YL.blk {w : World} {base g : Nat} {s : LineD} (h : YL w base g s) : ∃ cs, Blk w g 45 cs := by
  obtain ⟨_, A, c, hk, _⟩ := h
  exact ⟨_, hk⟩
/-- Bytes that are owned stay, where a line alone turns. -/
theorem own_line {w w' : World} {base base' g n : Nat} {s : LineD} {v : Value} {xs : List Value} (h : w.ownsRow base' 5 1 v n xs) (hx : XL w base g s) (hg : w.grownBy w' (some g)) : w'.ownsRow base' 5 1 v n xs := by
  obtain ⟨cs, hk⟩ := hx.blk
  exact h.kept hg (own_ne h hk (by decide))
theorem own_liney {w w' : World} {base base' g n : Nat} {s : LineD} {v : Value} {xs : List Value} (h : w.ownsRow base' 5 1 v n xs) (hx : YL w base g s) (hg : w.grownBy w' (some g)) : w'.ownsRow base' 5 1 v n xs := by
  obtain ⟨cs, hk⟩ := hx.blk
  exact h.kept hg (own_ne h hk (by decide))
theorem XL.only {w w' : World} {base g : Nat} {s : LineD} (h : XL w base g s) {g' : Nat} {t : TypeId} {cs : Array Value} (hg : Blk w g' t cs) (hne : 5 ≠ t) (hx : 53 ≠ t) (hb : w.grownBy w' (some g')) : XL w' base g s := by
  obtain ⟨hf, A, c, hA, hk, ho⟩ := h
  exact ⟨hf, A, c, hA, hk.grown hb (fun e => hk.ne_ hg hx (by injection e)), ho.kept hb (own_ne ho hg hne)⟩
theorem YL.only {w w' : World} {base g : Nat} {s : LineD} (h : YL w base g s) {g' : Nat} {t : TypeId} {cs : Array Value} (hg : Blk w g' t cs) (hne : 5 ≠ t) (hx : 45 ≠ t) (hb : w.grownBy w' (some g')) : YL w' base g s := by
  obtain ⟨hf, A, c, hk, ho⟩ := h
  exact ⟨hf, A, c, hk.grown hb (fun e => hk.ne_ hg hx (by injection e)), ho.kept hb (own_ne ho hg hne)⟩

theorem send_busy {s : LineD} (bs : List UInt8) (h : s.busy = true) : s.send bs = (noNote, 6, s) := by unfold LineD.send; rw [if_pos h]
theorem send_full {s : LineD} (bs : List UInt8) (h : s.busy = false) (h2 : s.seq = 4294967295) : s.send bs = (noNote, 1, s) := by unfold LineD.send; rw [if_neg (by simp [h]), if_pos h2]
theorem send_ok {s : LineD} (bs : List UInt8) (h : s.busy = false) (h2 : ¬ s.seq = 4294967295) : s.send bs = ((s.next bs).note, 0, s.next bs) := by unfold LineD.send; rw [if_neg (by simp [h]), if_neg h2]

theorem noNoteV (w w' : World) : NoteV w noNote (.agg #[.int .i64 0, .int .i64 0, .int .i64 0, .int .i64 0, .slice none 0 0]) w' := ⟨none, 0, rfl, World.ownsRow_nil _ _ _ _⟩

set_option maxHeartbeats 1000000 in
theorem xsend_any (base g : Nat) (s : LineD) (w : World) (h : XL w base g s) (hbase : base ≤ w.heap.size) (A : Option Addr) (n c : Nat) (bs : List UInt8) (ha : Reads w w.heap.size 1 A n (bv bs)) (hc0 : A = none → n = 0 ∧ c = 0) (hn : n ≤ 140737488351232) :
    Calls Try.prog 11 #[.pointer (some ⟨g, 0, none⟩), .slice A n c] w (SendX w base g (s.send bs)) := by
  obtain ⟨⟨h1, h2, h3⟩, A0, k0, hA, hb, hown⟩ := id h
  have hlt := hb.lt
  have c3 := hb.cell 3
  have c5 := hb.cell 5
  have f3 := hb.frozen 3
  have f4 := hb.frozen 4
  have f5 := hb.frozen 5
  simp at c3 c5
  obtain rfl : bs.length = n := by have := ha.1; simp [bv] at this; omega
  have HA := Lib.hid hA
  have Hc0 := Lib.hid hc0
  clear hA hc0
  have hb0 := (((hb.alloc (.cells #[.int .i64 0, .int .i64 0, .int .i64 0, .int .i64 0, .slice none 0 0] 28)).cell 0))
  cases hbusy : s.busy with
  | true =>
    rw [hbusy] at c5
    have hs := Lib.hid (send_busy bs hbusy)
    clear hbusy hb0
    go_enter Try.func11, Try.ntmps11
    go_wp2_with fail
    refine bodyPost_ret (results_row_tmp Try.results11 _ _ w.heap.size _ _ _ rfl (Blk.new _ _ _) Try.underlying28 rfl (by kernel_rfl)) rfl ?_
    rw [hs.out]
    exact ⟨_, rfl, noNoteV _ _, h.below ((Below.refl _ _).alloc (Nat.le_refl _) _), World.grownBy_alloc _ _ _⟩
  | false =>
    rw [hbusy] at c5
    by_cases hfull : s.seq = 4294967295
    · have hs := Lib.hid (send_full bs hbusy hfull)
      rw [hfull] at c3
      clear hbusy hb0 hfull
      go_enter Try.func11, Try.ntmps11
      go_wp2_with fail
      refine bodyPost_ret (results_row_tmp Try.results11 _ _ w.heap.size _ _ _ rfl (Blk.new _ _ _) Try.underlying28 rfl (by kernel_rfl)) rfl ?_
      rw [hs.out]
      exact ⟨_, rfl, noNoteV _ _, h.below ((Below.refl _ _).alloc (Nat.le_refl _) _), World.grownBy_alloc _ _ _⟩
    · have hs := Lib.hid (send_ok bs hbusy hfull)
      have hlt2 : s.seq < 4294967295 := by omega
      have hff : (s.seq == 4294967295) = false := by simpa using hfull
      have hap := ha.apart hb bare_x
      clear hfull hbusy
      go_enter Try.func11, Try.ntmps11
      go_wp2_with fail
      refine (clone_any A bs.length c bs _ ?_ Hc0.out hn).mono ?_
      · exact ((ha.set_far hap _).alloc (by simp) _).more (by simp)
      rintro e w1 ⟨A', c', rfl, hown1, hb1⟩
      have b1 : Blk w1 g 53 _ := (((hb.set_ 3 (.int .i64 (s.seq + 1))).alloc _).below hb1 (by simp; omega))
      simp at b1
      have d4 := b1.cell 4
      have d5 := b1.cell 5
      have e4 := b1.frozen 4
      have e5 := b1.frozen 5
      simp at d4 d5
      have hz : w.heap.size < w1.heap.size := by have := hb1.size; simp at this; omega
      have B1 := Lib.hid b1
      clear b1
      go_wp2_with fail
      have b2 := (B1.out.set_ 4 (.slice A' bs.length c')).set_ 5 (.bool true)
      have ho2 : ((w1.setCell ⟨g, 4, none⟩ (.slice A' bs.length c')).setCell ⟨g, 5, none⟩ (.bool true)).ownsRow w.heap.size 5 1 (.slice A' bs.length c') bs.length (bv bs) :=
        own_mono (ownsRow_setCell_below (ownsRow_setCell_below hown1 (by simp; omega) _) (by simp; omega) _) (by simp)
      refine (xnote_any base g (s.next bs) _ ⟨⟨by simp [LineD.next]; omega, by simp [LineD.next]; omega, hn⟩, A', c', ?_, ?_, own_mono ho2 hbase⟩).mono ?_
      · rintro rfl
        exact own_none ho2
      · simpa [LineD.next] using b2
      rintro e w4 ⟨v, rfl, hv, hb4⟩
      obtain ⟨A2, c2, rfl, ho4⟩ := id hv
      have r1 : Blk ((w.setCell ⟨g, 3, none⟩ (.int .i64 (s.seq + 1))).alloc (.cells #[.int .i64 0, .int .i64 0, .int .i64 0, .int .i64 0, .slice none 0 0] 28)) w.heap.size 28 #[.int .i64 0, .int .i64 0, .int .i64 0, .int .i64 0, .slice none 0 0] := by
        have := Blk.new (w.setCell ⟨g, 3, none⟩ (.int .i64 (s.seq + 1))) 28 #[.int .i64 0, .int .i64 0, .int .i64 0, .int .i64 0, .slice none 0 0]
        simpa using this
      have r4 := (((r1.below hb1 (by simp)).far (p := ⟨g, 4, none⟩) (by simp; omega) (.slice A' bs.length c')).far (p := ⟨g, 5, none⟩) (by simp; omega) (.bool true)).below hb4 (by simp; omega)
      have q0 := r4.cell 0
      have q1 := r4.cell 1
      have q2 := r4.cell 2
      have q3 := r4.cell 3
      have q4 := r4.cell 4
      have g0 := r4.frozen 0
      have g1 := r4.frozen 1
      have g2 := r4.frozen 2
      have g3 := r4.frozen 3
      have g4 := r4.frozen 4
      simp at q0 q1 q2 q3 q4
      have R4 := Lib.hid r4
      have Hv := Lib.hid hv
      have O4 := Lib.hid ho4
      clear r4 hv ho4
      go_wp2_with fail
      have r5 := set5_blk R4.out (.int .i64 (s.next bs).note.party) (.int .i64 (s.next bs).note.which) (.int .i64 (s.next bs).note.way) (.int .i64 (s.next bs).note.seq) (.slice A2 (s.next bs).note.body.length c2)
      refine bodyPost_ret (results_row_tmp Try.results11 _ _ w.heap.size _ _ _ rfl r5 Try.underlying28 rfl (by kernel_rfl)) rfl ?_
      rw [hs.out]
      have o5 := set5_only w4 w.heap.size (.int .i64 (s.next bs).note.party) (.int .i64 (s.next bs).note.which) (.int .i64 (s.next bs).note.way) (.int .i64 (s.next bs).note.seq) (.slice A2 (s.next bs).note.body.length c2)
      have x2 : XL ((w1.setCell ⟨g, 4, none⟩ (.slice A' bs.length c')).setCell ⟨g, 5, none⟩ (.bool true)) base g (s.next bs) :=
        ⟨⟨by simp [LineD.next]; omega, by simp [LineD.next]; omega, hn⟩, A', c', by rintro rfl; exact own_none ho2, by simpa [LineD.next] using b2, own_mono ho2 hbase⟩
      refine ⟨_, rfl, ⟨A2, c2, rfl, ?_⟩, (x2.below hb4).only R4.out (by decide) (by decide) o5, ?_⟩
      · exact own_mono (own_only O4.out o5 (by simp; omega)) (by simp; omega)
      · refine only_new ?_ o5 (Nat.le_refl _)
        refine only_below ?_ hb4
        refine only_set (only_set ?_ 4 _) 5 _
        exact only_below (only_alloc (set_only w g 3 _) _) hb1

theorem seq_any (base g : Nat) (s : LineD) (w : World) (h : XL w base g s) :
    Calls Try.prog 9 #[.pointer (some ⟨g, 0, none⟩)] w fun e w' => e = .returned (.int .i64 s.seq) ∧ w = w' := by
  obtain ⟨_, A, c, _, hb, _⟩ := h
  have c3 := hb.cell 3
  simp at c3
  clear hb
  go_enter Try.func9, Try.ntmps9
  go_wp2
  go_ret
  exact ⟨rfl, rfl⟩

theorem busy_any (base g : Nat) (s : LineD) (w : World) (h : XL w base g s) :
    Calls Try.prog 10 #[.pointer (some ⟨g, 0, none⟩)] w fun e w' => e = .returned (.bool s.busy) ∧ w = w' := by
  obtain ⟨_, A, c, _, hb, _⟩ := h
  have c5 := hb.cell 5
  simp at c5
  clear hb
  go_enter Try.func10, Try.ntmps10
  go_wp2
  go_ret
  exact ⟨rfl, rfl⟩

/-- The line that New makes. -/
def fresh (party which seq : Int) : LineD := ⟨party, which, if 0 ≤ seq ∧ seq ≤ 4294967295 then seq else 0, false, []⟩
theorem fresh_fine (party which seq : Int) : (fresh party which seq).fine := by
  unfold LineD.fine fresh
  refine ⟨?_, ?_, by simp⟩ <;> · simp only; split <;> omega
theorem fresh_in {party which seq : Int} (h : 0 ≤ seq ∧ seq ≤ 4294967295) : fresh party which seq = ⟨party, which, seq, false, []⟩ := by unfold fresh; rw [if_pos h]
theorem fresh_out {party which seq : Int} (h : ¬ (0 ≤ seq ∧ seq ≤ 4294967295)) : fresh party which seq = ⟨party, which, 0, false, []⟩ := by unfold fresh; rw [if_neg h]

def NewX (w : World) (s : LineD) (e : Ending) (w' : World) : Prop := e = .returned (.pointer (some ⟨w.heap.size, 0, none⟩)) ∧ XL w' w.heap.size w.heap.size s ∧ Below w.heap.size w w'
def NewY (w : World) (s : LineD) (e : Ending) (w' : World) : Prop := e = .returned (.pointer (some ⟨w.heap.size, 0, none⟩)) ∧ YL w' w.heap.size w.heap.size s ∧ Below w.heap.size w w'
theorem newX_of (w : World) (p l q : Int) (h : (⟨p, l, q, false, []⟩ : LineD).fine) : NewX w ⟨p, l, q, false, []⟩ (.returned (.pointer (some ⟨w.heap.size, 0, none⟩))) (w.alloc (.cells #[.int .i64 p, .int .i64 l, .int .i64 0, .int .i64 q, .slice none 0 0, .bool false] 53)) :=
  ⟨rfl, ⟨h, none, 0, fun _ => ⟨rfl, rfl⟩, Blk.new _ _ _, World.ownsRow_nil _ _ _ _⟩, (Below.refl _ _).alloc (Nat.le_refl _) _⟩
theorem newY_of (w : World) (p l q : Int) (h : (⟨p, l, q, false, []⟩ : LineD).fine) : NewY w ⟨p, l, q, false, []⟩ (.returned (.pointer (some ⟨w.heap.size, 0, none⟩))) (w.alloc (.cells #[.int .i64 p, .int .i64 l, .int .i64 q, .bool false, .slice none 0 0] 45)) :=
  ⟨rfl, ⟨h, none, 0, Blk.new _ _ _, World.ownsRow_nil _ _ _ _⟩, (Below.refl _ _).alloc (Nat.le_refl _) _⟩

set_option maxHeartbeats 400000 in
theorem new_any (p l q : Int) (w : World) : Calls Try.prog 8 #[.int .i64 p, .int .i64 l, .int .i64 q] w (NewX w (fresh p l q)) := by
  have hf := fresh_fine p l q
  by_cases h0 : q < 0
  · rw [fresh_out (by omega)] at hf ⊢
    go_enter Try.func8, Try.ntmps8
    go_wp2
    go_ret
    exact newX_of w p l 0 hf
  · by_cases h1 : 4294967295 < q
    · rw [fresh_out (by omega)] at hf ⊢
      go_enter Try.func8, Try.ntmps8
      go_wp2
      go_ret
      exact newX_of w p l 0 hf
    · rw [fresh_in (by omega)] at hf ⊢
      go_enter Try.func8, Try.ntmps8
      go_wp2
      go_ret
      exact newX_of w p l q hf

set_option maxHeartbeats 400000 in
theorem newy_any (p l q : Int) (w : World) : Calls Try.prog 14 #[.int .i64 p, .int .i64 l, .int .i64 q] w (NewY w (fresh p l q)) := by
  have hf := fresh_fine p l q
  by_cases h0 : q < 0
  · rw [fresh_out (by omega)] at hf ⊢
    go_enter Try.func14, Try.ntmps14
    go_wp2
    go_ret
    exact newY_of w p l 0 hf
  · by_cases h1 : 4294967295 < q
    · rw [fresh_out (by omega)] at hf ⊢
      go_enter Try.func14, Try.ntmps14
      go_wp2
      go_ret
      exact newY_of w p l 0 hf
    · rw [fresh_in (by omega)] at hf ⊢
      go_enter Try.func14, Try.ntmps14
      go_wp2
      go_ret
      exact newY_of w p l q hf
end Go.Proofs.Ythnenpjpgmpadaa
