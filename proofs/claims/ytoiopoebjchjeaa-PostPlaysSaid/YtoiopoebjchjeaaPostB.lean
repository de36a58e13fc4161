/-
  package post by contract, the second part: At, Len, New.
-/
import Derived.Test.YtoiopoebjchjeaaPost
namespace Go.Proofs.Ytoiopoebjchjeaa
open Go.RowKit

abbrev Pk := Int × List UInt8
def okL (L : List Pk) (i : Int) : Bool := decide (0 ≤ i) && decide (i < L.length)
def atL (L : List Pk) (i : Int) : Pk := if okL L i = true then L.getD i.toNat (0, []) else (0, [])
def dropL (L : List Pk) (i : Int) : List Pk := if okL L i = true then L.eraseIdx i.toNat else L
def putL (most : Int) (L : List Pk) (to : Int) (bs : List UInt8) : List Pk × Int :=
  if most ≤ L.length then (L, 12) else if 60100 < bs.length then (L, 3) else (L ++ [(to, bs)], 0)
def copyL (most : Int) (L : List Pk) (i : Int) : List Pk × Int := if okL L i = true then putL most L (atL L i).1 (atL L i).2 else (L, 8)

theorem okL_in {L : List Pk} {k : Nat} (h : k < L.length) : okL L (k : Int) = true := by unfold okL; simp; omega
theorem okL_out {L : List Pk} {i : Int} (h : i < 0 ∨ (L.length : Int) ≤ i) : okL L i = false := by unfold okL; simp; omega
theorem okL_yes {L : List Pk} {i : Int} (h : okL L i = true) : ∃ k : Nat, i = k ∧ k < L.length := by
  unfold okL at h
  simp at h
  exact ⟨i.toNat, by omega, by omega⟩
theorem atL_in {L : List Pk} {k : Nat} (h : k < L.length) : atL L (k : Int) = L[k] := by
  unfold atL
  rw [if_pos (okL_in h)]
  simp [List.getD, h]
theorem atL_out {L : List Pk} {i : Int} (h : okL L i = false) : atL L i = (0, []) := by unfold atL; rw [if_neg (by simp [h])]

/-- Parcels that fit. -/
def SmallL (most : Int) (L : List Pk) : Prop := 1 ≤ most ∧ most ≤ 200 ∧ (L.length : Int) ≤ most ∧ ∀ x ∈ L, x.2.length ≤ 60100

/-- Block g is a post of package post; rb: its row. -/
def PX (w : World) (base g : Nat) (rb : Option Nat) (most : Int) (L : List Pk) : Prop := SmallL most L ∧ ∃ A c ps,
  Blk w g 52 #[.slice A ps.length c, .int .i64 most] ∧ (Value.slice A ps.length c).ownBlock = rb ∧ Row w base (.slice A ps.length c) ps ∧ ps.map PD.data = L
/-- Block g is a post of the reference. -/
def PY (w : World) (base g : Nat) (rb : Option Nat) (most : Int) (L : List Pk) : Prop := SmallL most L ∧ ∃ A c ps,
  Blk w g 46 #[.int .i64 most, .slice A ps.length c] ∧ (Value.slice A ps.length c).ownBlock = rb ∧ Row w base (.slice A ps.length c) ps ∧ ps.map PD.data = L

theorem PD.ok.fr {p : PD} {w w' : World} {base : Nat} {S : Nat → Prop} (h : p.ok w base) (hf : Fr S w w') (hS : ∀ k cs, S k → k < w.heap.size → ¬ Blk w k 5 cs) : p.ok w' base :=
  own_fr h hf fun k hk s => by
    obtain ⟨_, hlt, cs, hb⟩ := own_block h hk
    exact hS k cs s hlt hb
theorem Row.fr {w w' : World} {base : Nat} {v : Value} {ps : List PD} {S : Nat → Prop} (h : Row w base v ps) (hf : Fr S w w') (hv : ∀ k, v.ownBlock = some k → ¬ S k) (hS : ∀ k cs, S k → k < w.heap.size → ¬ Blk w k 5 cs) : Row w' base v ps :=
  ⟨own_fr h.1 hf hv, fun p hp => (h.2 p hp).fr hf hS⟩
theorem Row.below {w w' : World} {base : Nat} {v : Value} {ps : List PD} (h : Row w base v ps) (hb : Below w.heap.size w w') : Row w' base v ps :=
  h.fr (S := fun _ => False) (Fr.of_below hb) (fun _ _ f => f) (fun _ _ f => f.elim)
theorem PX.fr {w w' : World} {base g : Nat} {rb : Option Nat} {most : Int} {L : List Pk} {S : Nat → Prop} (h : PX w base g rb most L) (hf : Fr S w w') (hg : ¬ S g) (hr : ∀ k, rb = some k → ¬ S k) (hS : ∀ k cs, S k → k < w.heap.size → ¬ Blk w k 5 cs) : PX w' base g rb most L := by
  obtain ⟨hs, A, c, ps, hb, rfl, hrow, hL⟩ := h
  exact ⟨hs, A, c, ps, hb.fr hf hg, rfl, hrow.fr hf hr hS, hL⟩
theorem PY.fr {w w' : World} {base g : Nat} {rb : Option Nat} {most : Int} {L : List Pk} {S : Nat → Prop} (h : PY w base g rb most L) (hf : Fr S w w') (hg : ¬ S g) (hr : ∀ k, rb = some k → ¬ S k) (hS : ∀ k cs, S k → k < w.heap.size → ¬ Blk w k 5 cs) : PY w' base g rb most L := by
  obtain ⟨hs, A, c, ps, hb, rfl, hrow, hL⟩ := h
  exact ⟨hs, A, c, ps, hb.fr hf hg, rfl, hrow.fr hf hr hS, hL⟩
theorem PX.below {w w' : World} {base g : Nat} {rb : Option Nat} {most : Int} {L : List Pk} (h : PX w base g rb most L) (hb : Below w.heap.size w w') : PX w' base g rb most L :=
  h.fr (S := fun _ => False) (Fr.of_below hb) (fun f => f) (fun _ _ f => f) (fun _ _ f => f.elim)
theorem PY.below {w w' : World} {base g : Nat} {rb : Option Nat} {most : Int} {L : List Pk} (h : PY w base g rb most L) (hb : Below w.heap.size w w') : PY w' base g rb most L :=
  h.fr (S := fun _ => False) (Fr.of_below hb) (fun f => f) (fun _ _ f => f) (fun _ _ f => f.elim)
theorem PX.lt {w : World} {base g : Nat} {rb : Option Nat} {most : Int} {L : List Pk} (h : PX w base g rb most L) : g < w.heap.size := by
  obtain ⟨_, A, c, ps, hb, _⟩ := h
  exact hb.lt
theorem PY.lt {w : World} {base g : Nat} {rb : Option Nat} {most : Int} {L : List Pk} (h : PY w base g rb most L) : g < w.heap.size := by
  obtain ⟨_, A, c, ps, hb, _⟩ := h
  exact hb.lt
/-- The row of a post: an old block, of parcels. -/
theorem PX.row {w : World} {base g : Nat} {rb : Option Nat} {most : Int} {L : List Pk} (h : PX w base g rb most L) {k : Nat} (hk : rb = some k) : base ≤ k ∧ k < w.heap.size ∧ k ≠ g ∧ ∃ cs, Blk w k 37 cs := by
  obtain ⟨_, A, c, ps, hb, rfl, hrow, _⟩ := h
  obtain ⟨h1, h2, cs, h3⟩ := own_block hrow.1 hk
  exact ⟨h1, h2, h3.ne_ hb (by decide), cs, h3⟩
theorem PY.row {w : World} {base g : Nat} {rb : Option Nat} {most : Int} {L : List Pk} (h : PY w base g rb most L) {k : Nat} (hk : rb = some k) : base ≤ k ∧ k < w.heap.size ∧ k ≠ g ∧ ∃ cs, Blk w k 37 cs := by
  obtain ⟨_, A, c, ps, hb, rfl, hrow, _⟩ := h
  obtain ⟨h1, h2, cs, h3⟩ := own_block hrow.1 hk
  exact ⟨h1, h2, h3.ne_ hb (by decide), cs, h3⟩

def AtR (w : World) (L : List Pk) (i : Int) (e : Ending) (w' : World) : Prop := ∃ v, e = .returned (.tuple #[v, .bool (okL L i)]) ∧ ParcelV w (atL L i).1 (atL L i).2 v w' ∧ Below w.heap.size w w'
theorem noParcelV (w w' : World) : ParcelV w 0 [] (.agg #[.int .i64 0, .slice none 0 0]) w' := ⟨none, 0, rfl, World.ownsRow_nil _ _ _ _⟩

/-- The element at k, out of a row: where it lies, and that its bytes can be read. -/
theorem Row.at {w : World} {base n c : Nat} {A : Option Addr} {ps : List PD} (h : Row w base (.slice A n c) ps) (k : Nat) (hk : k < ps.length) :
    ∃ r, A = some ⟨r, 0, none⟩ ∧ r < w.heap.size ∧ w.cell? ⟨r, k * 2, none⟩ = some (.int .i64 ps[k].to) ∧ w.cell? ⟨r, k * 2 + 1, none⟩ = some (.slice ps[k].A ps[k].bs.length ps[k].c) := by
  obtain ⟨g, cap, hv, _, hlt⟩ := h.1.form (by omega)
  injection hv with hA _ _
  subst hA
  have hc := h.1.cells (g := g) rfl
  obtain ⟨h1, h2⟩ := pcells_at ps k hk
  have e1 := hc _ _ h1
  have e2 := hc _ _ h2
  rw [Addr.add_lit] at e1 e2
  exact ⟨g, rfl, hlt, by simpa using e1, by simpa using e2⟩

set_option maxRecDepth 100000 in
set_option maxHeartbeats 1000000 in
theorem at_any (base g : Nat) (rb : Option Nat) (most : Int) (L : List Pk) (i : Int) (w : World) (h : PX w base g rb most L) :
    Calls Try.prog 20 #[.pointer (some ⟨g, 0, none⟩), .int .i64 i] w (AtR w L i) := by
  obtain ⟨⟨m1, m2, m3, m4⟩, A, c, ps, hb, hrb, hrow, hL⟩ := id h
  have hlt := hb.lt
  have c0 := hb.cell 0
  simp at c0
  have hlen : (ps.length : Int) = L.length := by rw [← hL]; simp
  by_cases h0 : i < 0
  · have ho := okL_out (L := L) (i := i) (.inl h0)
    have Hp := Lib.hid (atL_out ho)
    have Ho := Lib.hid ho
    clear ho hL hrb hlen
    go_enter Try.func20, Try.ntmps20
    go_wp2_with fail
    refine bodyPost_ret (results_row_tmp Try.results20 _ _ w.heap.size _ _ _ rfl (Blk.new _ _ _) Try.underlying37 rfl (by kernel_rfl)) rfl ?_
    refine ⟨_, by rw [Ho.out]; rfl, by rw [Hp.out]; exact noParcelV _ _, (Below.refl _ _).alloc (Nat.le_refl _) _⟩
  · by_cases h1 : (ps.length : Int) ≤ i
    · have ho := okL_out (L := L) (i := i) (.inr (by omega))
      have Hp := Lib.hid (atL_out ho)
      have Ho := Lib.hid ho
      clear ho hL hrb hlen
      go_enter Try.func20, Try.ntmps20
      go_wp2_with fail
      refine bodyPost_ret (results_row_tmp Try.results20 _ _ w.heap.size _ _ _ rfl (Blk.new _ _ _) Try.underlying37 rfl (by kernel_rfl)) rfl ?_
      refine ⟨_, by rw [Ho.out]; rfl, by rw [Hp.out]; exact noParcelV _ _, (Below.refl _ _).alloc (Nat.le_refl _) _⟩
    · obtain ⟨k, rfl⟩ := Int.eq_ofNat_of_zero_le (by omega : 0 ≤ i)
      have hk : k < ps.length := by omega
      obtain ⟨r, rfl, hr, e1, e2⟩ := hrow.at k hk
      have hpk := hrow.2 ps[k] (List.getElem_mem hk)
      have hkl : k < L.length := by omega
      have hat := atL_in hkl
      have hLk : L[k] = (ps[k].to, ps[k].bs) := by subst hL; simp [PD.data]
      rw [hLk] at hat
      have hsm : ps[k].bs.length ≤ 60100 := by have := m4 _ (List.getElem_mem hkl); rw [hLk] at this; exact this
      obtain ⟨pk, hpe⟩ : ∃ pk, pk = ps[k] := ⟨_, rfl⟩
      rw [← hpe] at hat hpk e1 e2 hsm
      obtain ⟨to, Ab, cb, bs⟩ := pk
      have hpk' : w.ownsRow base 5 1 (.slice Ab bs.length cb) bs.length (bv bs) := hpk
      simp only at e1 e2 hsm hat
      have Hat := Lib.hid hat
      have Ho := Lib.hid (okL_in hkl)
      have HP := Lib.hid hpk'
      have hk1 : (k : Int) < (ps.length : Int) := by omega
      clear hpe hpk hat hLk hL hrb hlen hpk' m4
      go_enter Try.func20, Try.ntmps20
      go_wp2_with fail
      refine (copied_any to Ab cb bs _ (((Reads.of_own HP.out).alloc (Nat.le_refl _) _).more (by simp)) (by rintro rfl; exact own_none HP.out) (by omega)).mono ?_
      rintro e w4 ⟨v, rfl, ⟨A2, c2, rfl, ho4⟩, hb4⟩
      have r4 : Blk w4 w.heap.size 37 #[.int .i64 0, .slice none 0 0] := (Blk.new w _ _).below hb4 (by simp)
      obtain ⟨⟨q0, q1⟩, g0, g1⟩ := Blk.two r4
      have R4 := Lib.hid r4
      have O4 := Lib.hid ho4
      clear r4 ho4
      go_wp2_with fail
      have r5 := set2_blk R4.out (.int .i64 to) (.slice A2 bs.length c2)
      have o5 := set2_only w4 w.heap.size (.int .i64 to) (.slice A2 bs.length c2)
      refine bodyPost_ret (results_row_tmp Try.results20 _ _ w.heap.size _ _ _ rfl r5 Try.underlying37 rfl (by kernel_rfl)) rfl ?_
      refine ⟨_, by rw [Ho.out]; rfl, ?_, ?_⟩
      · rw [Hat.out]
        exact ⟨A2, c2, rfl, own_mono (own_only O4.out o5 (by simp)) (by simp)⟩
      · exact below_only (((Below.refl _ _).alloc (Nat.le_refl _) _).trans (hb4.mono (by simp))) o5 (by have := hb4.size; simp at this; omega) (Nat.le_refl _)

theorem len_any (base g : Nat) (rb : Option Nat) (most : Int) (L : List Pk) (w : World) (h : PX w base g rb most L) :
    Calls Try.prog 22 #[.pointer (some ⟨g, 0, none⟩)] w fun e w' => e = .returned (.int .i64 L.length) ∧ w = w' := by
  obtain ⟨_, A, c, ps, hb, _, _, hL⟩ := h
  have c0 := hb.cell 0
  simp at c0
  have hlen : (ps.length : Int) = L.length := by rw [← hL]; simp
  have Hl := Lib.hid hlen
  clear hb hlen hL
  go_enter Try.func22, Try.ntmps22
  go_wp2
  go_ret
  exact ⟨by rw [← Hl.out]; rfl, rfl⟩

/-- What New makes. -/
def NewR (P : World → Nat → Nat → Option Nat → Int → List Pk → Prop) (w : World) (most : Int) (e : Ending) (w' : World) : Prop :=
  ((1 ≤ most ∧ most ≤ 200) → e = .returned (.tuple #[.pointer (some ⟨w.heap.size, 0, none⟩), .int .i64 0]) ∧ P w' w.heap.size w.heap.size none most [] ∧ Below w.heap.size w w') ∧
  (¬ (1 ≤ most ∧ most ≤ 200) → e = .returned (.tuple #[.pointer none, .int .i64 1]) ∧ w = w')
theorem row_nil (w : World) (base : Nat) : Row w base (.slice none 0 0) [] := ⟨World.ownsRow_nil _ _ _ _, by simp⟩

set_option maxHeartbeats 400000 in
theorem new_any (most : Int) (w : World) : Calls Try.prog 9 #[.int .i64 most] w (NewR PX w most) := by
  by_cases h0 : most < 1
  · go_enter Try.func9, Try.ntmps9
    go_wp2
    go_ret2
    exact ⟨fun h => by omega, fun _ => ⟨rfl, rfl⟩⟩
  · by_cases h1 : 200 < most
    · go_enter Try.func9, Try.ntmps9
      go_wp2
      go_ret2
      exact ⟨fun h => by omega, fun _ => ⟨rfl, rfl⟩⟩
    · go_enter Try.func9, Try.ntmps9
      go_wp2
      go_ret2
      refine ⟨fun _ => ⟨rfl, ⟨⟨by omega, by omega, by simp; omega, by simp⟩, none, 0, [], Blk.new _ _ _, rfl, row_nil _ _, rfl⟩, (Below.refl _ _).alloc (Nat.le_refl _) _⟩, fun h => by omega⟩

set_option maxHeartbeats 400000 in
theorem newy_any (most : Int) (w : World) : Calls Try.prog 10 #[.int .i64 most] w (NewR PY w most) := by
  by_cases h0 : most < 1
  · go_enter Try.func10, Try.ntmps10
    go_wp2
    go_ret2
    exact ⟨fun h => by omega, fun _ => ⟨rfl, rfl⟩⟩
  · by_cases h1 : 200 < most
    · go_enter Try.func10, Try.ntmps10
      go_wp2
      go_ret2
      exact ⟨fun h => by omega, fun _ => ⟨rfl, rfl⟩⟩
    · go_enter Try.func10, Try.ntmps10
      go_wp2
      go_ret2
      refine ⟨fun _ => ⟨rfl, ⟨⟨by omega, by omega, by simp; omega, by simp⟩, none, 0, [], Blk.new _ _ _, rfl, row_nil _ _, rfl⟩, (Below.refl _ _).alloc (Nat.le_refl _) _⟩, fun h => by omega⟩
end Go.Proofs.Ytoiopoebjchjeaa
