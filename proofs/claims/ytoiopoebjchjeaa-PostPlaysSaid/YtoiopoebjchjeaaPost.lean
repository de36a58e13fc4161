/-
  package post by contract: parcels under way, as a list.
-/
import Derived.Test.YtoiopoebjchjeaaFr
import Derived.Deep.QuietTactic
import Derived.BigQuiet
import Derived.Deep.RegionHeld3
import Derived.Deep.RegionLaw
namespace Go.Proofs.Ytoiopoebjchjeaa
open Go.RowKit

/-- A parcel in memory. -/
structure PD where
  to : Int
  A : Option Addr
  c : Nat
  bs : List UInt8
def PD.cells (p : PD) : List Value := [.int .i64 p.to, .slice p.A p.bs.length p.c]
def pcells (ps : List PD) : List Value := ps.flatMap PD.cells
def PD.data (p : PD) : Int × List UInt8 := (p.to, p.bs)
def PD.ok (p : PD) (w : World) (base : Nat) : Prop := w.ownsRow base 5 1 (.slice p.A p.bs.length p.c) p.bs.length (bv p.bs)
def Row (w : World) (base : Nat) (v : Value) (ps : List PD) : Prop := w.ownsRow base 37 2 v ps.length (pcells ps) ∧ ∀ p ∈ ps, p.ok w base

theorem pcells_length (ps : List PD) : (pcells ps).length = ps.length * 2 := by
  induction ps with
  | nil => rfl
  | cons p ps ih => simp [pcells, PD.cells] at ih ⊢; omega
theorem pcells_cons (p : PD) (ps : List PD) : pcells (p :: ps) = .int .i64 p.to :: .slice p.A p.bs.length p.c :: pcells ps := rfl
theorem pcells_append (a b : List PD) : pcells (a ++ b) = pcells a ++ pcells b := by simp [pcells]
theorem pcells_at (ps : List PD) (k : Nat) (h : k < ps.length) : (pcells ps)[k * 2]? = some (.int .i64 ps[k].to) ∧ (pcells ps)[k * 2 + 1]? = some (.slice ps[k].A ps[k].bs.length ps[k].c) := by
  induction ps generalizing k with
  | nil => exact absurd h (by simp)
  | cons p ps ih =>
    rw [pcells_cons]
    match k, h with
    | 0, _ => exact ⟨rfl, rfl⟩
    | k + 1, h =>
      have := ih k (by simpa using h)
      rw [show (k + 1) * 2 = k * 2 + 2 from by omega]
      simpa using this
theorem pcells_take (ps : List PD) (k : Nat) : pcells (ps.take k) = (pcells ps).take (k * 2) := by
  induction ps generalizing k with
  | nil => simp [pcells]
  | cons p ps ih =>
    match k with
    | 0 => simp [pcells]
    | k + 1 =>
      rw [List.take_succ_cons, pcells_cons, pcells_cons, ih, show (k + 1) * 2 = k * 2 + 2 from by omega]
      rfl
theorem pcells_drop (ps : List PD) (k : Nat) : pcells (ps.drop k) = (pcells ps).drop (k * 2) := by
  induction ps generalizing k with
  | nil => simp [pcells]
  | cons p ps ih =>
    match k with
    | 0 => simp
    | k + 1 =>
      rw [List.drop_succ_cons, pcells_cons, ih, show (k + 1) * 2 = k * 2 + 2 from by omega]
      rfl
theorem pcells_one (ps : List PD) : ∀ u ∈ pcells ps, u.oneCell' = true := by
  intro u hu
  obtain ⟨p, _, hp⟩ := List.mem_flatMap.1 hu
  simp [PD.cells] at hp
  rcases hp with rfl | rfl <;> rfl

/-- A parcel as a value, whose bytes are new since w. -/
def ParcelV (w : World) (to : Int) (bs : List UInt8) (v : Value) (w' : World) : Prop := ∃ A c, v = .agg #[.int .i64 to, .slice A bs.length c] ∧ w'.ownsRow w.heap.size 5 1 (.slice A bs.length c) bs.length (bv bs)

theorem Blk.two {w : World} {g : Nat} {t : TypeId} {a b : Value} (h : Blk w g t #[a, b]) : (w.cell? ⟨g, 0, none⟩ = some a ∧ w.cell? ⟨g, 1, none⟩ = some b) ∧ (w.frozen? ⟨g, 0, none⟩ = false ∧ w.frozen? ⟨g, 1, none⟩ = false) :=
  ⟨⟨by rw [h.cell]; rfl, by rw [h.cell]; rfl⟩, h.frozen 0, h.frozen 1⟩
theorem set2_blk {w : World} {g : Nat} {t : TypeId} {z0 z1 : Value} (h : Blk w g t #[z0, z1]) (a b : Value) : Blk ((w.setCell ⟨g, 0, none⟩ a).setCell ⟨g, 1, none⟩ b) g t #[a, b] := by
  simpa using (h.set_ 0 a).set_ 1 b
theorem set2_only (w : World) (g : Nat) (a b : Value) : w.grownBy ((w.setCell ⟨g, 0, none⟩ a).setCell ⟨g, 1, none⟩ b) (some g) := only_set (set_only w g 0 a) 1 b
theorem set2_cell {w : World} {g : Nat} {a b : Value} {p : Addr} (hp : p.block ≠ g) (hlt : p.block < w.heap.size) : ((w.setCell ⟨g, 0, none⟩ a).setCell ⟨g, 1, none⟩ b).cell? p = w.cell? p :=
  World.cell?_of_block ((set2_only w g a b).block' hp hlt)

set_option maxRecDepth 100000 in
set_option maxHeartbeats 1000000 in
theorem copied_any (to : Int) (A : Option Addr) (c : Nat) (bs : List UInt8) (w : World) (ha : Reads w w.heap.size 1 A bs.length (bv bs)) (hc0 : A = none → bs.length = 0 ∧ c = 0) (hn : bs.length ≤ 140737488351232) :
    Calls Try.prog 24 #[.agg #[.int .i64 to, .slice A bs.length c]] w fun e w' => ∃ v, e = .returned v ∧ ParcelV w to bs v w' ∧ Below w.heap.size w w' := by
  have Hc0 := Lib.hid hc0
  clear hc0
  go_enter Try.func24, Try.ntmps24
  go_wp2_with fail
  go_region_held3 (fun w' => w'.cell? ⟨w.heap.size, 0, none⟩ = some (.int .i64 to) ∧ w'.cell? ⟨w.heap.size, 1, none⟩ = some (.slice A bs.length c)) (first | go_keep | exact ⟨(set2_cell (by simp) (by simp; omega)).trans d0, (set2_cell (by simp) (by simp; omega)).trans d1⟩)
    (first | (go_at_call 28; refine (clone_any A bs.length c bs _ ?_ Hc0.out hn).mono ?_; exact (((ha.alloc (Nat.le_refl _) _).alloc (by simp) _).drew.more (by simp; omega)); rintro e w1 ⟨A', c', rfl, hown1, hb1⟩; obtain ⟨⟨d0, d1⟩, _⟩ := Blk.two ((((Blk.new w 37 #[.int .i64 to, .slice A bs.length c]).alloc _).drew).below hb1 (by simp; omega)); have hz1 : w.heap.size + 1 < w1.heap.size := (by have := hb1.size; simp at this; omega); have rb : Blk w1 (w.heap.size + 1) 37 #[.int .i64 0, .slice none 0 0] := (by have := ((Blk.new (w.alloc (.cells #[.int .i64 to, .slice A bs.length c] 37)) 37 #[.int .i64 0, .slice none 0 0]).drew).below hb1 (by simp); simpa using this); obtain ⟨⟨q0, q1⟩, g0, g1⟩ := Blk.two rb))
  go_wp2_with fail
  have r5 := set2_blk rb (.int .i64 to) (.slice A' bs.length c')
  have o5 := set2_only w1 (w.heap.size + 1) (.int .i64 to) (.slice A' bs.length c')
  refine bodyPost_ret (results_cell_row Try.results24 _ _ (w.heap.size + 1) _ _ (0, 0) _ rfl r5 Try.underlying37 rfl (by kernel_rfl)) rfl ?_
  refine ⟨_, rfl, ⟨A', c', rfl, own_mono (own_only hown1 o5 (by simp)) (by simp; omega)⟩, ?_⟩
  exact below_only ((((Below.refl _ _).alloc (Nat.le_refl _) _).alloc (by simp) _).drew.trans (hb1.mono (by simp; omega))) o5 (by omega) (by omega)
end Go.Proofs.Ytoiopoebjchjeaa
