/-
  Two posts side by side: package post's and the reference's.
-/
import Derived.Test.YtoiopoebjchjeaaPostW
import Derived.Test.YtoiopoebjchjeaaPostE
namespace Go.Proofs.Ytoiopoebjchjeaa
open Go.RowKit

theorem PX.ps_lt' {w : World} {base g : Nat} {rb : Option Nat} {most : Int} {L : List Pk} (h : PX w base g rb most L) : ∀ i, PS g rb i → i < w.heap.size := by
  rintro i (rfl | hi)
  · exact h.lt
  · exact (h.row hi).2.1
theorem PY.ps_lt {w : World} {base g : Nat} {rb : Option Nat} {most : Int} {L : List Pk} (h : PY w base g rb most L) : ∀ i, PS g rb i → i < w.heap.size := by
  rintro i (rfl | hi)
  · exact h.lt
  · exact (h.row hi).2.1
theorem PX.ps_ge' {w : World} {base g : Nat} {rb : Option Nat} {most : Int} {L : List Pk} (h : PX w base g rb most L) (hg : base ≤ g) : ∀ i, PS g rb i → base ≤ i := by
  rintro i (rfl | hi)
  · exact hg
  · exact (h.row hi).1
theorem PY.ps_ge {w : World} {base g : Nat} {rb : Option Nat} {most : Int} {L : List Pk} (h : PY w base g rb most L) (hg : base ≤ g) : ∀ i, PS g rb i → base ≤ i := by
  rintro i (rfl | hi)
  · exact hg
  · exact (h.row hi).1

/-- The two posts, in one world. -/
structure XYS (w : World) (gx gy : Nat) (rx ry : Option Nat) (most : Int) (LX LY : List Pk) (wr : World) : Prop where
  x : PX wr gx gx rx most LX
  y : PY wr gy gy ry most LY
  b : Below w.heap.size w wr
  wx : w.heap.size ≤ gx
  wy : w.heap.size ≤ gy
  ne : ∀ k, rx = some k → ry ≠ some k
section
variable {w wr wr' : World} {gx gy : Nat} {rx ry rx' ry' : Option Nat} {most : Int} {LX LY L' : List Pk}
theorem XYS.below (h : XYS w gx gy rx ry most LX LY wr) (hb : Below wr.heap.size wr wr') : XYS w gx gy rx ry most LX LY wr' :=
  ⟨h.x.below hb, h.y.below hb, h.b.trans (hb.mono h.b.size), h.wx, h.wy, h.ne⟩
theorem XYS.alloc (h : XYS w gx gy rx ry most LX LY wr) (o : Obj) : XYS w gx gy rx ry most LX LY (wr.alloc o) := h.below ((Below.refl _ _).alloc (Nat.le_refl _) o)
theorem XYS.drew (h : XYS w gx gy rx ry most LX LY wr) : XYS w gx gy rx ry most LX LY wr.drew := h.below (Below.refl _ _).drew
theorem XYS.apart (h : XYS w gx gy rx ry most LX LY wr) : ∀ k, PS gx rx k → ¬ PS gy ry k := by
  rintro k (rfl | hk) (e | hk')
  · subst e
    obtain ⟨_, A, c, ps, h1, _⟩ := h.x
    obtain ⟨_, A', c', ps', h2, _⟩ := h.y
    exact Blk.ne_ h1 h2 (by decide) rfl
  · obtain ⟨_, A, c, ps, h1, _⟩ := h.x
    obtain ⟨_, _, _, cs', h2⟩ := h.y.row hk'
    exact Blk.ne_ h1 h2 (by decide) rfl
  · subst e
    obtain ⟨_, A, c, ps, h1, _⟩ := h.y
    obtain ⟨_, _, _, cs', h2⟩ := h.x.row hk
    exact Blk.ne_ h1 h2 (by decide) rfl
  · exact h.ne k hk hk'
theorem XYS.stepx (h : XYS w gx gy rx ry most LX LY wr) (hx : PX wr' gx gx rx' most L') (hm : Moved wr rx rx') (hf : Fr (PS gx rx) wr wr') : XYS w gx gy rx' ry most L' LY wr' := by
  refine ⟨hx, h.y.fr hf (fun s => h.apart _ s (.inl rfl)) (fun k hk s => h.apart _ s (.inr hk)) h.x.nobytes, ?_, h.wx, h.wy, fun k hk hk' => ?_⟩
  · exact h.b.trans ((hf.below (B := gx) (Nat.le_of_lt h.x.lt) (h.x.ps_ge' (Nat.le_refl _))).mono h.wx)
  · rcases hm with e | ⟨j, e, hj⟩
    · exact h.ne k (e.symm.trans hk) hk'
    · rw [e] at hk
      injection hk with hk
      have := (h.y.row hk').2.1
      omega
theorem XYS.stepy (h : XYS w gx gy rx ry most LX LY wr) (hy : PY wr' gy gy ry' most L') (hm : Moved wr ry ry') (hf : Fr (PS gy ry) wr wr') : XYS w gx gy rx ry' most LX L' wr' := by
  refine ⟨h.x.fr hf (fun s => h.apart _ (.inl rfl) s) (fun k hk s => h.apart _ (.inr hk) s) h.y.nobytes, hy, ?_, h.wx, h.wy, fun k hk hk' => ?_⟩
  · exact h.b.trans ((hf.below (B := gy) (Nat.le_of_lt h.y.lt) (h.y.ps_ge (Nat.le_refl _))).mono h.wy)
  · rcases hm with e | ⟨j, e, hj⟩
    · exact h.ne k hk (e.symm.trans hk')
    · rw [e] at hk'
      injection hk' with hk'
      have := (h.x.row hk).2.1
      omega
/-- A block of another type is not turned. -/
theorem XYS.asidex (h : XYS w gx gy rx ry most LX LY wr) {g : Nat} {t : TypeId} {cs : Array Value} (hb : Blk wr g t cs) (h1 : t ≠ 52) (h2 : t ≠ 37) : ¬ PS gx rx g := by
  rintro (e | e)
  · subst e
    obtain ⟨_, A, c, ps, h3, _⟩ := h.x
    exact Blk.ne_ h3 hb (Ne.symm h1) rfl
  · obtain ⟨_, _, _, cs', h3⟩ := h.x.row e
    exact Blk.ne_ h3 hb (Ne.symm h2) rfl
theorem XYS.asidey (h : XYS w gx gy rx ry most LX LY wr) {g : Nat} {t : TypeId} {cs : Array Value} (hb : Blk wr g t cs) (h1 : t ≠ 46) (h2 : t ≠ 37) : ¬ PS gy ry g := by
  rintro (e | e)
  · subst e
    obtain ⟨_, A, c, ps, h3, _⟩ := h.y
    exact Blk.ne_ h3 hb (Ne.symm h1) rfl
  · obtain ⟨_, _, _, cs', h3⟩ := h.y.row e
    exact Blk.ne_ h3 hb (Ne.symm h2) rfl
/-- .. nor is a block that was made behind. -/
theorem XYS.newx (h : XYS w gx gy rx ry most LX LY wr) : ¬ PS gx rx wr.heap.size := fun e => Nat.lt_irrefl _ (h.x.ps_lt' _ e)
theorem XYS.newy (h : XYS w gx gy rx ry most LX LY wr) : ¬ PS gy ry wr.heap.size := fun e => Nat.lt_irrefl _ (h.y.ps_lt _ e)
/-- The reference's list's length lies in its cell. -/
theorem XYS.len (h : XYS w gx gy rx ry most LX LY wr) : ∃ A c, wr.cell? ⟨gy, 1, none⟩ = some (.slice A LY.length c) := by
  obtain ⟨_, A, c, ps, hb, _, _, hL⟩ := h.y
  refine ⟨A, c, ?_⟩
  have := hb.cell 1
  simp at this
  rw [this, ← hL]
  simp
end

/-- What holds at every round's head. -/
def PlRel (w : World) (gx gy n : Nat) (most : Int) (i : Value) (wr : World) : Prop :=
  ∃ (k : Nat) (L : List Pk) (rx ry : Option Nat), k ≤ n ∧ i = .int .i64 k ∧ XYS w gx gy rx ry most L L wr
/-- What holds behind the kinds. -/
def PlMid (w : World) (gx gy ob : Nat) (most kd np : Int) (S : Value) (ok : Value) (wr : World) : Prop :=
  ok = .bool true ∧ ∃ (L : List Pk) (rx ry : Option Nat), XYS w gx gy rx ry most L L wr ∧ Blk wr ob 34 #[.int .i64 kd, .int .i64 np, S]
end Go.Proofs.Ytoiopoebjchjeaa
