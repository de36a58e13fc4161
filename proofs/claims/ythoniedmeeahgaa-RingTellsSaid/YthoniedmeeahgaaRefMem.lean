/-
  What the reference's Rings holds in memory: the parties, the rings so far, the nets still there.
-/
import Derived.Test.YthoniedmeeahgaaRefRingsLaw
import Derived.Test.YthoniedmeeahgaaRefCirc
namespace Go.Proofs.Ythoniedmeeahgaa
open Go.RowKit Go.Maps

/-- Nets that are there: in an old block, or in one of nets. -/
def NetsV (B : Nat) (w : World) (v : Value) (xs : List NetD) : Prop :=
  ∃ A c, v = .slice A xs.length c ∧ (0 < xs.length → ∃ b o, A = some ⟨b, o, none⟩ ∧ NetAt w xs b o ∧ (b < B ∨ ∃ cur fr, w.heap[b]? = some (.cells cur 38 fr)))
section
variable {B : Nat} {w w' : World} {v : Value} {xs : List NetD}
theorem NetsV.kept (h : NetsV B w v xs) (hb : Below B w w') (ht : TK 38 w w') : NetsV B w' v xs := by
  obtain ⟨A, c, rfl, hn⟩ := h
  refine ⟨A, c, rfl, fun hpos => ?_⟩
  obtain ⟨b, o, e, hN, hT⟩ := hn hpos
  have heq : w'.heap[b]? = w.heap[b]? := by
    rcases hT with hlt | ⟨cur, fr, hi⟩
    · exact hb.block b hlt
    · exact ht b cur fr hi
  refine ⟨b, o, e, ⟨Nat.lt_of_lt_of_le hN.1 hb.size, fun k hk => ?_⟩, ?_⟩
  · obtain ⟨h0, h1, h2, h3, h4⟩ := hN.2 k hk
    exact ⟨(World.cell?_of_block (a := ⟨b, _, none⟩) heq).trans h0, (World.cell?_of_block (a := ⟨b, _, none⟩) heq).trans h1, (World.cell?_of_block (a := ⟨b, _, none⟩) heq).trans h2, (World.cell?_of_block (a := ⟨b, _, none⟩) heq).trans h3, (World.cell?_of_block (a := ⟨b, _, none⟩) heq).trans h4⟩
  · rcases hT with hlt | ⟨cur, fr, hi⟩
    · exact .inl hlt
    · exact .inr ⟨cur, fr, heq.trans hi⟩
theorem NetsV.below (h : NetsV B w v xs) (hB : B ≤ w.heap.size) (hb : Below w.heap.size w w') : NetsV B w' v xs := h.kept (hb.mono hB) (TK.of_below hb)
theorem NetsV.own {base : Nat} (h : w.ownsRow base 38 5 v xs.length (nCells xs)) : NetsV B w v xs := by
  obtain ⟨A, c, rfl, hn⟩ := left_row h
  refine ⟨A, c, rfl, fun hpos => ?_⟩
  obtain ⟨b, rfl, hN⟩ := hn hpos
  obtain ⟨_, _, cs, hc⟩ := own_block h (k := b) rfl
  exact ⟨b, 0, rfl, hN, .inr ⟨cs, (0, 0), hc⟩⟩
theorem NetsV.at_ (h : NetsV B w v xs) : ∃ A c, v = .slice A xs.length c ∧ (0 < xs.length → ∃ b o, A = some ⟨b, o, none⟩ ∧ NetAt w xs b o) := by
  obtain ⟨A, c, e, hn⟩ := h
  refine ⟨A, c, e, fun hpos => ?_⟩
  obtain ⟨b, o, e, hN, _⟩ := hn hpos
  exact ⟨b, o, e, hN⟩
end
structure RfM (w : World) (vA vO vL : Value) (all : List Int) (rs : List RingD) (cur : List NetD) (cs : List (Value × Value)) (wr : World) : Prop where
  all_ : PartsAt wr vA all
  own : wr.ownsRow w.heap.size 32 2 vO cs.length (rCells cs)
  ri : RingsIn wr cs rs
  nets : NetsV w.heap.size wr vL cur
  bel : Below w.heap.size w wr
section
variable {w wr w' w4 : World} {vA vO vL v4 vp vl : Value} {all : List Int} {rs : List RingD} {cur : List NetD} {cs : List (Value × Value)} {r : RingD} {o : Obj}
theorem RfM.below (h : RfM w vA vO vL all rs cur cs wr) (hb : Below wr.heap.size wr w') : RfM w vA vO vL all rs cur cs w' :=
  ⟨RdT.kept h.all_ (TK.of_below hb), own_below h.own hb, h.ri.kept (TK3.of_below hb), h.nets.below h.bel.size hb, h.bel.trans (hb.mono h.bel.size)⟩
theorem RfM.turn {cur' : List NetD} {vL' : Value} (h : RfM w vA vO vL all rs cur cs wr) (hn : NetsV w.heap.size wr vL' cur') : RfM w vA vO vL' all rs cur' cs wr := ⟨h.all_, h.own, h.ri, hn, h.bel⟩
theorem RfM.push (h : RfM w vA vO vL all rs cur cs wr) (hr : RingAt wr vp vl r) (ho4 : w4.ownsRow w.heap.size 32 2 v4 (cs.length + 1) (rCells cs ++ [vp, vl])) (hg : (wr.alloc o).grownBy w4 vO.ownBlock) : RfM w vA v4 vL all (rs ++ [r]) cur (cs ++ [(vp, vl)]) w4 := by
  have hb : Below wr.heap.size wr (wr.alloc o) := (Below.refl _ _).alloc (Nat.le_refl _) _
  have h' := h.below hb
  have hne : ∀ (e : TypeId), 32 ≠ e → ∀ j, vO.ownBlock = some j → ∀ cur fr, (wr.alloc o).heap[j]? ≠ some (.cells cur e fr) := fun e he j hj => by
    obtain ⟨_, _, cs, hc⟩ := own_block h'.own hj
    exact TK.ne_blk hc he
  have ht3 : TK3 (wr.alloc o) w4 := ⟨TK.of_grown hg (hne _ (by decide)), TK.of_grown hg (hne _ (by decide)), TK.of_grown hg (hne _ (by decide))⟩
  have hb4 : Below w.heap.size w w4 := h'.bel.grown hg h'.bel.size (fun j hj => (own_block h'.own hj).1)
  have hbb : Below w.heap.size (wr.alloc o) w4 := (Below.refl _ _).grown hg h'.bel.size (fun j hj => (own_block h'.own hj).1)
  refine ⟨RdT.kept h'.all_ ht3.p, ?_, (h'.ri.snoc (hr.kept (TK3.of_below hb))).kept ht3, h'.nets.kept hbb (TK.of_grown hg (hne _ (by decide))), hb4⟩
  have e : rCells (cs ++ [(vp, vl)]) = rCells cs ++ [vp, vl] := by simp [rCells]
  rw [List.length_append, e]
  exact ho4
end
theorem own_two (w : World) (base : Nat) (t : TypeId) (x y : Value) (hb : base ≤ w.heap.size) : (w.alloc (.cells #[x, y] t)).ownsRow base t 1 (.slice (some ⟨w.heap.size, 0, none⟩) 2 2) 2 [x, y] :=
  ⟨rfl, .inr ⟨w.heap.size, 2, #[x, y], rfl, hb, heap_alloc_new w _, Nat.le_refl _, by unfold maxLen; omega, rfl, rfl⟩⟩
theorem reads_twoI (w : World) (t : TypeId) (x y : Value) : Reads (w.alloc (.cells #[x, y] t)) (w.heap.size + 1) 1 (some ⟨w.heap.size, 0, none⟩) 2 [x, y] := by
  refine ⟨rfl, fun _ => ⟨_, rfl, by simp, fun j u hu => ?_⟩⟩
  have hb := Blk.new w t #[x, y]
  rw [Addr.add_lit, Nat.zero_add, hb.cell, ← hu]
  simp
theorem legs_of {w : World} {base : Nat} {v : Value} {vs : List Value} {ls : List (List ItD)} (h : w.ownsRow base 33 1 v ls.length vs) (hl : ∀ (k : Nat) (u : Value), vs[k]? = some u → ∀ (is : List ItD), ls[k]? = some is → LegAt w u is) : LegsAt w v ls := ⟨vs, RdT.own h, hl⟩
theorem lg_step {w1 wr w5 w6 : World} {gr m : Nat} {vp v5 : Value} {vs : List Value} {Al A6 : Option Addr} {cl c6 : Nat} {o : Obj} {f : Nat → List ItD} (K5 : Blk w5 gr 32 #[vp, .slice Al m cl]) (O5 : w5.ownsRow gr 33 1 (.slice Al m cl) m vs)
    (hown6 : w6.ownsRow gr 33 1 (.slice A6 (m + 1) c6) (m + 1) (vs ++ [v5])) (hg6 : (w5.alloc o).grownBy w6 (Value.slice Al m cl).ownBlock) (B5 : Below gr w1 w5) (hlg : ∀ (k : Nat) (u : Value), vs[k]? = some u → LegAt wr u (f k)) (hb5 : Below wr.heap.size wr w5) (V5 : LegAt w5 v5 (f m)) :
    Blk (w6.setCell ⟨gr, 1, none⟩ (.slice A6 (m + 1) c6)) gr 32 #[vp, .slice A6 (m + 1) c6] ∧ (w6.setCell ⟨gr, 1, none⟩ (.slice A6 (m + 1) c6)).ownsRow gr 33 1 (.slice A6 (m + 1) c6) (m + 1) (vs ++ [v5]) ∧ (∀ (k : Nat) (u : Value), (vs ++ [v5])[k]? = some u → LegAt (w6.setCell ⟨gr, 1, none⟩ (.slice A6 (m + 1) c6)) u (f k)) ∧ Below gr w1 (w6.setCell ⟨gr, 1, none⟩ (.slice A6 (m + 1) c6)) := by
  have hvl : vs.length = m := by simpa using O5.1
  have hb : Below w5.heap.size w5 (w5.alloc o) := (Below.refl _ _).alloc (Nat.le_refl _) _
  have ng : some gr ≠ (Value.slice Al m cl).ownBlock := fun e => own_blk_ne O5 K5 (by decide) e.symm
  have K6 := (K5.alloc o).grown hg6 ng
  have hf : Fr (fun i => i = gr) w6 (w6.setCell ⟨gr, 1, none⟩ (.slice A6 (m + 1) c6)) := (Fr.refl (fun i => i = gr) w6).set _ _ _ (fun _ => rfl)
  have tk6 : TK 35 w6 (w6.setCell ⟨gr, 1, none⟩ (.slice A6 (m + 1) c6)) := TK.of_fr hf (fun i hi => by subst hi; exact TK.ne_blk K6 (by decide))
  have tk5 : TK 35 w5 w6 := (TK.of_below hb).trans (TK.of_grown hg6 (fun j hj => by
    obtain ⟨_, _, cs, hc⟩ := own_block (own_below O5 hb) hj
    exact TK.ne_blk hc (by decide)))
  have hgb : gr ≤ w5.heap.size := Nat.le_of_lt K5.lt
  refine ⟨?_, ?_, fun k u hu => ?_, ?_⟩
  · have := K6.set_ 1 (.slice A6 (m + 1) c6)
    simpa using this
  · refine own_fr hown6 hf (fun k hk e => ?_)
    subst e
    exact own_blk_ne hown6 K6 (by decide) hk
  · by_cases hk : k < vs.length
    · rw [List.getElem?_append_left hk] at hu
      exact (((hlg k u hu).kept (TK.of_below hb5)).kept tk5).kept tk6
    · have hk2 : k = vs.length := by
        have := (List.getElem?_eq_some_iff.1 hu).1
        rw [List.length_append] at this
        simp at this
        omega
      subst hk2
      rw [List.getElem?_append_right (Nat.le_refl _), Nat.sub_self] at hu
      injection hu with hu
      subst hu
      rw [hvl]
      exact (V5.kept tk5).kept tk6
  · have h1 := B5.alloc hgb o
    have h2 := h1.grown hg6 (Nat.le_trans hgb hb.size) (fun j hj => (own_block O5 hj).1)
    exact h2.setCell (p := ⟨gr, 1, none⟩) (Nat.le_refl _) _
end Go.Proofs.Ythoniedmeeahgaa
