/-
  ring.Of by contract: the rings of nets, and what is left.
-/
import Derived.Test.YthoniedmeeahgaaOfA
namespace Go.Proofs.Ythoniedmeeahgaa
open Go.RowKit Go.Maps

theorem item_row : (Try.prog.info? 35).map (fun i => (i.zero, i.size, i.bytes)) = some (some (.agg #[.int .i64 0, .int .i64 0, .int .i64 0]), 3, 24) := by kernel_rfl
theorem net_row : (Try.prog.info? 38).map (fun i => (i.zero, i.size, i.bytes)) = some (some (.agg #[.int .i64 0, .int .i64 0, .int .i64 0, .int .i64 0, .int .i64 0]), 5, 40) := by kernel_rfl
theorem reads_item (w : World) (t : TypeId) (it : ItD) : Reads (w.alloc (.cells #[.int .i64 it.l, .int .i64 it.a, .int .i64 it.n] t)) (w.heap.size + 1) 3 (some ⟨w.heap.size, 0, none⟩) 1 (itCells [it]) := by
  refine ⟨rfl, fun _ => ⟨_, rfl, by simp, fun j u hu => ?_⟩⟩
  have hb := Blk.new w t #[.int .i64 it.l, .int .i64 it.a, .int .i64 it.n]
  rw [Addr.add_lit, Nat.zero_add, hb.cell, ← hu]
  simp [itCells]
/-- While the web is made. -/
structure R1At (w : World) (xs : List NetD) (k : Nat) (wr : World) (S : EdD → Option HdD) : Prop where
  map : MapW wr w.heap.size k S
  rows : RowsOwn wr w.heap.size S (TPick (xs.take k))
  off : ∀ K hd, S K = some hd → hd.b ≠ w.heap.size
  bel : Below w.heap.size w wr
def R1Rel (w : World) (xs : List NetD) (i : Value) (wr : World) : Prop := ∃ k S, k ≤ xs.length ∧ i = .int .i64 k ∧ R1At w xs k wr S
theorem R1At.start (w : World) (xs : List NetD) : R1At w xs 0 (w.alloc (.map #[] 0)) (fun _ => none) :=
  ⟨MapW.made w, ⟨fun K => (by simp [TPick, pick]), fun K hd e => (by cases e), fun K K' hd hd' e => (by cases e)⟩, fun K hd e => (by cases e), (Below.refl _ _).alloc (Nat.le_refl _) _⟩
theorem R1At.put {w wr W w1 w2 w3 : World} {xs : List NetD} {k g c : Nat} {S S' : EdD → Option HdD} (h : R1At w xs k wr S) (hk : k < xs.length) (hW : Below wr.heap.size wr W) (h1 : W.grownBy w1 (some w.heap.size)) {K : EdD} (hK : K = ⟨xs[k].f, xs[k].t⟩) {it : ItD} (hit : it = ⟨xs[k].l, xs[k].a, xs[k].n⟩)
    (ho2 : w2.ownsRow w.heap.size 35 3 (.slice (some ⟨g, 0, none⟩) ((TPick (xs.take k) K).length + 1) c) ((TPick (xs.take k) K).length + 1) (itCells (TPick (xs.take k) K) ++ itCells [it])) (h2 : w1.grownBy w2 (hdV (S K)).ownBlock)
    (hat : some g = (hdV (S K)).ownBlock ∨ some g = some w1.heap.size) (hM3 : MapW w3 w.heap.size (k + 1) S') (h3 : w2.grownBy w3 (some w.heap.size)) (hS : S' K = some ⟨g, (TPick (xs.take k) K).length + 1, c⟩) (hS' : ∀ K', K' ≠ K → S' K' = S K') : R1At w xs (k + 1) w3 S' := by
  have hbs := h.map.lt
  have ho2' : w2.ownsRow w.heap.size 35 3 (.slice (some ⟨g, 0, none⟩) ((TPick (xs.take k) K).length + 1) c) ((TPick (xs.take k) K).length + 1) (itCells (TPick (xs.take k) K ++ [it])) := by
    have : itCells (TPick (xs.take k) K ++ [it]) = itCells (TPick (xs.take k) K) ++ itCells [it] := by simp [itCells]
    rw [this]
    exact ho2
  obtain ⟨q1, q2⟩ := (h.rows.below hW).put h.off (Nat.lt_of_lt_of_le hbs hW.size) h1 ho2' h2 hat h3 hS hS'
  have hT : TPick (xs.take (k + 1)) = fun K' => if K' = K then TPick (xs.take k) K ++ [it] else TPick (xs.take k) K' := by
    rw [TPick_succ hk]
    funext K'
    rw [← hK, ← hit]
    by_cases e : K' = K
    · subst e
      rfl
    · rw [if_neg e, if_neg e]
  have e1 := h.bel.trans (hW.mono h.bel.size)
  have e2 := e1.grown h1 e1.size (fun j hj => by injection hj with hj; omega)
  have e3 := e2.grown h2 e2.size (fun j hj => by
    obtain ⟨A, c', hv, ho⟩ := (h.rows.below hW).head K
    rw [hv] at hj
    exact (own_block ho hj).1)
  have e4 := e3.grown h3 e3.size (fun j hj => by injection hj with hj; omega)
  exact ⟨hM3, by rw [hT]; exact q1, q2, e4⟩
/-- While the rows are sorted, in whatever order. -/
noncomputable def mixT (left : Lit → Bool) (xs : List NetD) : EdD → List ItD := fun K => if left K.lit = true then TPick xs K else TOf xs K
theorem TOf_nil {xs : List NetD} (hwf : ∀ x ∈ xs, wf64 x.f ∧ wf64 x.t) {K : EdD} (hK : ¬ K.wf) : TOf xs K = [] := by
  by_cases h : TOf xs K = []
  · exact h
  · exact absurd (TOf_wf hwf h) hK
theorem TPick_nil {xs : List NetD} (hm : MayX xs) {K : EdD} (hK : ¬ K.wf) : TPick xs K = [] := by
  by_cases h : TPick xs K = []
  · exact h
  · exact absurd (TPick_ne hm h) hK
structure R2At (w : World) (xs : List NetD) (S : EdD → Option HdD) (D : DataW Unit) (rb : Nat) (wr : World) (left : Lit → Bool) (cnt : Nat) : Prop where
  ran : wr.ranges Try.prog 47 hdR w.heap.size rb xs.length D left cnt
  rows : RowsOwn wr w.heap.size S (mixT left xs)
  bel : Below w.heap.size w wr
theorem R2At.start {w wr w0 : World} {xs : List NetD} {S : EdD → Option HdD} {D : DataW Unit} (hD : ∀ k : EdD, k.wf → Maps.has D k.lit = (S k).isSome ∧ D.atKey k.lit .nil = hdE (S k)) (hrow : RowsOwn wr w.heap.size S (TPick xs)) (hm : MayX xs) (hb : Below w.heap.size w wr)
    (hrg : w0.ranges Try.prog 47 hdR w.heap.size wr.heap.size xs.length D (Maps.has D) (Maps.size D)) (hg : wr.grownBy w0 none) : R2At w xs S D wr.heap.size w0 (Maps.has D) (Maps.size D) := by
  have hb0 : Below wr.heap.size wr w0 := ⟨hg.os, hg.tape, hg.output, hg.size, fun i hi => hg.block i hi (by simp)⟩
  have hT : mixT (Maps.has D) xs = TPick xs := by
    funext K
    unfold mixT
    by_cases hK : K.wf
    · by_cases hh : Maps.has D K.lit = true
      · rw [if_pos hh]
      · rw [if_neg hh]
        have h1 : ¬ (S K).isSome = true := by rw [← (hD K hK).1]; exact hh
        have h2 : TPick xs K = [] := by
          by_cases h : TPick xs K = []
          · exact h
          · exact absurd ((hrow.some_ K).2 h) h1
        rw [h2, ← TOf_sort]
        simp only
        rw [h2]
        rfl
    · rw [TPick_nil hm hK, TOf_nil hm.wf hK]
      simp
  exact ⟨hrg, by rw [hT]; exact hrow.below hb0, hb.trans (hb0.mono hb.size)⟩
theorem R2At.key {D : DataW Unit} {S : EdD → Option HdD} (hD : ∀ k : EdD, k.wf → Maps.has D k.lit = (S k).isSome ∧ D.atKey k.lit .nil = hdE (S k)) {x : EdD} (hx : x.wf) {hd0 : Option HdD} {yd : DataW Unit} {yp : List MemPlace} (hv : hdR (hdV hd0) = some (yd, yp)) (hat : ∀ zd, D.atKey x.lit zd = yd) : ∃ hd, S x = some hd ∧ hd0 = some hd := by
  obtain ⟨h1, h2⟩ := hD x hx
  rw [hdR_of] at hv
  injection hv with hv
  injection hv with hv _
  rw [hat, ← hv] at h2
  have e := hdE_inj h2
  have hh := Maps.has_true_of_atKey (D := D) (k := x.lit) hat
  rw [h1] at hh
  cases e' : S x with
  | none => rw [e'] at hh; cases hh
  | some hd => exact ⟨hd, rfl, by rw [e, e']⟩
set_option maxRecDepth 100000 in
theorem R2At.step {w wr w2 w3 : World} {xs : List NetD} {S : EdD → Option HdD} {D : DataW Unit} {rb cnt cnt2 : Nat} {left : Lit → Bool} {x : EdD} {hd : HdD} {ys : List ItD} (_h : R2At w xs S D rb wr left cnt) (hm : MayX xs) (hx : x.wf) (hS : S x = some hd) (hlk : left x.lit = true) (hrow : RowsOwn w2 w.heap.size S (mixT left xs)) (hb : Below w.heap.size w w2)
    (hrg : w2.ranges Try.prog 47 hdR w.heap.size rb xs.length D (fun z => left z && !z.sameKey x.lit) cnt2) (hp : ys.Perm (TPick xs x)) (hs : ys.Pairwise (fun x y => lessI y x = false)) (ho : w3.ownsRow w.heap.size 35 3 hd.v ys.length (itCells ys)) (hg : w2.grownBy w3 (some hd.b)) (hb1 : hd.b ≠ rb) (hb2 : w.heap.size ≤ hd.b) :
    R2At w xs S D rb w3 (fun z => left z && !z.sameKey x.lit) cnt2 := by
  have hy : ys = TOf xs x := by
    rw [← TOf_sort]
    exact sort_one (pick_apart hm _ _) hp hs
  have hT : mixT (fun z => left z && !z.sameKey x.lit) xs = fun K => if K = x then ys else mixT left xs K := by
    funext K
    unfold mixT
    by_cases e : K = x
    · subst e
      simp [WideAt.sameKey_self (keyLaw.key (lit_of hx)), hy]
    · rw [if_neg e]
      by_cases hK : K.wf
      · have : K.lit.sameKey x.lit = false := by
          cases h : K.lit.sameKey x.lit
          · rfl
          · exact absurd (lit_inj hK hx (WideAt.sameKey_eq h)) e
        simp [this]
      · rw [TPick_nil hm hK, TOf_nil hm.wf hK]
        simp
  have hl : ys.length = (mixT left xs x).length := by
    unfold mixT
    rw [if_pos hlk]
    exact hp.length_eq
  have hnb := (hrow.blk hS).1
  have hbb : hd.b ≠ w.heap.size := by
    intro e
    obtain ⟨_, _, cs, hc⟩ := hrow.blk hS
    obtain ⟨es, clock, hb', _⟩ := hrg.owns
    unfold Blk at hc
    rw [e, hb'] at hc
    cases hc
  refine ⟨hrg.kept hg (fun e => hbb (by injection e with e; exact e.symm)) (fun e => hb1 (by injection e with e; exact e.symm)), by rw [hT]; exact hrow.sorted hS hl ho hg, hb.grown hg hb.size (fun j hj => by injection hj with hj; omega)⟩
/-- While circles are taken. -/
structure R4At (w : World) (xs : List NetD) (rs : List RingD) (X : List NetD) (kk : Nat) (v : Value) (wr : World) (cs : List (Value × Value)) : Prop where
  cl : ClAt xs rs X kk
  own : wr.ownsRow w.heap.size 32 2 v cs.length (rCells cs)
  one : ∀ u ∈ rCells cs, u.oneCell' = true
  ri : RingsIn wr cs rs
  web : WebAt wr w.heap.size xs.length (TOf X)
  bel : Below w.heap.size w wr
  le : cs.length + kk ≤ xs.length + xs.length
theorem Fr.offb {w wr w' : World} (h : Below w.heap.size w wr) (hf : Fr (OffB w.heap.size) wr w') : Below w.heap.size w w' :=
  h.trans (hf.below h.size (fun i hi => by have : i = w.heap.size := hi; omega))
theorem R4At.start {w wr w4 : World} {xs : List NetD} {v : Value} {cs : List (Value × Value)} (hb : Below w.heap.size w wr) (ho : w4.ownsRow wr.heap.size 32 2 v cs.length (rCells cs)) (hone : ∀ u ∈ rCells cs, u.oneCell' = true) (hri : RingsIn w4 cs (twos xs (pairsOf (allOf xs))).1)
    (hweb : WebAt w4 w.heap.size xs.length (TOf (twos xs (pairsOf (allOf xs))).2)) (hf : Fr (OffB w.heap.size) wr w4) (hc : cs.length ≤ xs.length) : R4At w xs (twos xs (pairsOf (allOf xs))).1 (twos xs (pairsOf (allOf xs))).2 (twos xs (pairsOf (allOf xs))).2.length v w4 cs := by
  have hcl := ClAt.start xs
  have hl : (twos xs (pairsOf (allOf xs))).2.length ≤ xs.length := by
    have := hcl.whole
    unfold Whole at this
    rw [this]
    exact List.length_filter_le _ _
  exact ⟨hcl, own_mono ho hb.size, hone, hri, hweb, Fr.offb hb hf, by omega⟩
theorem reads_two1 (w : World) (o : Obj) (t : TypeId) (x y : Value) : Reads ((w.alloc o).alloc (.cells #[x, y] t)) (w.heap.size + 1 + 1) 2 (some ⟨w.heap.size + 1, 0, none⟩) 1 [x, y] := by
  have h := reads_two (w.alloc o) t x y
  have e : (w.alloc o).heap.size = w.heap.size + 1 := by simp
  rw [e] at h
  exact h
section
variable {w wr w5 : World} {xs X : List NetD} {rs : List RingD} {kk : Nat} {v : Value} {cs : List (Value × Value)}
theorem R4At.own5 (h : R4At w xs rs X kk v wr cs) (hf : Fr (OffB w.heap.size) wr w5) : w5.ownsRow w.heap.size 32 2 v cs.length (rCells cs) := own_fr h.own hf (fun i hi e => by
  have : i = w.heap.size := e
  subst this
  exact h.web.ne_own h.own hi)
theorem R4At.more {w6 : World} {v6 vp vl : Value} {o1 o2 : Obj} (h : R4At w xs rs X kk v wr cs) (hf : firstC X (allOf xs) (allOf xs) ≠ []) (hra : RingAt w5 vp vl (ringOf X (firstC X (allOf xs) (allOf xs)))) (hw5 : WebAt w5 w.heap.size xs.length (TOf (cutAll X (firstC X (allOf xs) (allOf xs))))) (hf5 : Fr (OffB w.heap.size) wr w5)
    (ho6 : w6.ownsRow w.heap.size 32 2 v6 (cs.length + 1) (rCells cs ++ [vp, vl])) (hg6 : ((w5.alloc o1).alloc o2).grownBy w6 v.ownBlock) :
    R4At w xs (rs ++ [ringOf X (firstC X (allOf xs) (allOf xs))]) (cutAll X (firstC X (allOf xs) (allOf xs))) (cutAll X (firstC X (allOf xs) (allOf xs))).length v6 w6 (cs ++ [(vp, vl)]) := by
  obtain ⟨hn, hlt⟩ := h.cl.next hf
  have ho5 := h.own5 hf5
  have hb5 := Fr.offb h.bel hf5
  have ha1 : Below w5.heap.size w5 (w5.alloc o1) := (Below.refl _ _).alloc (Nat.le_refl _) _
  have hba := hb5.trans (ha1.mono hb5.size)
  have hba2 := hba.alloc hba.size o2
  obtain ⟨k1, k2, _, _⟩ := ring_grown (own_below ho5 ha1) (hw5.below ha1) (Fr.of_below hba) hg6
  have hle := h.le
  obtain ⟨A, c, A', c', rfl, rfl⟩ := hra.shape
  refine ⟨hn, by rw [List.length_append, rCells_snoc]; exact ho6, fun u hu => ?_, ?_, k2, hba2.grown hg6 hba2.size (fun j hj => (own_block ho5 hj).1), by simp; omega⟩
  · rw [rCells_snoc] at hu
    rcases List.mem_append.1 hu with hu | hu
    · exact h.one u hu
    · simp at hu
      rcases hu with rfl | rfl <;> rfl
  · exact (((h.ri.kept (TK3.off h.web hf5)).snoc hra).kept (TK3.of_below ha1)).kept k1
end
theorem reads_net1 (w : World) (o : Obj) (t : TypeId) (x : NetD) : Reads ((w.alloc o).alloc (.cells #[.int .i64 x.f, .int .i64 x.t, .int .i64 x.l, .int .i64 x.a, .int .i64 x.n] t)) (w.heap.size + 1 + 1) 5 (some ⟨w.heap.size + 1, 0, none⟩) 1 (encN x) := by
  refine ⟨rfl, fun _ => ⟨_, rfl, by simp, fun j u hu => ?_⟩⟩
  have hb := Blk.new (w.alloc o) t #[.int .i64 x.f, .int .i64 x.t, .int .i64 x.l, .int .i64 x.a, .int .i64 x.n]
  have e : (w.alloc o).heap.size = w.heap.size + 1 := by simp
  rw [e] at hb
  rw [Addr.add_lit, Nat.zero_add, hb.cell, ← hu]
  simp [encN]
/-- While what is left is gathered. -/
structure R5At (w : World) (xs X : List NetD) (rs : List RingD) (cs : List (Value × Value)) (vR : Value) (j : Nat) (vL : Value) (wr : World) : Prop where
  own : wr.ownsRow w.heap.size 32 2 vR cs.length (rCells cs)
  ri : RingsIn wr cs rs
  web : WebAt wr w.heap.size xs.length (TOf X)
  left : wr.ownsRow w.heap.size 38 5 vL ((xs.take j).filter fun x => hasE X x.f x.t).length (nCells ((xs.take j).filter fun x => hasE X x.f x.t))
  bel : Below w.heap.size w wr
theorem R5At.start {w wr w5 : World} {xs X : List NetD} {rs : List RingD} {kk : Nat} {v : Value} {cs : List (Value × Value)} (h : R4At w xs rs X kk v wr cs) (hw5 : WebAt w5 w.heap.size xs.length (TOf X)) (hf5 : Fr (OffB w.heap.size) wr w5) (_hov : ringsOf xs = (rs, X)) : R5At w xs X rs cs v 0 (.slice none 0 0) w5 :=
  ⟨h.own5 hf5, h.ri.kept (TK3.off h.web hf5), hw5, World.ownsRow_nil _ _ _ _, Fr.offb h.bel hf5⟩
section
variable {w wr w' : World} {xs X : List NetD} {rs : List RingD} {cs : List (Value × Value)} {vR vL : Value} {j : Nat}
theorem R5At.below (h : R5At w xs X rs cs vR j vL wr) (hb : Below wr.heap.size wr w') : R5At w xs X rs cs vR j vL w' :=
  ⟨own_below h.own hb, h.ri.kept (TK3.of_below hb), h.web.below hb, own_below h.left hb, h.bel.trans (hb.mono h.bel.size)⟩
theorem take_filter {p : NetD → Bool} (hj : j < xs.length) : (xs.take (j + 1)).filter p = if p xs[j] = true then (xs.take j).filter p ++ [xs[j]] else (xs.take j).filter p := by
  rw [List.take_succ_eq_append_getElem hj, List.filter_append]
  by_cases h : p xs[j] = true <;> simp [h]
theorem R5At.skip (h : R5At w xs X rs cs vR j vL wr) (hj : j < xs.length) (hn : hasE X xs[j].f xs[j].t = false) : R5At w xs X rs cs vR (j + 1) vL wr := by
  have e : (xs.take (j + 1)).filter (fun x => hasE X x.f x.t) = (xs.take j).filter (fun x => hasE X x.f x.t) := by
    rw [take_filter hj, if_neg (by rw [hn]; simp)]
  exact ⟨h.own, h.ri, h.web, by rw [e]; exact h.left, h.bel⟩
theorem R5At.more {w6 : World} {v6 : Value} {o : Obj} (h : R5At w xs X rs cs vR j vL wr) (hj : j < xs.length) (hy : hasE X xs[j].f xs[j].t = true)
    (ho6 : w6.ownsRow w.heap.size 38 5 v6 (((xs.take j).filter fun x => hasE X x.f x.t).length + 1) (nCells ((xs.take j).filter fun x => hasE X x.f x.t) ++ encN xs[j])) (hg6 : (wr.alloc o).grownBy w6 vL.ownBlock) : R5At w xs X rs cs vR (j + 1) v6 w6 := by
  have hb : Below wr.heap.size wr (wr.alloc o) := (Below.refl _ _).alloc (Nat.le_refl _) _
  have h' := h.below hb
  have e : (xs.take (j + 1)).filter (fun x => hasE X x.f x.t) = (xs.take j).filter (fun x => hasE X x.f x.t) ++ [xs[j]] := by
    rw [take_filter hj, if_pos hy]
  have hne : ∀ (t : TypeId), 38 ≠ t → ∀ i, vL.ownBlock = some i → ∀ cur fr, (wr.alloc o).heap[i]? ≠ some (.cells cur t fr) := fun t ht i hi => by
    obtain ⟨_, _, c, hc⟩ := own_block h'.left hi
    exact TK.ne_blk hc ht
  refine ⟨own_fr h'.own (Fr.of_grown (S := fun i => vL.ownBlock = some i) hg6 (fun i hi => hi)) (fun i hi e2 => ?_), h'.ri.kept ⟨TK.of_grown hg6 (hne _ (by decide)), TK.of_grown hg6 (hne _ (by decide)), TK.of_grown hg6 (hne _ (by decide))⟩, h'.web.kept hg6 (fun e2 => h'.web.ne_own h'.left e2.symm) (TK.of_grown hg6 (hne _ (by decide))), by rw [e, nCells_snoc, List.length_append]; exact ho6, h'.bel.grown hg6 h'.bel.size (fun i hi => (own_block h'.left hi).1)⟩
  obtain ⟨_, _, c, hc⟩ := own_block h'.own hi
  exact own_blk_ne h'.left hc (by decide) e2
end
def OfP (w : World) (xs : List NetD) (e : Ending) (w' : World) : Prop :=
  ∃ v1 v2 cs, e = .returned (.tuple #[v1, v2]) ∧ w'.ownsRow w.heap.size 32 2 v1 cs.length (rCells cs) ∧ RingsIn w' cs (ringsOf xs).1 ∧ w'.ownsRow w.heap.size 38 5 v2 (ringsOf xs).2.length (nCells (ringsOf xs).2) ∧ Below w.heap.size w w'
set_option maxRecDepth 100000 in
set_option maxHeartbeats 8000000 in
theorem of_any (t : NsD) (w : World) (ht : t.ok w) (hmay : MayX t.xs) : Calls Try.prog 10 #[.slice t.A t.n t.c] w (OfP w t.xs) := by
  obtain ⟨i0, hi0, hz0, hz1, hz2⟩ := info_parts item_row
  obtain ⟨ir, hir, hr0, hr1, hr2⟩ := info_parts ringR_row
  obtain ⟨ix, hix, hx0, hx1, hx2⟩ := info_parts net_row
  have hform := ht.form
  obtain ⟨A, n, c, xs⟩ := t
  obtain ⟨hl, hread⟩ := ht
  simp only at hl hform hmay ⊢
  obtain rfl := hl
  have hlen := hmay.len
  have Hf := Lib.hid hform
  have HM := Lib.hid hmay
  have hmm := @run_makeMap Try.prog
  clear hform hread hmay
  go_enter Try.func10, Try.ntmps10
  go_wp2_with fail
  clear hmm
  go_loopw [19] (fun i wr => R1Rel w xs i wr) (fun i _ => xs.length - (intOf i).toNat)
  case atStart => exact ⟨0, _, Nat.zero_le _, rfl, R1At.start w xs⟩
  case round =>
    obtain ⟨k, S, hk, rfl, hR⟩ := hrel
    have hk0 : (0 : Int) ≤ (k : Int) := Int.natCast_nonneg _
    by_cases hlt : k < xs.length
    · obtain ⟨b, o, rfl, hbo, hcell⟩ := Hf.out (by omega) -- ARM web
      have hki : (k : Int) < (xs.length : Int) := by omega
      have ek : IntKind.i64.wrap ((k : Int) + 1) = (k : Int) + 1 := by rw [IntKind.wrap_i64]; omega
      have hsz := Nat.lt_of_lt_of_le hbo hR.bel.size
      have c0 := (hR.bel.cell (p := ⟨b, o + k * 5, none⟩) hbo).trans (hcell k hlt 0 _ rfl)
      have c1 := (hR.bel.cell (p := ⟨b, o + k * 5 + 1, none⟩) hbo).trans (hcell k hlt 1 _ rfl)
      have c2 := (hR.bel.cell (p := ⟨b, o + k * 5 + 2, none⟩) hbo).trans (hcell k hlt 2 _ rfl)
      have c3 := (hR.bel.cell (p := ⟨b, o + k * 5 + 3, none⟩) hbo).trans (hcell k hlt 3 _ rfl)
      have c4 := (hR.bel.cell (p := ⟨b, o + k * 5 + 4, none⟩) hbo).trans (hcell k hlt 4 _ rfl)
      have hx := HM.out.each xs[k] (List.getElem_mem hlt)
      have hw := HM.out.wf xs[k] (List.getElem_mem hlt)
      obtain ⟨x, hxe⟩ : ∃ x, x = xs[k] := ⟨_, rfl⟩
      rw [← hxe] at c0 c1 c2 c3 c4 hx hw
      have d1 : (x.f == x.t) = false := by simpa using hx.ne
      have d2 : decide (x.f = x.t) = false := decide_eq_false hx.ne
      have d3 : (x.f != x.t) = true := by simpa using hx.ne
      have HX := Lib.hid hxe
      have HR := Lib.hid hR
      have HC := Lib.hid hcell
      obtain ⟨W, hW⟩ : ∃ W, W = ((wr.alloc (.cells #[.int .i64 x.f, .int .i64 x.t, .int .i64 x.l, .int .i64 x.a, .int .i64 x.n] 38)).alloc (.cells #[.int .i64 x.f, .int .i64 x.t] 47)).alloc (.cells #[.int .i64 x.l, .int .i64 x.a, .int .i64 x.n] 35) := ⟨_, rfl⟩
      have hbW : Below wr.heap.size wr W := by rw [hW]; exact (((Below.refl _ _).alloc (Nat.le_refl _) _).alloc (by simp) _).alloc (by simp; omega) _
      obtain ⟨st, w1, hrun, hg1, hsz1, hback⟩ := (hR.map.below hbW).entry (k := ⟨x.f, x.t⟩) hw (by unfold maxLen; omega)
      obtain ⟨Ah, ch, hv, ho⟩ := (hR.rows.below hbW).head ⟨x.f, x.t⟩
      have HVE := Lib.hid hv
      rw [hv] at hrun
      unfold EdD.v at hrun
      have hown1 : w1.ownsRow w.heap.size 35 3 (.slice Ah (TPick (xs.take k) ⟨x.f, x.t⟩).length ch) (TPick (xs.take k) ⟨x.f, x.t⟩).length (itCells (TPick (xs.take k) ⟨x.f, x.t⟩)) := own_fr ho (Fr.of_grown (S := fun i => i = w.heap.size) hg1 (fun i hi => by injection hi with hi; exact hi.symm)) (fun i hi e => by
        rw [← hv] at hi
        cases e' : S ⟨x.f, x.t⟩ with
        | none => rw [e'] at hi; simp [hdV, Value.ownBlock] at hi
        | some z =>
          rw [e'] at hi
          have : z.b = i := by simpa [hdV, hd_block] using hi
          exact HR.out.off _ z e' (by rw [this]; exact e))
      have hrd : Reads w1 (wr.heap.size + 1 + 1 + 1) 3 (some ⟨wr.heap.size + 1 + 1, 0, none⟩) 1 (itCells [⟨x.l, x.a, x.n⟩]) := by
        have h1 := reads_item ((wr.alloc (.cells #[.int .i64 x.f, .int .i64 x.t, .int .i64 x.l, .int .i64 x.a, .int .i64 x.n] 38)).alloc (.cells #[.int .i64 x.f, .int .i64 x.t] 47)) 35 ⟨x.l, x.a, x.n⟩
        rw [← hW] at h1
        have e : ((wr.alloc (.cells #[.int .i64 x.f, .int .i64 x.t, .int .i64 x.l, .int .i64 x.a, .int .i64 x.n] 38)).alloc (.cells #[.int .i64 x.f, .int .i64 x.t] 47)).heap.size = wr.heap.size + 1 + 1 := by simp
        rw [e] at h1
        refine h1.fr (by rw [hW]; simp) (Fr.of_grown (S := fun i => i = w.heap.size) hg1 (fun i hi => by injection hi with hi; exact hi.symm)) (fun _ ad had e2 => ?_)
        injection had with had
        rw [← had] at e2
        have := HR.out.map.lt
        simp only at e2
        omega
      have hW1 : w.heap.size ≤ w1.heap.size := Nat.le_trans HR.out.bel.size (Nat.le_trans hbW.size hg1.size)
      have hl8 : (TPick (xs.take k) ⟨x.f, x.t⟩).length ≤ 8 := pick_len (HM.out.take k) _ _
      have HO1 := Lib.hid hown1
      have HRD := Lib.hid hrd
      have HBW := Lib.hid hbW
      have HG1 := Lib.hid hg1
      have HBK := Lib.hid hback
      have HWW := Lib.hid hW
      rw [hW] at hrun
      clear hxe hR hcell hx hown1 hrd hbW hg1 hback ho hv hsz1 hW
      go_wp2_with (at_builtin; refine wpList_append_any _ rfl (.tmp 35) (.tmp 43) _ rfl w.heap.size 35 i0 _ 3 24 Try.underlying33 hi0 hz0 hz1 hz2 rfl (by omega) (.slice Ah (TPick (xs.take k) ⟨x.f, x.t⟩).length ch) (TPick (xs.take k) ⟨x.f, x.t⟩).length (itCells (TPick (xs.take k) ⟨x.f, x.t⟩)) rfl HO1.out (wr.heap.size + 1 + 1 + 1) (some ⟨wr.heap.size + 1 + 1, 0, none⟩) 1 1 (itCells [⟨x.l, x.a, x.n⟩]) rfl HRD.out (itCells_one _) (by simp only [maxLen]; omega) (by omega) hW1 ?_; intro v2 w2 hown2 hg2 hat2; obtain ⟨g2, cap2, hv2, hgb2, hgl2⟩ := hown2.form (by omega); subst hv2; obtain ⟨w3, hrun3, hM3, hg3⟩ := HBK.out w2 ⟨g2, (TPick (xs.take k) ⟨x.f, x.t⟩).length + 1, cap2⟩ (fun K => if K = ⟨x.f, x.t⟩ then some ⟨g2, (TPick (xs.take k) ⟨x.f, x.t⟩).length + 1, cap2⟩ else S K) (hg2.block _ (Nat.lt_of_lt_of_le HR.out.map.lt (Nat.le_trans HBW.out.size HG1.out.size)) (fun e => by rw [← HVE.out] at e; cases e' : S ⟨x.f, x.t⟩ with | none => (rw [e'] at e; simp [hdV, Value.ownBlock] at e) | some z => (rw [e'] at e; have h0 : w.heap.size = z.b := (by simpa [hdV, hd_block] using e); exact HR.out.off _ z e' h0.symm))) (by simp) (fun k' h => by simp [h]); unfold HdD.v goInt at hrun3)
      exact ⟨⟨k + 1, _, hlt, rfl, R1At.put (it := ⟨x.l, x.a, x.n⟩) HR.out hlt HBW.out HG1.out (by rw [HX.out]) (by rw [HX.out]) hown2 (by rw [HVE.out]; exact hg2) (by rw [HVE.out]; exact hat2) hM3 hg3 (by simp) (fun K' h => by simp [h])⟩, by simp only [intOf]; omega⟩
    · obtain rfl : k = xs.length := by omega -- ARM rest
      have hki : ¬ ((xs.length : Int) < (xs.length : Int)) := by omega
      obtain ⟨D, hD1, hD2⟩ := hR.map
      have hrow := hR.rows
      have hoff := hR.off
      have hbel := hR.bel
      rw [List.take_length] at hrow
      have hbl : ∀ K hd, S K = some hd → w.heap.size ≤ hd.b ∧ hd.b < wr.heap.size := fun K hd e => ⟨(hrow.blk e).1, (hrow.blk e).2.1⟩
      have HD2 := Lib.hid hD2
      have HROW := Lib.hid hrow
      have HOFF := Lib.hid hoff
      have HBEL := Lib.hid hbel
      have HBL := Lib.hid hbl
      have hws := hR.bel.size
      have hwb := hR.map.lt
      clear hR hD2 hrow hoff hbel hbl
      go_wp2_with (at_range; refine wpList_range_own _ rfl _ 45 rfl 47 33 keyLaw Try.underlying45 hdR w.heap.size xs.length D rfl hD1 ?_; intro w0 hrg0 hg0 hs0)
      have R0 := Lib.hid (R2At.start HD2.out HROW.out HM.out HBEL.out hrg0 hg0)
      have hwr := hwb
      clear hrg0 hg0 hs0 hD1 hwb
      generalize wr.heap.size = rb at R0 hws hwr HBL ⊢
      go_loopw [9] (fun _ wr => ∃ left cnt, R2At w xs S D rb wr left cnt) (fun _ wr => wr.rangeLeft w.heap.size rb)
      case atStart => exact ⟨_, _, R0.out⟩
      case round =>
        obtain ⟨left, cnt, hrel⟩ := hrel
        have hran := hrel.ran
        have hle := hran.left_eq
        have RR := Lib.hid hrel
        clear hrel R0
        go_wp2_with (at_next; go_must (refine wpList_next_ranges _ rfl _ rfl 47 keyLaw hdR EdD.v hdV (fun key kl hk => by obtain ⟨x, hx, _⟩ := key_shape hk; exact ⟨x, hx⟩) (fun v y hv => by obtain ⟨x, hx, _⟩ := hdR_inv hv; exact ⟨x, hx⟩) w.heap.size rb xs.length D left cnt rfl hran ?_ ?_))
        · intro hc0 hl0 -- ARM done
          have hweb : WebAt wr w.heap.size xs.length (TOf xs) := by
            have hT : mixT left xs = TOf xs := by
              funext K
              unfold mixT
              rw [hl0]
              simp
            have hr := RR.out.rows
            rw [hT] at hr
            exact hr.at_ ⟨D, hran.owns, HD2.out⟩ (fun K h => TOf_wf HM.out.wf h) (by omega)
          have HWE := Lib.hid hweb
          have HBW := Lib.hid RR.out.bel
          have HWF := Lib.hid HM.out.wf
          clear hran hle hc0 hl0 hweb RR
          go_wp2_with fail
          refine (pairs_any w.heap.size xs.length xs _ HWE.out HWF.out).mono ?_
          rintro e w4 ⟨v4, cs4, rfl, ho4, hone4, hri4, hweb4, hfr4, hcl4⟩
          have HC0 := Lib.hid (R4At.start HBW.out ho4 hone4 hri4 hweb4 hfr4 hcl4)
          clear ho4 hone4 hri4 hweb4 hfr4 hcl4 HWE HBW
          go_wp2_with fail
          obtain ⟨k0, hk0'⟩ : ∃ k0, k0 = (twos xs (pairsOf (allOf xs))).2.length := ⟨_, rfl⟩
          rw [← hk0'] at HC0
          clear hk0'
          go_loopg [10] k0 (fun kk v wr => ∃ X cs rs, R4At w xs rs X kk v wr cs)
          case atStart => exact ⟨_, _, _, HC0.out⟩
          case round =>
            obtain ⟨X, cs, rs, hR4⟩ := hrel
            clear HC0
            obtain ⟨Av, cv, rfl⟩ := own_shape hR4.own
            have hXwf : ∀ x ∈ X, wf64 x.f ∧ wf64 x.t := fun x hx => HWF.out x (hR4.cl.sub x hx)
            have hnx := next_any w.heap.size xs.length X (allOf xs) wr hR4.web hXwf (allOf_ok xs).1 (edges_sub hR4.cl.sub) (fun q hq => wf_small (by have := HM.out.all q hq; omega)) (by have := HM.out.all_len; omega)
            have HNX := Lib.hid hnx
            have hcs := hR4.le
            have HR4 := Lib.hid hR4
            clear hR4 hnx hXwf
            go_wp2_with fail
            refine HNX.out.mono ?_
            rintro e w5 ⟨vp, vl, ok, rfl, h0, h1, hfr5⟩
            by_cases hf : firstC X (allOf xs) (allOf xs) = []
            · obtain ⟨rfl, rfl, rfl, hw5⟩ := h0 hf -- ARM over
              have hov := HR4.out.cl.over hf
              have HW := Lib.hid HR4.out.cl.whole
              have HR5 := Lib.hid (R5At.start HR4.out hw5 hfr5 hov)
              have HOV := Lib.hid hov
              clear h0 h1 hf hw5 hfr5 hov HNX HR4
              go_wp2_with fail
              have HR6 := Lib.hid (HR5.out.below ((Below.refl _ _).alloc (Nat.le_refl _) (.cells #[.slice none 0 0, .slice none 0 0] 32)))
              clear HR5
              go_loopw [13, 71] (fun vL i wr => ∃ j, j ≤ xs.length ∧ i = .int .i64 (j : Nat) ∧ R5At w xs X rs cs (.slice Av cs.length cv) j vL wr) (fun _ i _ => xs.length - (intOf i).toNat)
              case atStart => exact ⟨0, Nat.zero_le _, rfl, HR6.out⟩
              case round =>
                obtain ⟨j, hj, rfl, hR5⟩ := hrel
                clear HR6
                have hj0 : (0 : Int) ≤ (j : Int) := Int.natCast_nonneg _
                obtain ⟨AL, cL, rfl⟩ := own_shape hR5.left
                by_cases hltj : j < xs.length
                · obtain ⟨b, o, rfl, hbo, hcell⟩ := Hf.out (by omega) -- ARM lround
                  have hji : (j : Int) < (xs.length : Int) := by omega
                  have ej : IntKind.i64.wrap ((j : Int) + 1) = (j : Int) + 1 := by rw [IntKind.wrap_i64]; omega
                  have hsz := Nat.lt_of_lt_of_le hbo hR5.bel.size
                  have c0 := (hR5.bel.cell (p := ⟨b, o + j * 5, none⟩) hbo).trans (hcell j hltj 0 _ rfl)
                  have c1 := (hR5.bel.cell (p := ⟨b, o + j * 5 + 1, none⟩) hbo).trans (hcell j hltj 1 _ rfl)
                  have c2 := (hR5.bel.cell (p := ⟨b, o + j * 5 + 2, none⟩) hbo).trans (hcell j hltj 2 _ rfl)
                  have c3 := (hR5.bel.cell (p := ⟨b, o + j * 5 + 3, none⟩) hbo).trans (hcell j hltj 3 _ rfl)
                  have c4 := (hR5.bel.cell (p := ⟨b, o + j * 5 + 4, none⟩) hbo).trans (hcell j hltj 4 _ rfl)
                  have hx := (HM.out.each xs[j] (List.getElem_mem hltj)).ne
                  have hw := HWF.out xs[j] (List.getElem_mem hltj)
                  obtain ⟨x, hxe⟩ : ∃ x, x = xs[j] := ⟨_, rfl⟩
                  rw [← hxe] at c0 c1 c2 c3 c4 hx hw
                  have d1 : (x.f == x.t) = false := by simpa using hx
                  have d2 : decide (x.f = x.t) = false := decide_eq_false hx
                  have hbW : Below wr.heap.size wr (wr.alloc (.cells #[.int .i64 x.f, .int .i64 x.t, .int .i64 x.l, .int .i64 x.a, .int .i64 x.n] 38)) := (Below.refl _ _).alloc (Nat.le_refl _) _
                  obtain ⟨A', m', c', _, ⟨hl1, hl2⟩, hlook⟩ := (hR5.below hbW).web.look (k := ⟨x.f, x.t⟩) hw
                  have l1 := hlook _ (fun S h => h)
                  unfold EdD.v at l1
                  have hfl : ((xs.take j).filter fun x => hasE X x.f x.t).length ≤ 100 := Nat.le_trans (List.length_filter_le _ _) (by rw [List.length_take]; omega)
                  have HR5 := Lib.hid (hR5.below hbW)
                  have HX := Lib.hid hxe
                  clear hR5 hxe hlook hcell hx hw hbW
                  by_cases hin : hasE X x.f x.t = true
                  · obtain ⟨a', rfl⟩ := hl2 (TOf_ne.2 hin) -- ARM keep
                    have n1 := neq_some a' m' c'
                    have HIN := Lib.hid hin
                    clear hl1 hl2 hin
                    go_wp2_with (at_builtin; refine wpList_append_any _ rfl (.tmp 90) (.tmp 92) _ rfl w.heap.size 38 ix _ 5 40 Try.underlying22 hix hx0 hx1 hx2 rfl (by omega) (.slice AL ((xs.take j).filter fun x => hasE X x.f x.t).length cL) ((xs.take j).filter fun x => hasE X x.f x.t).length (nCells ((xs.take j).filter fun x => hasE X x.f x.t)) rfl (own_below HR5.out.left ((Below.refl _ _).alloc (Nat.le_refl _) (.cells #[.int .i64 x.f, .int .i64 x.t, .int .i64 x.l, .int .i64 x.a, .int .i64 x.n] 38))) (wr.heap.size + 1 + 1) (some ⟨wr.heap.size + 1, 0, none⟩) 1 1 (encN x) rfl (reads_net1 wr _ _ x) (by simp [encN, Value.oneCell']) (by simp only [maxLen]; omega) (by omega) (by have := HR5.out.bel.size; simp at this ⊢; omega) ?_; intro v6 w6 hown6 hg6 hat6)
                    exact ⟨⟨j + 1, hltj, rfl, HR5.out.more hltj (by rw [← HX.out]; exact HIN.out) (by rw [← HX.out]; exact hown6) hg6⟩, by simp only [intOf]; omega⟩
                  · have hin' : hasE X x.f x.t = false := by simpa using hin -- ARM drop
                    obtain ⟨rfl, rfl, rfl⟩ := hl1 (items_nil hin')
                    have n1 := neq_none
                    clear hl1 hl2 hin
                    go_wp2_with fail
                    exact ⟨⟨j + 1, hltj, rfl, HR5.out.skip hltj (by rw [← HX.out]; exact hin')⟩, by simp only [intOf]; omega⟩
                · obtain rfl : j = xs.length := by omega -- ARM lend
                  have hji : ¬ ((xs.length : Int) < (xs.length : Int)) := by omega
                  have HR5 := Lib.hid hR5
                  clear hR5
                  go_wp2_with fail
                  go_ret2
                  have hl := HR5.out.left
                  have hW : (xs.filter fun x => hasE X x.f x.t) = X := HW.out.symm
                  rw [List.take_length, hW] at hl
                  refine ⟨_, .slice AL (xs.filter fun x => hasE X x.f x.t).length cL, cs, rfl, HR5.out.own, ?_, ?_, HR5.out.bel⟩
                  · rw [HOV.out]
                    exact HR5.out.ri
                  · rw [HOV.out, hW]
                    exact hl
            · obtain ⟨rfl, hra, hw5⟩ := h1 hf -- ARM circ
              obtain ⟨A1, l1, A2, l2, rfl, rfl⟩ := hra.shape
              have ho5 := HR4.out.own5 hfr5
              have HO5 := Lib.hid ho5
              have HS := Lib.hid (HR4.out.cl.next hf)
              have hb5 := Fr.offb HR4.out.bel hfr5
              have hsz5 := hb5.size
              have hstep := fun v6 w6 o1 o2 => HR4.out.more hf hra hw5 hfr5 (v6 := v6) (w6 := w6) (o1 := o1) (o2 := o2)
              have HST := Lib.hid hstep
              generalize (ringOf X (firstC X (allOf xs) (allOf xs))).ps.length = n1 at *
              generalize (ringOf X (firstC X (allOf xs) (allOf xs))).legs.length = n2 at *
              have HB5 := Lib.hid hb5
              clear h0 h1 hra hw5 hfr5 hstep ho5 hb5 HNX hf
              go_wp2_with (at_builtin; refine wpList_append_any _ rfl (.tmp 65) (.tmp 67) _ rfl w.heap.size 32 ir _ 2 48 Try.underlying25 hir hr0 hr1 hr2 rfl (by omega) (.slice Av cs.length cv) cs.length (rCells cs) rfl (own_below HO5.out (((Below.refl _ _).alloc (Nat.le_refl _) (.cells #[.slice A1 n1 l1, .slice A2 n2 l2] 32)).alloc (by simp) (.cells #[.slice A1 n1 l1, .slice A2 n2 l2] 32))) (w5.heap.size + 1 + 1) (some ⟨w5.heap.size + 1, 0, none⟩) 1 1 [.slice A1 n1 l1, .slice A2 n2 l2] rfl (reads_two1 w5 _ _ _ _) (by simp [Value.oneCell']) (by simp only [maxLen]; omega) (by omega) (by simp; omega) ?_; intro v6 w6 hown6 hg6 hat6)
              go_roundg (cutAll X (firstC X (allOf xs) (allOf xs))).length
              case measure => exact HS.out.2
              case rel => exact ⟨_, _, _, HST.out v6 w6 _ _ hown6 hg6⟩
        · intro x hd0 kl yd yp w2 cnt2 hkey hlk hv hat hrg2 hlt2 hg2 hs2 hen -- ARM more
          obtain ⟨x', ex, hxw⟩ := key_shape hkey
          obtain rfl : x = x' := key_inj ex
          have hkl : kl = x.lit := by
            have := lit_of hxw
            rw [hkey] at this
            injection this
          subst hkl
          obtain ⟨hd, hS, rfl⟩ := R2At.key HD2.out hxw hv hat
          have hbk := HBL.out x hd hS
          have hgf : Fr (fun i => i = rb) wr w2 := Fr.of_grown hg2 (fun i hi => by injection hi with hi; exact hi.symm)
          have hrows2 := RR.out.rows.fr hgf (fun K hd' e h => by have := (HBL.out K hd' e).2; omega)
          have ho2 := hrows2.own x hd hS
          have hmx : mixT left xs x = TPick xs x := by unfold mixT; rw [if_pos hlk]
          rw [hmx] at ho2
          have hne : TPick xs x ≠ [] := by rw [← hmx]; exact (RR.out.rows.some_ x).1 (by rw [hS]; rfl)
          have hl8 : (TPick xs x).length ≤ 8 := pick_len HM.out _ _
          have hso := sortI_any w.heap.size hd.v (TPick xs x) w2 ho2 (List.length_pos_iff.2 hne) (by omega)
          have hbel2 : Below w.heap.size w w2 := RR.out.bel.grown hg2 RR.out.bel.size (fun j hj => by injection hj with hj; omega)
          have HSO := Lib.hid hso
          have HR2 := Lib.hid hrows2
          have HB2 := Lib.hid hbel2
          have HRG := Lib.hid hrg2
          have HS := Lib.hid hS
          have HLK := Lib.hid hlk
          have HLT := Lib.hid hlt2
          unfold EdD.v hdV HdD.v at hen
          unfold HdD.v at HSO
          clear hkey ex hv hat hrg2 hlt2 hg2 hs2 hS hgf hrows2 ho2 hso hbel2 hran hlk hmx
          go_wp2_with fail
          refine HSO.out.mono ?_
          rintro e w3 ⟨rfl, ys, hp, hsd, ho3, hg3⟩
          have RN := R2At.step RR.out HM.out hxw HS.out HLK.out HR2.out HB2.out HRG.out hp hsd ho3 hg3 (by omega) (by omega)
          clear hp hsd ho3 hg3
          go_wp2_with fail
          go_roundw
          case rel => exact ⟨_, _, RN⟩
          case measure =>
            rw [RN.ran.left_eq, hle]
            exact HLT.out
end Go.Proofs.Ythoniedmeeahgaa
