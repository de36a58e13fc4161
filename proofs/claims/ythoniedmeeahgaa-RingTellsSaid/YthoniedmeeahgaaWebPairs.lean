/-
  (web).pairs by contract: the rings of two; their edges are gone.
-/
import Derived.Test.YthoniedmeeahgaaWebLaw
namespace Go.Proofs.Ythoniedmeeahgaa
open Go.RowKit Go.Maps

theorem neq_some (a : Addr) (m c : Nat) (w : World) : (binOp BinOp.neq 33 (.slice (some a) m c) (.slice none 0 0)).run Try.prog w = .ok (.bool true) w := by kernel_rfl
theorem neq_none (w : World) : (binOp BinOp.neq 33 (.slice none 0 0) (.slice none 0 0)).run Try.prog w = .ok (.bool false) w := by kernel_rfl
theorem own_ed {w : World} {base n c : Nat} {A : Option Addr} {es : List EdD} (h : w.ownsRow base 47 2 (.slice A n c) n (eCells es)) (hn : 0 < n) (hl : es.length = n) : ∃ g, A = some ⟨g, 0, none⟩ ∧ g < w.heap.size ∧ ∀ k (hk : k < es.length), w.cell? ⟨g, k * 2, none⟩ = some (.int .i64 es[k].f) ∧ w.cell? ⟨g, k * 2 + 1, none⟩ = some (.int .i64 es[k].t) := by
  obtain ⟨g, cap, hv, _, hlt⟩ := h.form hn
  injection hv with hA _ _
  subst hA
  refine ⟨g, rfl, hlt, fun k hk => ?_⟩
  have h1 := h.cells (g := g) rfl (k * 2 + 0) _ (eCells_at es k hk 0 (by omega))
  have h2 := h.cells (g := g) rfl (k * 2 + 1) _ (eCells_at es k hk 1 (by omega))
  rw [Addr.add_lit, Nat.zero_add] at h1 h2
  exact ⟨h1, h2⟩
theorem ringR_row : (Try.prog.info? 32).map (fun i => (i.zero, i.size, i.bytes)) = some (some (.agg #[.slice none 0 0, .slice none 0 0]), 2, 48) := by kernel_rfl
theorem rCells_snoc (cs : List (Value × Value)) (c : Value × Value) : rCells (cs ++ [c]) = rCells cs ++ [c.1, c.2] := by simp [rCells]
theorem reads_two (w : World) (t : TypeId) (x y : Value) : Reads (w.alloc (.cells #[x, y] t)) (w.heap.size + 1) 2 (some ⟨w.heap.size, 0, none⟩) 1 [x, y] := by
  refine ⟨rfl, fun _ => ⟨_, rfl, by simp, fun j u hu => ?_⟩⟩
  have hb := Blk.new w t #[x, y]
  rw [Addr.add_lit, Nat.zero_add, hb.cell, ← hu]
  simp
theorem parts_two (w : World) (a b : Int) : PartsAt (w.alloc (.cells #[.int .i64 a, .int .i64 b] 3)) (.slice (some ⟨w.heap.size, 0, none⟩) 2 2) [a, b] := by
  refine ⟨some ⟨w.heap.size, 0, none⟩, 2, rfl, by simp, by omega, rfl, fun _ => ⟨w.heap.size, 0, #[.int .i64 a, .int .i64 b], (0, 0), rfl, Blk.new w _ _, fun j u hu => ?_⟩⟩
  have hb := Blk.new w 3 #[.int .i64 a, .int .i64 b]
  rw [Nat.zero_add, hb.cell, ← hu]
  simp [iCells]
theorem RdT.shape {w : World} {e : TypeId} {size n : Nat} {v : Value} {ys : List Value} (h : RdT w e size v n ys) : ∃ A c, v = .slice A n c := by
  obtain ⟨A, c, rfl, _⟩ := h
  exact ⟨A, c, rfl⟩
theorem RingAt.shape {w : World} {vp vl : Value} {r : RingD} (h : RingAt w vp vl r) : ∃ A c A' c', vp = .slice A r.ps.length c ∧ vl = .slice A' r.legs.length c' := by
  obtain ⟨A, c, e⟩ := RdT.shape h.1
  obtain ⟨vs, h1, _⟩ := h.2
  obtain ⟨A', c', e'⟩ := h1.shape
  exact ⟨A, c, A', c', e, e'⟩
/-- The ring of two, on two new blocks. -/
theorem ring_two (b n : Nat) (X : List NetD) (K : EdD) (w : World) (hw : WebAt w b n (TOf X)) (hk : K.wf) (hft : K.f < K.t) :
    Calls Try.prog 36 #[.map (some b), .slice (some ⟨w.heap.size + 1, 0, none⟩) 2 2] ((w.alloc (.cells #[.int .i64 K.f, .int .i64 K.t] 47)).alloc (.cells #[.int .i64 K.f, .int .i64 K.t] 3)) fun e w' =>
      ∃ A c A' c', e = .returned (.agg #[.slice A 2 c, .slice A' 2 c']) ∧ RingAt w' (.slice A 2 c) (.slice A' 2 c') ⟨[K.f, K.t], [items X K.f K.t, items X K.t K.f]⟩ ∧ WebAt w' b n (TOf (cut (cut X K.f K.t) K.t K.f)) ∧ Fr (OffB b) w w' := by
  have hb1 : Below w.heap.size w ((w.alloc (.cells #[.int .i64 K.f, .int .i64 K.t] 47)).alloc (.cells #[.int .i64 K.f, .int .i64 K.t] 3)) := ((Below.refl _ _).alloc (Nat.le_refl _) _).alloc (by simp) _
  have hp := parts_two (w.alloc (.cells #[.int .i64 K.f, .int .i64 K.t] 47)) K.f K.t
  have hsz : (w.alloc (.cells #[.int .i64 K.f, .int .i64 K.t] 47)).heap.size = w.heap.size + 1 := by simp
  rw [hsz] at hp
  refine (ring_any b n (TOf X) [K.f, K.t] _ _ (hw.below hb1) hp (by simp; omega) (by simp) (by simp) (by
    intro p hp
    simp at hp
    rcases hp with rfl | rfl
    · exact hk.1
    · exact hk.2)).mono ?_
  rintro e w' ⟨vl, rfl, hl, hweb, hfr⟩
  have hw1 := hw.below hb1
  obtain ⟨vs, hv1, hv2⟩ := hl
  obtain ⟨A', c', rfl⟩ := hv1.shape
  refine ⟨_, _, A', c', rfl, ⟨RdT.kept hp (TK.off hw1 hfr), ?_⟩, ?_, (Fr.of_below hb1).trans hfr⟩
  · have := legs_two X K.f K.t
    rw [← this]
    exact ⟨vs, hv1, hv2⟩
  · rw [← cut_two]
    exact hweb
/-- The rings that were found so far. -/
structure PsAt (w : World) (b n : Nat) (xs : List NetD) (es : List EdD) (vE : Value) (m : Nat) (v : Value) (wr : World) (cs : List (Value × Value)) : Prop where
  own : wr.ownsRow w.heap.size 32 2 v cs.length (rCells cs)
  one : ∀ u ∈ rCells cs, u.oneCell' = true
  ring : RingsIn wr cs (twos xs (ePairs (es.take m))).1
  web : WebAt wr b n (TOf (twos xs (ePairs (es.take m))).2)
  fr : Fr (OffB b) w wr
  ed : wr.ownsRow w.heap.size 47 2 vE es.length (eCells es)
  le : cs.length ≤ m
def PsRel (w : World) (b n : Nat) (xs : List NetD) (es : List EdD) (vE : Value) (l i : Value) (wr : World) : Prop :=
  ∃ (m : Nat) (cs : List (Value × Value)), m ≤ es.length ∧ i = .int .i64 m ∧ PsAt w b n xs es vE m l wr cs
section
variable {w wr w' : World} {b n m : Nat} {xs : List NetD} {es : List EdD} {vE v : Value} {cs : List (Value × Value)}
/-- New blocks alone. -/
theorem PsAt.below (h : PsAt w b n xs es vE m v wr cs) (hb : Below wr.heap.size wr w') : PsAt w b n xs es vE m v w' cs :=
  ⟨own_below h.own hb, h.one, h.ring.kept (TK3.of_below hb), h.web.below hb, h.fr.new (T := fun _ => False) (Fr.of_below hb) (fun _ _ h => h.elim), own_below h.ed hb, h.le⟩
theorem PsAt.skip (h : PsAt w b n xs es vE m v wr cs) (he : twos xs (ePairs (es.take (m + 1))) = twos xs (ePairs (es.take m))) : PsAt w b n xs es vE (m + 1) v wr cs :=
  ⟨h.own, h.one, by rw [he]; exact h.ring, by rw [he]; exact h.web, h.fr, h.ed, by have := h.le; omega⟩
end
/-- A row of rings grows. -/
theorem ring_grown {w w3 w4 : World} {b n k : Nat} {T : EdD → List ItD} {v : Value} {ys : List Value} {o : Obj} (ho : w3.ownsRow w.heap.size 32 2 v k ys) (hw : WebAt w3 b n T) (hf : Fr (OffB b) w w3) (hg : (w3.alloc o).grownBy w4 v.ownBlock) :
    TK3 w3 w4 ∧ WebAt w4 b n T ∧ Fr (OffB b) w w4 ∧ ∀ (base k' : Nat) (v' : Value) (ys' : List Value), w3.ownsRow base 47 2 v' k' ys' → w4.ownsRow base 47 2 v' k' ys' := by
  have hb : Below w3.heap.size w3 (w3.alloc o) := (Below.refl _ _).alloc (Nat.le_refl _) _
  have ho' := own_below ho hb
  have hw' := hw.below hb
  have hne : ∀ (e : TypeId), 32 ≠ e → ∀ j, v.ownBlock = some j → ∀ cur fr, (w3.alloc o).heap[j]? ≠ some (.cells cur e fr) := fun e he j hj => by
    obtain ⟨_, _, cs, hc⟩ := own_block ho' hj
    exact TK.ne_blk hc he
  refine ⟨(TK3.of_below hb).trans ⟨TK.of_grown hg (hne _ (by decide)), TK.of_grown hg (hne _ (by decide)), TK.of_grown hg (hne _ (by decide))⟩, hw'.kept hg (fun e => hw'.ne_own ho' e.symm) (TK.of_grown hg (hne _ (by decide))), hf.new (T := fun i => v.ownBlock = some i) ((Fr.of_below hb).trans (Fr.of_grown hg (fun i hi => hi))) (fun i hi h => by have := (own_block ho h).1; omega), fun base k' v' ys' h => own_fr (own_below h hb) (Fr.of_grown (S := fun i => v.ownBlock = some i) hg (fun i hi => hi)) (fun i hi h' => ?_)⟩
  obtain ⟨_, _, cs, hc⟩ := own_block (own_below h hb) hi
  exact own_blk_ne ho' hc (by decide) h'
theorem PsAt.more {w wr w3 w4 : World} {b n m : Nat} {xs : List NetD} {es : List EdD} {vE v v4 vp vl : Value} {cs : List (Value × Value)} {r : RingD} {X : List NetD} {o : Obj} (h : PsAt w b n xs es vE m v wr cs)
    (hT : twos xs (ePairs (es.take (m + 1))) = ((twos xs (ePairs (es.take m))).1 ++ [r], X)) (hr : RingAt w3 vp vl r) (hw : WebAt w3 b n (TOf X)) (hf : Fr (OffB b) wr w3)
    (ho4 : w4.ownsRow w.heap.size 32 2 v4 (cs.length + 1) (rCells cs ++ [vp, vl])) (hg : (w3.alloc o).grownBy w4 v.ownBlock) : PsAt w b n xs es vE (m + 1) v4 w4 (cs ++ [(vp, vl)]) := by
  have hoff : ∀ (base e size k : Nat) (v : Value) (ys : List Value), wr.ownsRow base e size v k ys → ∀ i, v.ownBlock = some i → ¬ OffB b i := fun base e size k v ys h' i hi hb => by
    have : i = b := hb
    subst this
    exact h.web.ne_own h' hi
  have ho3 := own_fr h.own hf (hoff _ _ _ _ _ _ h.own)
  have he3 := own_fr h.ed hf (hoff _ _ _ _ _ _ h.ed)
  obtain ⟨k1, k2, k3, k4⟩ := ring_grown ho3 hw (h.fr.trans hf) hg
  obtain ⟨A, c, A', c', rfl, rfl⟩ := hr.shape
  have hle := h.le
  refine ⟨by rw [List.length_append, rCells_snoc]; exact ho4, fun u hu => ?_, ?_, by rw [hT]; exact k2, k3, k4 _ _ _ _ he3, by simp; omega⟩
  · rw [rCells_snoc] at hu
    rcases List.mem_append.1 hu with hu | hu
    · exact h.one u hu
    · simp at hu
      rcases hu with rfl | rfl <;> rfl
  · rw [hT]
    exact ((h.ring.kept (TK3.off h.web hf)).snoc hr).kept k1
set_option maxRecDepth 100000 in
set_option maxHeartbeats 4000000 in
theorem pairs_any (b n : Nat) (xs : List NetD) (w : World) (hw : WebAt w b n (TOf xs)) (hwf : ∀ x ∈ xs, wf64 x.f ∧ wf64 x.t) :
    Calls Try.prog 19 #[.map (some b)] w fun e w' => ∃ v cs, e = .returned v ∧ w'.ownsRow w.heap.size 32 2 v cs.length (rCells cs) ∧ (∀ u ∈ rCells cs, u.oneCell' = true) ∧ RingsIn w' cs (twos xs (pairsOf (allOf xs))).1 ∧ WebAt w' b n (TOf (twos xs (pairsOf (allOf xs))).2) ∧ Fr (OffB b) w w' ∧ cs.length ≤ n := by
  obtain ⟨i0, hi0, hz0, hz1, hz2⟩ := info_parts ringR_row
  have hn := hw.small
  have HWF := Lib.hid hwf
  clear hwf
  go_enter Try.func19, Try.ntmps19
  go_wp2_with fail
  refine (sorted_any b n (TOf xs) w hw).mono ?_
  rintro e w1 ⟨vE, es, rfl, hE, hel, hoE, hb1⟩
  obtain ⟨AE, cE, rfl⟩ := own_shape hoE
  have HE := Lib.hid hE
  have HW := Lib.hid hw
  clear hE hw
  have HP0 := Lib.hid (show PsAt w b n xs es (.slice AE es.length cE) 0 (.slice none 0 0) w1 [] from ⟨World.ownsRow_nil _ _ _ _, by simp [rCells], ⟨rfl, by simp⟩, HW.out.below hb1, Fr.of_below hb1, hoE, Nat.le_refl _⟩)
  clear hb1 hoE
  go_wp2_with fail
  go_loopw [3, 9] (fun l i wr => PsRel w b n xs es (.slice AE es.length cE) l i wr) (fun _ i _ => es.length - (intOf i).toNat)
  case atStart => exact ⟨0, [], Nat.zero_le _, rfl, HP0.out⟩
  case round =>
    obtain ⟨m, cs, hm, rfl, hP⟩ := hrel
    obtain ⟨Al, cl, rfl⟩ := own_shape hP.own
    have hm0 : (0 : Int) ≤ (m : Int) := Int.natCast_nonneg _
    clear HP0
    by_cases hlt : m < es.length
    · obtain ⟨gE, rfl, hgE, hcE⟩ := own_ed hP.ed (by omega) rfl -- ARM round
      have hmi : (m : Int) < (es.length : Int) := by omega
      obtain ⟨c0, c1⟩ := hcE m hlt
      have w1' : IntKind.i64.wrap ((m : Int) + 1) = (m : Int) + 1 := by rw [IntKind.wrap_i64]; omega
      obtain ⟨K, hK⟩ : ∃ K, K = es[m] := ⟨_, rfl⟩
      rw [← hK] at c0 c1
      have hkT : TOf xs K ≠ [] := (HE.out.2 K).1 (by rw [hK]; exact List.getElem_mem hlt)
      have hkw : K.wf := TOf_wf HWF.out hkT
      have hup : K.f < K.t → ePairs (es.take (m + 1)) = ePairs (es.take m) ++ [(K.f, K.t)] ∧ hasE (twos xs (ePairs (es.take m))).2 K.f K.t = true := by rw [hK]; exact pairs_up HE.out hlt
      have hno : ¬ K.f < K.t → ePairs (es.take (m + 1)) = ePairs (es.take m) := by rw [hK]; exact pairs_no hlt
      have HU := Lib.hid hup
      have HN := Lib.hid hno
      have HP := Lib.hid hP
      clear hcE hK hkT hup hno hP
      have hbW : Below wr.heap.size wr (wr.alloc (.cells #[.int .i64 K.f, .int .i64 K.t] 47)) := (Below.refl _ _).alloc (Nat.le_refl _) _
      by_cases hft : K.f < K.t
      · have d1 : decide (K.f < K.t) = true := decide_eq_true hft -- ARM up
        obtain ⟨A', m', c', hleg', ⟨hl1, hl2⟩, hlook⟩ := HP.out.web.look (k := ⟨K.t, K.f⟩) ⟨hkw.2, hkw.1⟩
        have l1 := hlook (wr.alloc (.cells #[.int .i64 K.f, .int .i64 K.t] 47)) (fun S h => h.alloc _)
        unfold EdD.v at l1
        obtain ⟨hU, hU2⟩ := HU.out hft
        by_cases hbk : hasE (twos xs (ePairs (es.take m))).2 K.t K.f = true
        · obtain ⟨a', rfl⟩ := hl2 (TOf_ne.2 hbk) -- ARM two
          have HT := Lib.hid (show twos xs (ePairs (es.take (m + 1))) = ((twos xs (ePairs (es.take m))).1 ++ [⟨[K.f, K.t], [items (twos xs (ePairs (es.take m))).2 K.f K.t, items (twos xs (ePairs (es.take m))).2 K.t K.f]⟩], cut (cut (twos xs (ePairs (es.take m))).2 K.f K.t) K.t K.f) by rw [hU, twos_snoc, hU2, hbk]; rfl)
          clear hleg' hl1 hl2 hlook hU hU2 hbk
          have n1 := neq_some a' m' c'
          go_wp2_with fail
          refine (ring_two b n (twos xs (ePairs (es.take m))).2 K wr HP.out.web hkw hft).mono ?_
          rintro e w3 ⟨A3, c3, A5, c5, rfl, hr3, hw3, hf3⟩
          have ho3 := own_fr HP.out.own hf3 (fun i hi h => by
            have : i = b := h
            subst this
            exact HP.out.web.ne_own HP.out.own hi)
          have hsz3 := Nat.le_trans HP.out.fr.size hf3.size
          have hle := HP.out.le
          have HO3 := Lib.hid ho3
          have HON := Lib.hid HP.out.one
          have HR := Lib.hid (And.intro hr3 (And.intro hw3 hf3))
          clear hr3 hw3 hf3 ho3
          go_wp2_with (at_builtin; refine wpList_append_any _ rfl (.tmp 28) (.tmp 36) _ rfl w.heap.size 32 i0 _ 2 48 Try.underlying25 hi0 hz0 hz1 hz2 rfl (by omega) (.slice Al cs.length cl) cs.length (rCells cs) rfl (own_below HO3.out ((Below.refl _ _).alloc (Nat.le_refl _) _)) (w3.heap.size + 1) (some ⟨w3.heap.size, 0, none⟩) 1 1 [.slice A3 2 c3, .slice A5 2 c5] rfl (reads_two w3 _ _ _) (by simp [Value.oneCell']) (by simp only [maxLen]; omega) (by omega) (by simp; omega) ?_; intro v4 w4 hown4 hg4 hat4)
          exact ⟨⟨m + 1, _, hlt, rfl, HP.out.more HT.out HR.out.1 HR.out.2.1 HR.out.2.2 hown4 hg4⟩, by simp only [intOf]; omega⟩
        · have hbk' : hasE (twos xs (ePairs (es.take m))).2 K.t K.f = false := by simpa using hbk -- ARM one
          obtain ⟨rfl, rfl, rfl⟩ := hl1 (items_nil hbk')
          have HT := Lib.hid (show twos xs (ePairs (es.take (m + 1))) = twos xs (ePairs (es.take m)) by rw [hU, twos_snoc, hbk']; simp)
          clear hleg' hl1 hl2 hlook hU hU2 hbk hbk'
          have n1 := neq_none
          go_wp2_with fail
          exact ⟨⟨m + 1, cs, hlt, rfl, (HP.out.skip HT.out).below hbW⟩, by simp only [intOf]; omega⟩
      · have d1 : decide (K.f < K.t) = false := decide_eq_false hft -- ARM down
        have HT := Lib.hid (show twos xs (ePairs (es.take (m + 1))) = twos xs (ePairs (es.take m)) by rw [HN.out hft])
        go_wp2_with fail
        exact ⟨⟨m + 1, cs, hlt, rfl, (HP.out.skip HT.out).below hbW⟩, by simp only [intOf]; omega⟩
    · obtain rfl : m = es.length := by omega -- ARM done
      have hmi : ¬ ((es.length : Int) < (es.length : Int)) := by omega
      have HP := Lib.hid hP
      clear hP
      go_wp2_with fail
      go_ret
      have hP := HP.out
      have hr := hP.ring
      have hw := hP.web
      rw [List.take_length, twos_edges HE.out] at hr hw
      exact ⟨_, rfl, cs, hP.own, hP.one, hr, hw, hP.fr, by have := hP.le; omega⟩
end Go.Proofs.Ythoniedmeeahgaa
