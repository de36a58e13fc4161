/-
  What is read of rings: rows by their elements' type; a row stays where no block of that type is turned.
-/
import Derived.Test.YthoniedmeeahgaaWebSorted
import Derived.Test.YthoniedmeeahgaaRingAll
namespace Go.Proofs.Ythoniedmeeahgaa
open Go.RowKit

/-- Of what was there no block of cells of type e has turned. -/
def TK (e : TypeId) (w w' : World) : Prop := ∀ (k : Nat) (cur : Array Value) (fr : Nat × Nat), w.heap[k]? = some (.cells cur e fr) → w'.heap[k]? = w.heap[k]?
section
variable {e : TypeId} {w w' w2 : World}
theorem TK.refl (e : TypeId) (w : World) : TK e w w := fun _ _ _ _ => rfl
theorem TK.trans (h : TK e w w') (k : TK e w' w2) : TK e w w2 := fun i cur fr hi => (k i cur fr ((h i cur fr hi).trans hi)).trans (h i cur fr hi)
theorem TK.of_below (h : Below w.heap.size w w') : TK e w w' := fun i cur fr hi => h.block i (Array.getElem?_eq_some_iff.1 hi).1
theorem TK.of_grown {row : Option Nat} (h : w.grownBy w' row) (hr : ∀ j, row = some j → ∀ cur fr, w.heap[j]? ≠ some (.cells cur e fr)) : TK e w w' := fun i cur fr hi => h.block i (Array.getElem?_eq_some_iff.1 hi).1 (fun hj => hr i hj.symm cur fr hi)
theorem TK.alloc (h : TK e w w') (o : Obj) : TK e w (w'.alloc o) := h.trans (TK.of_below ((Below.refl _ _).alloc (Nat.le_refl _) _))
theorem TK.drew (h : TK e w w') : TK e w w'.drew := h
theorem TK.drewN (h : TK e w w') (n : Nat) : TK e w (w'.drewN n) := h
theorem TK.of_fr {S : Nat → Prop} (h : Fr S w w') (hS : ∀ i, S i → ∀ cur fr, w.heap[i]? ≠ some (.cells cur e fr)) : TK e w w' := fun i cur fr hi => h.block i (Array.getElem?_eq_some_iff.1 hi).1 (fun s => hS i s cur fr hi)
end
/-- A slice of elements of type e that reads as xs. -/
def RdT (w : World) (e : TypeId) (size : Nat) (v : Value) (n : Nat) (xs : List Value) : Prop :=
  ∃ A c, v = .slice A n c ∧ n ≤ c ∧ c ≤ 9223372036854775807 ∧ xs.length = n * size ∧ (0 < n → ∃ b o cur fr, A = some ⟨b, o, none⟩ ∧ w.heap[b]? = some (.cells cur e fr) ∧ ∀ j u, xs[j]? = some u → w.cell? ⟨b, o + j, none⟩ = some u)
section
variable {w w' : World} {e : TypeId} {size n : Nat} {v : Value} {xs : List Value}
theorem RdT.kept (h : RdT w e size v n xs) (hk : TK e w w') : RdT w' e size v n xs := by
  obtain ⟨A, c, rfl, h1, h2, h3, h4⟩ := h
  refine ⟨A, c, rfl, h1, h2, h3, fun hn => ?_⟩
  obtain ⟨b, o, cur, fr, rfl, hb, hc⟩ := h4 hn
  have hs := hk b cur fr hb
  exact ⟨b, o, cur, fr, rfl, hs.trans hb, fun j u hu => (World.cell?_of_block (a := ⟨b, o + j, none⟩) hs).trans (hc j u hu)⟩
theorem RdT.reads (h : RdT w e size v n xs) : ∃ A c, v = .slice A n c ∧ n ≤ c ∧ c ≤ 9223372036854775807 ∧ Reads w w.heap.size size A n xs := by
  obtain ⟨A, c, rfl, h1, h2, h3, h4⟩ := h
  refine ⟨A, c, rfl, h1, h2, h3, fun hn => ?_⟩
  obtain ⟨b, o, cur, fr, rfl, hb, hc⟩ := h4 hn
  exact ⟨_, rfl, (Array.getElem?_eq_some_iff.1 hb).1, fun j u hu => by rw [Addr.add_lit]; exact hc j u hu⟩
theorem RdT.own {base : Nat} (h : w.ownsRow base e size v n xs) : RdT w e size v n xs := by
  rcases h.2 with ⟨rfl, rfl⟩ | ⟨g, cap, cur, rfl, _, hb, h1, h2, h3, h4⟩
  · exact ⟨none, 0, rfl, Nat.le_refl _, by omega, h.1, fun hn => absurd hn (by omega)⟩
  · refine ⟨_, cap, rfl, h1, by unfold maxLen at h2; omega, h.1, fun _ => ⟨g, 0, cur, (0, 0), rfl, hb, fun j u hu => ?_⟩⟩
    rw [← h4] at hu
    have hb' : Blk w g e cur := hb
    rw [Nat.zero_add, hb'.cell]
    rw [List.getElem?_take] at hu
    split at hu
    · rw [← hu, Array.getElem?_toList]
    · cases hu
end
theorem rdT_nil (w : World) (e : TypeId) (size : Nat) : RdT w e size (.slice none 0 0) 0 [] := ⟨none, 0, rfl, Nat.le_refl _, by omega, by simp, fun h => absurd h (by omega)⟩
def itCells (is : List ItD) : List Value := is.flatMap fun i => [.int .i64 i.l, .int .i64 i.a, .int .i64 i.n]
def iCells (xs : List Int) : List Value := xs.map fun x => .int .i64 x
def LegAt (w : World) (v : Value) (is : List ItD) : Prop := RdT w 35 3 v is.length (itCells is)
def LegsAt (w : World) (v : Value) (ls : List (List ItD)) : Prop := ∃ vs : List Value, RdT w 33 1 v ls.length vs ∧ ∀ (k : Nat) (u : Value), vs[k]? = some u → ∀ (is : List ItD), ls[k]? = some is → LegAt w u is
def PartsAt (w : World) (v : Value) (ps : List Int) : Prop := RdT w 3 1 v ps.length (iCells ps)
def RingAt (w : World) (vp vl : Value) (r : RingD) : Prop := PartsAt w vp r.ps ∧ LegsAt w vl r.legs
def rCells (cs : List (Value × Value)) : List Value := cs.flatMap fun c => [c.1, c.2]
def RingsIn (w : World) (cs : List (Value × Value)) (rs : List RingD) : Prop := cs.length = rs.length ∧ ∀ (k : Nat) (u : Value × Value), cs[k]? = some u → ∀ (r : RingD), rs[k]? = some r → RingAt w u.1 u.2 r
/-- The three types of which rings are made stay. -/
structure TK3 (w w' : World) : Prop where
  i : TK 35 w w'
  l : TK 33 w w'
  p : TK 3 w w'
section
variable {w w' w2 : World}
theorem TK3.trans (h : TK3 w w') (k : TK3 w' w2) : TK3 w w2 := ⟨h.i.trans k.i, h.l.trans k.l, h.p.trans k.p⟩
theorem TK3.of_below (h : Below w.heap.size w w') : TK3 w w' := ⟨TK.of_below h, TK.of_below h, TK.of_below h⟩
theorem LegAt.kept {v : Value} {is : List ItD} (h : LegAt w v is) (hk : TK 35 w w') : LegAt w' v is := RdT.kept h hk
theorem LegsAt.kept {v : Value} {ls : List (List ItD)} (h : LegsAt w v ls) (hk : TK3 w w') : LegsAt w' v ls := by
  obtain ⟨vs, h1, h3⟩ := h
  exact ⟨vs, h1.kept hk.l, fun k u hu is his => (h3 k u hu is his).kept hk.i⟩
theorem RingAt.kept {vp vl : Value} {r : RingD} (h : RingAt w vp vl r) (hk : TK3 w w') : RingAt w' vp vl r := ⟨RdT.kept h.1 hk.p, h.2.kept hk⟩
theorem RingsIn.kept {cs : List (Value × Value)} {rs : List RingD} (h : RingsIn w cs rs) (hk : TK3 w w') : RingsIn w' cs rs := ⟨h.1, fun k u hu r hr => (h.2 k u hu r hr).kept hk⟩
theorem RingsIn.snoc {cs : List (Value × Value)} {rs : List RingD} {vp vl : Value} {r : RingD} (h : RingsIn w cs rs) (hr : RingAt w vp vl r) : RingsIn w (cs ++ [(vp, vl)]) (rs ++ [r]) := by
  refine ⟨by simp [h.1], fun k u hu r' hr' => ?_⟩
  by_cases hk : k < cs.length
  · rw [List.getElem?_append_left hk] at hu
    rw [List.getElem?_append_left (by rw [← h.1]; exact hk)] at hr'
    exact h.2 k u hu r' hr'
  · rw [List.getElem?_append_right (by omega)] at hu
    rw [List.getElem?_append_right (by rw [← h.1]; omega)] at hr'
    have hl := h.1
    have hz : k - cs.length = 0 := by
      have := (List.getElem?_eq_some_iff.1 hu).1
      simp at this
      omega
    rw [hz] at hu
    rw [show k - rs.length = 0 by omega] at hr'
    simp at hu hr'
    rw [← hu, ← hr']
    exact hr
end
/-- The web's rows are there to be read: each edge's head points to its items; nil just where there are none. -/
structure WebAt (w : World) (b n : Nat) (T : EdD → List ItD) : Prop where
  map : ∃ S, MapW w b n S ∧ ∀ k, ((S k).isSome = true ↔ T k ≠ []) ∧ LegAt w (hdV (S k)) (T k)
  dom : ∀ k, T k ≠ [] → k.wf
  small : n ≤ 1000
/-- An edge is taken away. -/
def dropT (T : EdD → List ItD) (k : EdD) : EdD → List ItD := fun k' => if k' = k then [] else T k'
theorem legAt_nil (w : World) : LegAt w (.slice none 0 0) [] := rdT_nil _ _ _
theorem WebAt.kept {w w' : World} {b n : Nat} {T : EdD → List ItD} {row : Option Nat} (h : WebAt w b n T) (hg : w.grownBy w' row) (hb : some b ≠ row) (hk : TK 35 w w') : WebAt w' b n T := by
  obtain ⟨⟨S, h1, h2⟩, h3, h4⟩ := h
  exact ⟨⟨S, h1.kept hg hb, fun k => ⟨(h2 k).1, (h2 k).2.kept hk⟩⟩, h3, h4⟩
theorem WebAt.below {w w' : World} {b n : Nat} {T : EdD → List ItD} (h : WebAt w b n T) (hb : Below w.heap.size w w') : WebAt w' b n T :=
  h.kept (row := none) ⟨hb.os, hb.tape, hb.output, hb.size, fun k hk _ => hb.block k hk⟩ (by simp) (TK.of_below hb)
theorem WebAt.isMap {w : World} {b n : Nat} {T : EdD → List ItD} (h : WebAt w b n T) : ∃ es clock, w.heap[b]? = some (.map es clock) := by
  obtain ⟨⟨S, ⟨D, ⟨es, clock, hb, _⟩, _⟩, _⟩, _, _⟩ := h
  exact ⟨es, clock, hb⟩
theorem WebAt.notCells {w : World} {b n : Nat} {T : EdD → List ItD} (h : WebAt w b n T) (cur : Array Value) (e : TypeId) (fr : Nat × Nat) : w.heap[b]? ≠ some (.cells cur e fr) := by
  obtain ⟨es, clock, hb⟩ := h.isMap
  rw [hb]
  intro e
  cases e
/-- What has turned is the web's block alone: rows of cells stay. -/
def OffB (b i : Nat) : Prop := i = b
theorem TK.off {w w' : World} {b n : Nat} {T : EdD → List ItD} {e : TypeId} (h : WebAt w b n T) (hf : Fr (OffB b) w w') : TK e w w' := TK.of_fr hf (fun i hi cur fr => by
  have : i = b := hi
  subst this
  exact h.notCells cur e fr)
theorem TK3.off {w w' : World} {b n : Nat} {T : EdD → List ItD} (h : WebAt w b n T) (hf : Fr (OffB b) w w') : TK3 w w' := ⟨TK.off h hf, TK.off h hf, TK.off h hf⟩
/-- The edges in the order in which they are walked. -/
def EdgesT (T : EdD → List ItD) (es : List EdD) : Prop := es.Pairwise edLt ∧ ∀ k, k ∈ es ↔ T k ≠ []
theorem sorted_any (b n : Nat) (T : EdD → List ItD) (w : World) (h : WebAt w b n T) :
    Calls Try.prog 35 #[.map (some b)] w fun e w' => ∃ (v : Value) (es : List EdD), e = .returned v ∧ EdgesT T es ∧ es.length ≤ n ∧ w'.ownsRow w.heap.size 47 2 v es.length (eCells es) ∧ Below w.heap.size w w' := by
  obtain ⟨⟨S, h1, h2⟩, h3, h4⟩ := h
  refine (webSorted_any b n S w h1 (by omega)).mono ?_
  rintro e w' ⟨v, es, rfl, ⟨hp, hm⟩, hl, ho, hb⟩
  refine ⟨v, es, rfl, ⟨hp, fun k => ?_⟩, hl, ho, hb⟩
  rw [hm k, (h2 k).1]
  exact ⟨fun h => h.2, fun h => ⟨h3 k h, h⟩⟩
end Go.Proofs.Ythoniedmeeahgaa
