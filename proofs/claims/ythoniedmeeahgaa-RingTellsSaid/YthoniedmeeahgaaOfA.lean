/-
  The nets that came in; the web while it is made: whose rows are its own.
-/
import Derived.Test.YthoniedmeeahgaaOfLaw
import Derived.Test.YthoniedmeeahgaaWebEntry
namespace Go.Proofs.Ythoniedmeeahgaa
open Go.RowKit Go.Maps

def encN (x : NetD) : List Value := [.int .i64 x.f, .int .i64 x.t, .int .i64 x.l, .int .i64 x.a, .int .i64 x.n]
def nCells (xs : List NetD) : List Value := xs.flatMap encN
theorem nCells_length (xs : List NetD) : (nCells xs).length = xs.length * 5 := by
  induction xs with
  | nil => rfl
  | cons p ps ih => simp [nCells, encN] at ih ⊢; omega
theorem nCells_at (xs : List NetD) (k : Nat) (h : k < xs.length) (j : Nat) (v : Value) (hv : (encN xs[k])[j]? = some v) : (nCells xs)[k * 5 + j]? = some v := by
  induction xs generalizing k with
  | nil => exact absurd h (by simp)
  | cons p ps ih =>
    have hj : j < 5 := (List.getElem?_eq_some_iff.1 hv).1
    match k, h with
    | 0, _ =>
      have : nCells (p :: ps) = encN p ++ nCells ps := rfl
      rw [this, Nat.zero_mul, Nat.zero_add, List.getElem?_append_left (by simpa [encN] using hj)]
      exact hv
    | k + 1, h =>
      have : nCells (p :: ps) = encN p ++ nCells ps := rfl
      rw [this, List.getElem?_append_right (by simp [encN]; omega)]
      have := ih k (by simpa using h) hv
      rw [← this]
      congr 1
      simp [encN]
      omega
theorem nCells_snoc (xs : List NetD) (x : NetD) : nCells (xs ++ [x]) = nCells xs ++ encN x := by simp [nCells]
theorem nCells_one (xs : List NetD) : ∀ u ∈ nCells xs, u.oneCell' = true := by
  intro u hu
  obtain ⟨x, _, hx⟩ := List.mem_flatMap.1 hu
  simp [encN] at hx
  rcases hx with rfl | rfl | rfl | rfl | rfl <;> rfl
structure NsD where
  A : Option Addr
  n : Nat
  c : Nat
  xs : List NetD
def NsD.ok (t : NsD) (W : World) : Prop := t.xs.length = t.n ∧ Reads W W.heap.size 5 t.A t.n (nCells t.xs)
theorem NsD.ok.below {t : NsD} {W W' : World} (h : t.ok W) (hb : Below W.heap.size W W') : t.ok W' := ⟨h.1, (h.2.below hb).more hb.size⟩
theorem NsD.ok.form {t : NsD} {W : World} (h : t.ok W) (hn : 0 < t.n) : ∃ b o, t.A = some ⟨b, o, none⟩ ∧ b < W.heap.size ∧ ∀ k (hk : k < t.xs.length) (j : Nat) (v : Value), (encN t.xs[k])[j]? = some v → W.cell? ⟨b, o + k * 5 + j, none⟩ = some v := by
  obtain ⟨h1, h3⟩ := h
  obtain ⟨ad, hA, hb, hc⟩ := h3.2 hn
  have h0 := hc 0 _ (nCells_at t.xs 0 (by omega) 0 _ rfl)
  have hsp := World.cell?_spot h0
  obtain ⟨b, o, s⟩ := ad
  have hs' : s = none := by simpa [Addr.add] using hsp
  subst hs'
  refine ⟨b, o, hA, hb, fun k hk j v hv => ?_⟩
  have := hc (k * 5 + j) v (nCells_at t.xs k hk j v hv)
  rw [Addr.add_lit] at this
  rwa [Nat.add_assoc]
theorem NsD.of_own {w : World} {base n c : Nat} {A : Option Addr} {xs : List NetD} (h : w.ownsRow base 38 5 (.slice A n c) n (nCells xs)) (hl : xs.length = n) : NsD.ok ⟨A, n, c, xs⟩ w := ⟨hl, Reads.of_own h⟩

/-- The heads' rows are owned, each edge's its own. -/
structure RowsOwn (w : World) (base : Nat) (S : EdD → Option HdD) (T : EdD → List ItD) : Prop where
  some_ : ∀ K, (S K).isSome = true ↔ T K ≠ []
  own : ∀ K hd, S K = some hd → w.ownsRow base 35 3 hd.v (T K).length (itCells (T K))
  apart : ∀ K K' hd hd', S K = some hd → S K' = some hd' → K ≠ K' → hd.b ≠ hd'.b
section
variable {w w' : World} {base b n : Nat} {S : EdD → Option HdD} {T : EdD → List ItD}
theorem RowsOwn.below (h : RowsOwn w base S T) (hb : Below w.heap.size w w') : RowsOwn w' base S T := ⟨h.some_, fun K hd e => own_below (h.own K hd e) hb, h.apart⟩
theorem hd_block (hd : HdD) : hd.v.ownBlock = some hd.b := rfl
theorem RowsOwn.fr {R : Nat → Prop} (h : RowsOwn w base S T) (hf : Fr R w w') (hn : ∀ K hd, S K = some hd → ¬ R hd.b) : RowsOwn w' base S T := ⟨h.some_, fun K hd e => own_fr (h.own K hd e) hf (fun k hk => by rw [hd_block] at hk; injection hk with hk; subst hk; exact hn K hd e), h.apart⟩
theorem RowsOwn.blk (h : RowsOwn w base S T) {K : EdD} {hd : HdD} (e : S K = some hd) : base ≤ hd.b ∧ hd.b < w.heap.size ∧ ∃ cs, Blk w hd.b 35 cs := own_block (h.own K hd e) (hd_block hd)
/-- The web that owns its rows can be read. -/
theorem RowsOwn.at_ (h : RowsOwn w base S T) (hm : MapW w b n S) (hd : ∀ K, T K ≠ [] → K.wf) (hn : n ≤ 1000) : WebAt w b n T :=
  ⟨⟨S, hm, fun K => ⟨h.some_ K, by
    cases e : S K with
    | none =>
      have : T K = [] := by
        by_cases hT : T K = []
        · exact hT
        · have := (h.some_ K).2 hT
          rw [e] at this
          cases this
      rw [this]
      exact legAt_nil _
    | some x => exact RdT.own (h.own K x e)⟩⟩, hd, hn⟩
end
/-- The row that an edge has so far: nothing, or the head's. -/
theorem RowsOwn.head {w : World} {base : Nat} {S : EdD → Option HdD} {T : EdD → List ItD} (h : RowsOwn w base S T) (K : EdD) : ∃ A c, hdV (S K) = .slice A (T K).length c ∧ w.ownsRow base 35 3 (.slice A (T K).length c) (T K).length (itCells (T K)) := by
  cases e : S K with
  | none =>
    have : T K = [] := by
      by_cases hT : T K = []
      · exact hT
      · have := (h.some_ K).2 hT
        rw [e] at this
        cases this
    rw [this]
    exact ⟨none, 0, rfl, World.ownsRow_nil _ _ _ _⟩
  | some x =>
    have ho := h.own K x e
    obtain ⟨A, c, hv⟩ := own_shape ho
    exact ⟨A, c, hv, by rw [← hv]; exact ho⟩
/-- Behind the append and the store of the entry. -/
theorem RowsOwn.put {W w1 w2 w3 : World} {base b g c : Nat} {S S' : EdD → Option HdD} {T : EdD → List ItD} {k : EdD} {it : ItD} (h : RowsOwn W base S T) (hbW : ∀ K hd, S K = some hd → hd.b ≠ b) (hbs : b < W.heap.size)
    (h1 : W.grownBy w1 (some b)) (ho2 : w2.ownsRow base 35 3 (.slice (some ⟨g, 0, none⟩) ((T k).length + 1) c) ((T k).length + 1) (itCells (T k ++ [it]))) (h2 : w1.grownBy w2 (hdV (S k)).ownBlock)
    (hat : some g = (hdV (S k)).ownBlock ∨ some g = some w1.heap.size) (h3 : w2.grownBy w3 (some b)) (hS : S' k = some ⟨g, (T k).length + 1, c⟩) (hS' : ∀ K, K ≠ k → S' K = S K) :
    RowsOwn w3 base S' (fun K => if K = k then T k ++ [it] else T K) ∧ ∀ K hd, S' K = some hd → hd.b ≠ b := by
  have hgb : g ≠ b := by
    rcases hat with e | e
    · cases e' : S k with
      | none => rw [e'] at e; simp [hdV, Value.ownBlock] at e
      | some x =>
        rw [e'] at e
        have : g = x.b := by simpa [hdV, hd_block] using e
        rw [this]
        exact hbW k x e'
    · injection e with e
      have := h1.size
      omega
  have hother : ∀ K hd, S K = some hd → K ≠ k → hd.b ≠ g := fun K hd e hne hg => by
    rcases hat with e2 | e2
    · cases e' : S k with
      | none => rw [e'] at e2; simp [hdV, Value.ownBlock] at e2
      | some x =>
        rw [e'] at e2
        have : g = x.b := by simpa [hdV, hd_block] using e2
        exact h.apart K k hd x e e' hne (by rw [hg, this])
    · injection e2 with e2
      have h4 := (h.blk e).2.1
      have := h1.size
      omega
  have hown3 : w3.ownsRow base 35 3 (.slice (some ⟨g, 0, none⟩) ((T k).length + 1) c) ((T k).length + 1) (itCells (T k ++ [it])) := own_fr ho2 (Fr.of_grown (S := fun i => i = b) h3 (fun i hi => by injection hi with hi; exact hi.symm)) (fun i hi e => hgb (by
    have : g = i := by simpa [Value.ownBlock] using hi
    rw [this]
    exact e))
  refine ⟨⟨fun K => ?_, fun K hd e => ?_, fun K K' hd hd' e e' hne => ?_⟩, fun K hd e => ?_⟩
  · by_cases hk : K = k
    · subst hk
      simp [hS]
    · rw [hS' K hk, if_neg hk]
      exact h.some_ K
  · by_cases hk : K = k
    · subst hk
      rw [hS] at e
      injection e with e
      subst e
      rw [if_pos rfl]
      have : (T K ++ [it]).length = (T K).length + 1 := by simp
      rw [this]
      exact hown3
    · rw [hS' K hk] at e
      rw [if_neg hk]
      have o1 := own_fr (h.own K hd e) (Fr.of_grown (S := fun i => i = b) h1 (fun i hi => by injection hi with hi; exact hi.symm)) (fun i hi e2 => by rw [hd_block] at hi; injection hi with hi; exact hbW K hd e (by rw [hi]; exact e2))
      have o2 := own_fr o1 (Fr.of_grown (S := fun i => (hdV (S k)).ownBlock = some i) h2 (fun i hi => hi)) (fun i hi e2 => by
        rw [hd_block] at hi
        injection hi with hi
        cases e' : S k with
        | none => rw [e'] at e2; simp [hdV, Value.ownBlock] at e2
        | some x =>
          rw [e'] at e2
          have : x.b = i := by simpa [hdV, hd_block] using e2
          exact h.apart K k hd x e e' hk (by rw [hi, this]))
      exact own_fr o2 (Fr.of_grown (S := fun i => i = b) h3 (fun i hi => by injection hi with hi; exact hi.symm)) (fun i hi e2 => by rw [hd_block] at hi; injection hi with hi; exact hbW K hd e (by rw [hi]; exact e2))
  · by_cases hk : K = k
    · subst hk
      rw [hS] at e
      injection e with e
      subst e
      rw [hS' K' (Ne.symm hne)] at e'
      exact fun h' => hother K' hd' e' (Ne.symm hne) h'.symm
    · rw [hS' K hk] at e
      by_cases hk' : K' = k
      · subst hk'
        rw [hS] at e'
        injection e' with e'
        subst e'
        exact hother K hd e hk
      · rw [hS' K' hk'] at e'
        exact h.apart K K' hd hd' e e' hne
  · by_cases hk : K = k
    · subst hk
      rw [hS] at e
      injection e with e
      subst e
      exact hgb
    · rw [hS' K hk] at e
      exact hbW K hd e
/-- One row is sorted. -/
theorem RowsOwn.sorted {w w' : World} {base : Nat} {S : EdD → Option HdD} {T : EdD → List ItD} {k : EdD} {hd : HdD} {ys : List ItD} (h : RowsOwn w base S T) (hk : S k = some hd) (hl : ys.length = (T k).length)
    (ho : w'.ownsRow base 35 3 hd.v ys.length (itCells ys)) (hg : w.grownBy w' (some hd.b)) : RowsOwn w' base S (fun K => if K = k then ys else T K) := by
  refine ⟨fun K => ?_, fun K hd' e => ?_, h.apart⟩
  · by_cases e : K = k
    · subst e
      rw [if_pos rfl, h.some_ K]
      constructor
      · intro h1 h2
        rw [h2] at hl
        exact h1 (List.eq_nil_of_length_eq_zero hl.symm)
      · intro h1 h2
        rw [h2] at hl
        exact h1 (List.eq_nil_of_length_eq_zero hl)
    · rw [if_neg e]
      exact h.some_ K
  · by_cases e2 : K = k
    · subst e2
      rw [hk] at e
      injection e with e
      subst e
      rw [if_pos rfl]
      exact ho
    · rw [if_neg e2]
      exact own_fr (h.own K hd' e) (Fr.of_grown (S := fun i => i = hd.b) hg (fun i hi => by injection hi with hi; exact hi.symm)) (fun i hi e3 => by
        rw [hd_block] at hi
        injection hi with hi
        exact h.apart K k hd' hd e hk e2 (by rw [hi]; exact e3))
end Go.Proofs.Ythoniedmeeahgaa
