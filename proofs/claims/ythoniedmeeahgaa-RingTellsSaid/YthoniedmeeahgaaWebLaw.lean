/-
  The web of nets: what each gives another one; edges taken away; the pairs and the first circle by the edges. No program in sight.
-/
import Derived.Test.YthoniedmeeahgaaWebRing
namespace Go.Proofs.Ythoniedmeeahgaa

/-- The web of nets. -/
def TOf (xs : List NetD) : EdD → List ItD := fun K => items xs K.f K.t
theorem items_nil {xs : List NetD} {f t : Int} (h : hasE xs f t = false) : items xs f t = [] := by
  have e : xs.filter (isE f t) = ([] : List NetD).filter (isE f t) := by
    rw [List.filter_nil, List.filter_eq_nil_iff]
    intro x hx he
    have : hasE xs f t = true := by
      unfold isE at he
      simp at he
      exact hasE_iff.2 ⟨x, hx, he.1, he.2⟩
    rw [h] at this
    cases this
  rw [items_filter e]
  rfl
theorem TOf_ne {xs : List NetD} {K : EdD} : TOf xs K ≠ [] ↔ hasE xs K.f K.t = true := by
  constructor
  · intro h
    cases e : hasE xs K.f K.t
    · exact absurd (items_nil e) h
    · rfl
  · exact fun h => items_ne h
theorem hasE_cut {xs : List NetD} {f t f' t' : Int} (h : hasE (cut xs f t) f' t' = true) : hasE xs f' t' = true := by
  obtain ⟨x, hx, h1⟩ := hasE_iff.1 h
  exact hasE_iff.2 ⟨x, (List.mem_filter.1 hx).1, h1⟩
theorem dropT_TOf (xs : List NetD) (f t : Int) : dropT (TOf xs) ⟨f, t⟩ = TOf (cut xs f t) := by
  funext K
  obtain ⟨f', t'⟩ := K
  show (if (⟨f', t'⟩ : EdD) = ⟨f, t⟩ then [] else items xs f' t') = items (cut xs f t) f' t'
  by_cases h : (⟨f', t'⟩ : EdD) = ⟨f, t⟩
  · rw [if_pos h]
    injection h with h1 h2
    subst h1 h2
    have e : (cut xs f' t').filter (isE f' t') = ([] : List NetD).filter (isE f' t') := by rw [filter_cut_self]; rfl
    rw [items_filter e]
    rfl
  · rw [if_neg h, items_filter (filter_cut (fun e => h (by rw [e.1, e.2])))]
theorem dropN_TOf (xs : List NetD) (c : List Int) : ∀ m, dropN (TOf xs) c m = TOf (cutN xs c m) := by
  intro m
  induction m with
  | zero => rw [dropN_zero]; rfl
  | succ m ih =>
    rw [dropN_succ, ih, cutN_succ]
    exact dropT_TOf _ _ _
theorem cut_two (xs : List NetD) (a b : Int) : dropN (TOf xs) [a, b] 2 = TOf (cut (cut xs a b) b a) := by
  rw [dropN_TOf, cutN_succ, cutN_succ]
  simp [cutN, nextOf]
theorem legs_two (xs : List NetD) (a b : Int) : ((List.range 2).map fun k => TOf xs (edgeAt [a, b] k)) = [items xs a b, items xs b a] := by
  simp [List.range_succ, TOf, edgeAt, nextOf]
theorem legs_all (xs : List NetD) (c : List Int) : ((List.range c.length).map fun k => TOf xs (edgeAt c k)) = (ringOf xs c).legs := rfl

/-- The pairs of edges that go up. -/
def ePairs (es : List EdD) : List (Int × Int) := (es.filter fun e => decide (e.f < e.t)).map fun e => (e.f, e.t)
theorem ePairs_mem {es : List EdD} {a b : Int} : (a, b) ∈ ePairs es ↔ (⟨a, b⟩ : EdD) ∈ es ∧ a < b := by
  unfold ePairs
  rw [List.mem_map]
  constructor
  · rintro ⟨⟨f, t⟩, h, e⟩
    injection e with h1 h2
    simp only at h1 h2
    subst h1 h2
    have := List.mem_filter.1 h
    exact ⟨this.1, by simpa using this.2⟩
  · rintro ⟨h1, h2⟩
    exact ⟨⟨a, b⟩, List.mem_filter.2 ⟨h1, by simpa using h2⟩, rfl⟩
theorem twos_snoc (a b : Int) : ∀ (P : List (Int × Int)) (xs : List NetD), twos xs (P ++ [(a, b)]) = if hasE (twos xs P).2 a b && hasE (twos xs P).2 b a then ((twos xs P).1 ++ [⟨[a, b], [items (twos xs P).2 a b, items (twos xs P).2 b a]⟩], cut (cut (twos xs P).2 a b) b a) else twos xs P := by
  intro P
  induction P with
  | nil => intro xs; simp [twos]
  | cons p P ih =>
    obtain ⟨c, d⟩ := p
    intro xs
    rw [List.cons_append]
    unfold twos
    split
    · rw [ih]
      split <;> simp
    · exact ih xs
theorem twos_sub : ∀ (P : List (Int × Int)) (xs : List NetD) (f t : Int), hasE (twos xs P).2 f t = true → hasE xs f t = true := by
  intro P
  induction P with
  | nil => intro xs f t h; exact h
  | cons p P ih =>
    obtain ⟨c, d⟩ := p
    intro xs f t h
    unfold twos at h
    split at h
    · exact hasE_cut (hasE_cut (ih _ _ _ h))
    · exact ih _ _ _ h
/-- An edge that was not looked at yet is as it was. -/
theorem twos_far (a b : Int) : ∀ (P : List (Int × Int)) (xs : List NetD), (a, b) ∉ P → (b, a) ∉ P → (twos xs P).2.filter (isE a b) = xs.filter (isE a b) := by
  intro P
  induction P with
  | nil => intro xs _ _; rfl
  | cons p P ih =>
    obtain ⟨c, d⟩ := p
    intro xs h1 h2
    simp only [List.mem_cons, not_or] at h1 h2
    unfold twos
    split
    · rw [ih _ h1.2 h2.2, filter_cut (fun e => h2.1 (by rw [e.1, e.2])), filter_cut (fun e => h1.1 (by rw [e.1, e.2]))]
    · exact ih _ h1.2 h2.2
theorem twos_filter (xs : List NetD) : ∀ (P : List (Int × Int)) (ys : List NetD), (∀ f t, hasE ys f t = true → hasE xs f t = true) → twos ys (P.filter fun p => hasE xs p.1 p.2) = twos ys P := by
  intro P
  induction P with
  | nil => intro ys _; rfl
  | cons p P ih =>
    obtain ⟨a, b⟩ := p
    intro ys h
    rw [List.filter_cons]
    by_cases hx : hasE xs a b = true
    · rw [if_pos hx]
      unfold twos
      rw [ih ys h, ih _ (fun f t he => h f t (hasE_cut (hasE_cut he)))]
    · have hy : hasE ys a b = false := by
        cases e : hasE ys a b
        · rfl
        · exact absurd (h a b e) hx
      rw [if_neg hx, ih ys h]
      conv => rhs; unfold twos
      rw [hy]
      rfl
theorem sorted_same {α : Type} {lt : α → α → Prop} (hirr : ∀ x, ¬ lt x x) (hasy : ∀ x y, lt x y → ¬ lt y x) : ∀ (us vs : List α), us.Pairwise lt → vs.Pairwise lt → (∀ x, x ∈ us ↔ x ∈ vs) → us = vs := by
  intro us
  induction us with
  | nil =>
    intro vs _ _ h
    cases vs with
    | nil => rfl
    | cons b vs => exact absurd ((h b).2 (by simp)) (by simp)
  | cons a us ih =>
    intro vs ha hb h
    cases vs with
    | nil => exact absurd ((h a).1 (by simp)) (by simp)
    | cons b vs =>
      rw [List.pairwise_cons] at ha hb
      have e : a = b := by
        rcases List.mem_cons.1 ((h a).1 (by simp)) with e | h1
        · exact e
        · rcases List.mem_cons.1 ((h b).2 (by simp)) with e | h2
          · exact e.symm
          · exact absurd (ha.1 b h2) (hasy _ _ (hb.1 a h1))
      subst e
      rw [ih vs ha.2 hb.2 (fun x => ⟨fun hx => ?_, fun hx => ?_⟩)]
      · rcases List.mem_cons.1 ((h x).1 (by simp [hx])) with rfl | h1
        · exact absurd (ha.1 _ hx) (hirr _)
        · exact h1
      · rcases List.mem_cons.1 ((h x).2 (by simp [hx])) with rfl | h1
        · exact absurd (hb.1 _ hx) (hirr _)
        · exact h1
def pLt (p q : Int × Int) : Prop := p.1 < q.1 ∨ (p.1 = q.1 ∧ p.2 < q.2)
theorem pairsOf_sorted : ∀ {us : List Int}, us.Pairwise (· < ·) → (pairsOf us).Pairwise pLt := by
  intro us
  induction us with
  | nil => intro _; simp [pairsOf]
  | cons a us ih =>
    intro h
    rw [List.pairwise_cons] at h
    unfold pairsOf
    rw [List.pairwise_append]
    refine ⟨?_, ih h.2, fun p hp q hq => ?_⟩
    · rw [List.pairwise_map]
      exact h.2.imp (fun hxy => .inr ⟨rfl, hxy⟩)
    · rw [List.mem_map] at hp
      obtain ⟨b, _, rfl⟩ := hp
      obtain ⟨c, d⟩ := q
      exact .inl (h.1 _ ((pairsOf_mem h.2).1 hq).1)
theorem twos_edges {xs : List NetD} {es : List EdD} (h : EdgesT (TOf xs) es) : twos xs (ePairs es) = twos xs (pairsOf (allOf xs)) := by
  obtain ⟨hs, hm⟩ := allOf_ok xs
  rw [← twos_filter xs (pairsOf (allOf xs)) xs (fun _ _ h => h)]
  congr 1
  refine sorted_same (lt := pLt) (fun x => by unfold pLt; omega) (fun x y => by unfold pLt; omega) _ _ ?_ ((pairsOf_sorted hs).filter _) ?_
  · unfold ePairs
    rw [List.pairwise_map]
    exact (h.1.filter _).imp (fun hxy => hxy)
  · rintro ⟨a, b⟩
    rw [ePairs_mem, List.mem_filter, pairsOf_mem hs, h.2, TOf_ne]
    constructor
    · rintro ⟨h1, h2⟩
      obtain ⟨x, hx, e1, e2⟩ := hasE_iff.1 h1
      exact ⟨⟨(hm a).2 ⟨x, hx, .inl e1⟩, (hm b).2 ⟨x, hx, .inr e2⟩, h2⟩, h1⟩
    · rintro ⟨⟨_, _, h2⟩, h1⟩
      exact ⟨h1, h2⟩
/-- A round of the search for pairs. -/
theorem pairs_no {es : List EdD} {m : Nat} (hm : m < es.length) (hno : ¬ es[m].f < es[m].t) : ePairs (es.take (m + 1)) = ePairs (es.take m) := by
  unfold ePairs
  rw [List.take_succ_eq_append_getElem hm, List.filter_append, List.map_append, List.filter_cons, if_neg (by simpa using hno)]
  simp
theorem pairs_up {xs : List NetD} {es : List EdD} (h : EdgesT (TOf xs) es) {m : Nat} (hm : m < es.length) (hup : es[m].f < es[m].t) : ePairs (es.take (m + 1)) = ePairs (es.take m) ++ [(es[m].f, es[m].t)] ∧ hasE (twos xs (ePairs (es.take m))).2 es[m].f es[m].t = true := by
  refine ⟨?_, ?_⟩
  · unfold ePairs
    rw [List.take_succ_eq_append_getElem hm, List.filter_append, List.map_append, List.filter_cons, if_pos (by simpa using hup)]
    simp
  · have h0 : hasE xs es[m].f es[m].t = true := TOf_ne.1 ((h.2 es[m]).1 (List.getElem_mem hm))
    rw [hasE_filter (twos_far _ _ _ _ ?_ ?_)]
    · exact h0
    · intro hin
      have hin := (ePairs_mem.1 hin).1
      obtain ⟨k, hk, he⟩ := List.getElem_of_mem hin
      rw [List.getElem_take] at he
      rw [List.length_take] at hk
      have hlt := List.pairwise_iff_getElem.1 h.1 k m (by omega) hm (by omega)
      rw [he] at hlt
      unfold edLt at hlt
      simp only at hlt
      omega
    · intro hin
      have := (ePairs_mem.1 hin).2
      omega
theorem TOf_wf {xs : List NetD} (hwf : ∀ x ∈ xs, wf64 x.f ∧ wf64 x.t) {K : EdD} (h : TOf xs K ≠ []) : K.wf := by
  obtain ⟨x, hx, e1, e2⟩ := hasE_iff.1 (TOf_ne.1 h)
  have := hwf x hx
  rw [e1, e2] at this
  exact this
end Go.Proofs.Ythoniedmeeahgaa
