/-
  The reference's rings, step by step. No program in sight.
-/
import Derived.Test.YthoniedmeeahgaaOfLaw
import Derived.Test.YthoniedmeeahgaaRingAll
namespace Go.Proofs.Ythoniedmeeahgaa

theorem ris_one : ∀ {us bs : List Int}, us.Pairwise (· < ·) → bs.Pairwise (· < ·) → (∀ y, y ∈ us ↔ y ∈ bs) → us = bs := by
  intro us
  induction us with
  | nil =>
    intro bs _ _ h
    cases bs with
    | nil => rfl
    | cons b bs => exact absurd ((h b).2 (by simp)) (by simp)
  | cons a us ih =>
    intro bs ha hb h
    cases bs with
    | nil => exact absurd ((h a).1 (by simp)) (by simp)
    | cons b bs =>
      rw [List.pairwise_cons] at ha hb
      have hab : a = b := by
        rcases List.mem_cons.1 ((h a).1 (by simp)) with e | e
        · exact e
        · rcases List.mem_cons.1 ((h b).2 (by simp)) with e' | e'
          · exact e'.symm
          · have := hb.1 a e
            have := ha.1 b e'
            omega
      subst hab
      rw [ih ha.2 hb.2 (fun y => ?_)]
      have := h y
      constructor
      · intro hy
        rcases List.mem_cons.1 (this.1 (List.mem_cons_of_mem _ hy)) with e | e
        · subst e
          have := ha.1 y hy
          omega
        · exact e
      · intro hy
        rcases List.mem_cons.1 (this.2 (List.mem_cons_of_mem _ hy)) with e | e
        · subst e
          have := hb.1 y hy
          omega
        · exact e
/-- From and to of the nets, one after another. -/
def partsOf (xs : List NetD) : List Int := xs.flatMap fun x => [x.f, x.t]
theorem parts_mem {xs : List NetD} {p : Int} : p ∈ partsOf xs ↔ ∃ x ∈ xs, x.f = p ∨ x.t = p := by
  unfold partsOf
  rw [List.mem_flatMap]
  constructor
  · rintro ⟨x, hx, h⟩
    simp at h
    rcases h with h | h
    · exact ⟨x, hx, .inl h.symm⟩
    · exact ⟨x, hx, .inr h.symm⟩
  · rintro ⟨x, hx, h⟩
    refine ⟨x, hx, ?_⟩
    rcases h with h | h <;> simp [h]
theorem parts_len (xs : List NetD) : (partsOf xs).length = xs.length * 2 := by
  unfold partsOf
  induction xs with
  | nil => rfl
  | cons x xs ih => simp at ih ⊢; omega
theorem parts_take {xs : List NetD} {k : Nat} (hk : k < xs.length) : partsOf (xs.take (k + 1)) = partsOf (xs.take k) ++ [xs[k].f, xs[k].t] := by
  unfold partsOf
  rw [List.take_succ_eq_append_getElem hk, List.flatMap_append]
  simp
theorem all_one {xs : List NetD} {os : List Int} (h : os.Pairwise (· < ·)) (hm : ∀ y, y ∈ os ↔ y ∈ partsOf xs) : os = allOf xs := by
  obtain ⟨h1, h2⟩ := allOf_ok xs
  exact ris_one h h1 (fun y => by rw [hm, h2, parts_mem])
theorem all_len {xs : List NetD} (h : MayX xs) : (allOf xs).length ≤ 16 := by
  obtain ⟨h1, h2⟩ := allOf_ok xs
  have hnd : (allOf xs).Nodup := h1.imp (fun hlt e => by omega)
  have := nodup_sub (L := (List.range 16).map (fun k : Nat => (k : Int))) hnd (fun q hq => by
    obtain ⟨x, hx, h'⟩ := (h2 q).1 hq
    have hf := (h.each x hx).f
    have ht := (h.each x hx).t
    rw [List.mem_map]
    exact ⟨q.toNat, List.mem_range.2 (by omega), by omega⟩)
  simpa using this
theorem MayX.sub {xs ys : List NetD} (h : MayX xs) (hs : ys.Sublist xs) : MayX ys := ⟨fun x hx => h.each x (hs.subset hx), h.two.sublist hs, Nat.le_trans hs.length_le h.len⟩
theorem cut_sub (xs : List NetD) (f t : Int) : (cut xs f t).Sublist xs := List.filter_sublist
/-- What is left to do of the pairs. -/
def todoP (all : List Int) (i k : Nat) : List (Int × Int) := (all.drop k).map (fun b => (all.getD i 0, b)) ++ pairsOf (all.drop (i + 1))
theorem todo_start {all : List Int} {i : Nat} (hi : i < all.length) : pairsOf (all.drop i) = todoP all i (i + 1) := by
  unfold todoP
  rw [List.drop_eq_getElem_cons hi, pairsOf, getD_eq hi]
theorem todo_step {all : List Int} {i k : Nat} (hk : k < all.length) : todoP all i k = (all.getD i 0, all.getD k 0) :: todoP all i (k + 1) := by
  unfold todoP
  rw [List.drop_eq_getElem_cons hk, List.map_cons, List.cons_append, getD_eq hk]
theorem todo_end (all : List Int) (i : Nat) : todoP all i all.length = pairsOf (all.drop (i + 1)) := by
  unfold todoP
  rw [List.drop_length]
  rfl
/-- So far these rings, and these nets still there. -/
def PairsSt (xs : List NetD) (all : List Int) (rs : List RingD) (cur : List NetD) (Q : List (Int × Int)) : Prop := twos xs (pairsOf all) = (rs ++ (twos cur Q).1, (twos cur Q).2)
theorem PairsSt.hit {xs : List NetD} {all : List Int} {rs : List RingD} {cur : List NetD} {Q : List (Int × Int)} {a b : Int} (h : PairsSt xs all rs cur ((a, b) :: Q)) (h1 : hasE cur a b = true) (h2 : hasE cur b a = true) : PairsSt xs all (rs ++ [⟨[a, b], [items cur a b, items cur b a]⟩]) (cut (cut cur a b) b a) Q := by
  unfold PairsSt at h ⊢
  rw [twos, if_pos (by rw [h1, h2]; rfl)] at h
  rw [h, List.append_assoc]
  rfl
theorem PairsSt.miss {xs : List NetD} {all : List Int} {rs : List RingD} {cur : List NetD} {Q : List (Int × Int)} {a b : Int} (h : PairsSt xs all rs cur ((a, b) :: Q)) (h1 : ¬ (hasE cur a b = true ∧ hasE cur b a = true)) : PairsSt xs all rs cur Q := by
  unfold PairsSt at h ⊢
  rw [twos, if_neg (by rw [Bool.and_eq_true]; exact h1)] at h
  exact h
/-- So far these rings, and these nets still there; no circle through the first i. -/
structure CircSt (xs : List NetD) (all : List Int) (rs : List RingD) (cur : List NetD) (i : Nat) : Prop where
  more : ∃ n, cur.length < n ∧ ringsOf xs = (rs ++ (circles all n cur).1, (circles all n cur).2)
  first : firstC cur all all = firstC cur all (all.drop i)
theorem CircSt.start {xs : List NetD} {rs : List RingD} {cur : List NetD} (h : PairsSt xs (allOf xs) rs cur []) (hl : cur.length ≤ xs.length) : CircSt xs (allOf xs) rs cur 0 := by
  refine ⟨⟨xs.length + 1, by omega, ?_⟩, rfl⟩
  unfold PairsSt at h
  unfold ringsOf
  simp only
  rw [h]
  simp [twos]
theorem CircSt.skip {xs : List NetD} {all : List Int} {rs : List RingD} {cur : List NetD} {i : Nat} (h : CircSt xs all rs cur i) (hi : i < all.length) (hc : circleL cur all (all.getD i 0) = []) : CircSt xs all rs cur (i + 1) := by
  refine ⟨h.more, ?_⟩
  have hf := h.first
  rw [List.drop_eq_getElem_cons hi, firstC] at hf
  rw [← getD_eq hi 0, hc] at hf
  exact hf
theorem CircSt.hit {xs : List NetD} {all : List Int} {rs : List RingD} {cur : List NetD} {i : Nat} (h : CircSt xs all rs cur i) (hi : i < all.length) (hc : circleL cur all (all.getD i 0) ≠ []) : CircSt xs all (rs ++ [ringOf cur (circleL cur all (all.getD i 0))]) (cutAll cur (circleL cur all (all.getD i 0))) 0 ∧ (cutAll cur (circleL cur all (all.getD i 0))).length < cur.length := by
  have hf := h.first
  have hlt := cutAll_lt (circleL_some hc).1
  rw [List.drop_eq_getElem_cons hi, firstC] at hf
  rw [← getD_eq hi 0] at hf
  obtain ⟨C, hC⟩ : ∃ C, C = circleL cur all (all.getD i 0) := ⟨_, rfl⟩
  rw [← hC] at hf hc hlt ⊢
  have he : C.isEmpty = false := by simpa using hc
  rw [if_neg (by rw [he]; simp)] at hf
  obtain ⟨n, hn, e⟩ := h.more
  obtain ⟨n', rfl⟩ : ∃ n', n = n' + 1 := ⟨n - 1, by omega⟩
  refine ⟨⟨⟨n', by omega, ?_⟩, rfl⟩, hlt⟩
  rw [e, circles]
  simp only
  rw [hf, if_neg (by rw [he]; simp), List.append_assoc]
  rfl
theorem CircSt.done {xs : List NetD} {all : List Int} {rs : List RingD} {cur : List NetD} (h : CircSt xs all rs cur all.length) : ringsOf xs = (rs, cur) := by
  obtain ⟨n, hn, e⟩ := h.more
  obtain ⟨n', rfl⟩ : ∃ n', n = n' + 1 := ⟨n - 1, by omega⟩
  have hf := h.first
  rw [List.drop_length, firstC] at hf
  rw [e, circles]
  simp only
  rw [hf]
  simp
end Go.Proofs.Ythoniedmeeahgaa
