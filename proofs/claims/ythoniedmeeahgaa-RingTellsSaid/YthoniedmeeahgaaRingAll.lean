/-
  Rings: those of two; all of them together. No program in sight.
-/
import Derived.Test.YthoniedmeeahgaaRingLaw
namespace Go.Proofs.Ythoniedmeeahgaa

theorem insP_mem {x y : Int} : ∀ {xs : List Int}, y ∈ insP x xs ↔ y = x ∨ y ∈ xs := by
  intro xs
  induction xs with
  | nil => simp [insP]
  | cons z zs ih =>
    unfold insP
    split
    · simp
    · split
      · rename_i h
        subst h
        simp
      · simp only [List.mem_cons, ih]
        constructor
        · rintro (h | h | h)
          · exact .inr (.inl h)
          · exact .inl h
          · exact .inr (.inr h)
        · rintro (h | h | h)
          · exact .inr (.inl h)
          · exact .inl h
          · exact .inr (.inr h)
theorem insP_sorted {x : Int} : ∀ {xs : List Int}, xs.Pairwise (· < ·) → (insP x xs).Pairwise (· < ·) := by
  intro xs
  induction xs with
  | nil => intro _; simp [insP]
  | cons z zs ih =>
    intro h
    have h' := List.pairwise_cons.1 h
    unfold insP
    split
    · rename_i hlt
      refine List.pairwise_cons.2 ⟨fun y hy => ?_, h⟩
      rcases List.mem_cons.1 hy with rfl | hy
      · exact hlt
      · have := h'.1 y hy
        omega
    · split
      · exact h
      · refine List.pairwise_cons.2 ⟨fun y hy => ?_, ih h'.2⟩
        rcases insP_mem.1 hy with rfl | hy
        · omega
        · exact h'.1 y hy
theorem allOf_ok (xs : List NetD) : (allOf xs).Pairwise (· < ·) ∧ ∀ p, p ∈ allOf xs ↔ ∃ x ∈ xs, x.f = p ∨ x.t = p := by
  have : ∀ (xs : List NetD) (acc : List Int), acc.Pairwise (· < ·) → (xs.foldl (fun acc x => insP x.t (insP x.f acc)) acc).Pairwise (· < ·) ∧ ∀ p, p ∈ xs.foldl (fun acc x => insP x.t (insP x.f acc)) acc ↔ p ∈ acc ∨ ∃ x ∈ xs, x.f = p ∨ x.t = p := by
    intro xs
    induction xs with
    | nil => intro acc h; simp [h]
    | cons x xs ih =>
      intro acc h
      obtain ⟨i1, i2⟩ := ih (insP x.t (insP x.f acc)) (insP_sorted (insP_sorted h))
      refine ⟨i1, fun p => ?_⟩
      rw [List.foldl_cons, i2, insP_mem, insP_mem]
      simp only [List.mem_cons, exists_eq_or_imp]
      constructor
      · rintro ((h | h | h) | h)
        · exact .inr (.inl (.inr h.symm))
        · exact .inr (.inl (.inl h.symm))
        · exact .inl h
        · exact .inr (.inr h)
      · rintro (h | (h | h) | h)
        · exact .inl (.inr (.inr h))
        · exact .inl (.inr (.inl h.symm))
        · exact .inl (.inl h.symm)
        · exact .inr h
  have h := this xs [] List.Pairwise.nil
  refine ⟨h.1, fun p => ?_⟩
  have := h.2 p
  simpa [allOf] using this

def both (xs : List NetD) (p : Int × Int) : Bool := hasE xs p.1 p.2 && hasE xs p.2 p.1
def ring2 (xs : List NetD) (p : Int × Int) : RingD := ⟨[p.1, p.2], [items xs p.1 p.2, items xs p.2 p.1]⟩
theorem hasE_filter {xs ys : List NetD} {f t : Int} (h : ys.filter (isE f t) = xs.filter (isE f t)) : hasE ys f t = hasE xs f t := by
  have e : ∀ zs : List NetD, hasE zs f t = !(zs.filter (isE f t)).isEmpty := by
    intro zs
    rw [Bool.eq_iff_iff, hasE_iff]
    simp only [Bool.not_eq_true', List.isEmpty_eq_false_iff]
    constructor
    · rintro ⟨x, hx, h1, h2⟩ e
      have : x ∈ zs.filter (isE f t) := List.mem_filter.2 ⟨hx, by simp [isE, h1, h2]⟩
      rw [e] at this
      simp at this
    · intro hne
      obtain ⟨x, zs', e⟩ := List.exists_cons_of_ne_nil hne
      have : x ∈ zs.filter (isE f t) := by rw [e]; simp
      obtain ⟨h1, h2⟩ := List.mem_filter.1 this
      simp [isE] at h2
      exact ⟨x, h1, h2.1, h2.2⟩
  rw [e, e, h]
theorem items_filter {xs ys : List NetD} {f t : Int} (h : ys.filter (isE f t) = xs.filter (isE f t)) : items ys f t = items xs f t := by
  unfold items pick
  have : (ys.filter fun x => x.f == f && x.t == t) = xs.filter fun x => x.f == f && x.t == t := h
  rw [this]
theorem filter_cut_self (xs : List NetD) (f t : Int) : (cut xs f t).filter (isE f t) = [] := by
  rw [cut_eq, List.filter_filter, List.filter_eq_nil_iff]
  intro x _
  cases isE f t x <;> simp
theorem twos_ok : ∀ (P : List (Int × Int)) (xs : List NetD), P.Pairwise (fun p q => p ≠ q) → (∀ p ∈ P, p.1 < p.2) →
    (twos xs P).1 = (P.filter (both xs)).map (ring2 xs) ∧ ((twos xs P).1.flatMap netsR ++ (twos xs P).2).Perm xs ∧ (∀ x ∈ (twos xs P).2, x ∈ xs) ∧
    (∀ f t, (f, t) ∉ P → (t, f) ∉ P → (twos xs P).2.filter (isE f t) = xs.filter (isE f t)) ∧ ∀ p ∈ P, both (twos xs P).2 p = false := by
  intro P
  induction P with
  | nil => intro xs _ _; simp [twos]
  | cons p P ih =>
    obtain ⟨a, b⟩ := p
    intro xs hP hlt
    rw [List.pairwise_cons] at hP
    have hab : a < b := hlt (a, b) (by simp)
    have hlt' : ∀ p ∈ P, p.1 < p.2 := fun p hp => hlt p (by simp [hp])
    have hnot1 : (a, b) ∉ P := fun h => hP.1 _ h rfl
    have hnot2 : (b, a) ∉ P := fun h => by have := hlt' _ h; simp only at this; omega
    unfold twos
    by_cases hb : (hasE xs a b && hasE xs b a) = true
    · rw [if_pos hb]
      obtain ⟨i1, i2, i3, i4, i5⟩ := ih (cut (cut xs a b) b a) hP.2 hlt'
      have hsub : ∀ x ∈ cut (cut xs a b) b a, x ∈ xs := fun x hx => (List.mem_filter.1 (List.mem_filter.1 hx).1).1
      have hkeep : ∀ f t, ¬ (f = a ∧ t = b) → ¬ (f = b ∧ t = a) → (cut (cut xs a b) b a).filter (isE f t) = xs.filter (isE f t) := fun f t h1 h2 => by
        rw [filter_cut (fun h => h2 ⟨h.1.symm, h.2.symm⟩), filter_cut (fun h => h1 ⟨h.1.symm, h.2.symm⟩)]
      have hring : ∀ p ∈ P, both (cut (cut xs a b) b a) p = both xs p ∧ ring2 (cut (cut xs a b) b a) p = ring2 xs p := by
        rintro ⟨f, t⟩ hp
        have h1 : ¬ (f = a ∧ t = b) := fun h => hnot1 (by rw [← h.1, ← h.2]; exact hp)
        have h2 : ¬ (f = b ∧ t = a) := fun h => hnot2 (by rw [← h.1, ← h.2]; exact hp)
        have e1 := hkeep f t h1 h2
        have e2 := hkeep t f (fun h => h2 ⟨h.2, h.1⟩) (fun h => h1 ⟨h.2, h.1⟩)
        unfold both ring2
        simp only
        rw [hasE_filter e1, hasE_filter e2, items_filter e1, items_filter e2]
        exact ⟨rfl, rfl⟩
      refine ⟨?_, ?_, fun x hx => hsub x (i3 x hx), fun f t h1 h2 => ?_, fun p hp => ?_⟩
      · simp only
        rw [i1, List.filter_cons, if_pos (show both xs (a, b) = true from hb), List.map_cons]
        congr 1
        rw [List.filter_congr (fun p hp => (hring p hp).1)]
        exact List.map_congr_left (fun p hp => (hring p (List.mem_filter.1 hp).1).2)
      · simp only
        rw [List.flatMap_cons, List.append_assoc]
        refine (List.Perm.append_left _ i2).trans ?_
        have e : netsR ⟨[a, b], [items xs a b, items xs b a]⟩ = (items xs a b).map (mkN a b) ++ (items xs b a).map (mkN b a) := by
          simp [netsR, nextOf, List.range_succ]
        rw [e, List.append_assoc]
        have hne : ¬ (a = b ∧ b = a) := fun h => by omega
        have e2 : items (cut xs a b) b a = items xs b a := items_filter (filter_cut (f := a) (t := b) (f' := b) (t' := a) hne)
        rw [← e2]
        exact (List.Perm.append_left _ (split_perm (cut xs a b) b a)).trans (split_perm xs a b)
      · simp only [List.mem_cons, not_or] at h1 h2
        rw [i4 f t h1.2 h2.2]
        exact hkeep f t (fun h => h1.1 (by rw [h.1, h.2])) (fun h => h2.1 (by rw [h.1, h.2]))
      · rcases List.mem_cons.1 hp with rfl | hp
        · have h1 := i4 a b hnot1 hnot2
          have h2 : (cut (cut xs a b) b a).filter (isE a b) = [] := by
            rw [filter_cut (fun h => by omega), filter_cut_self]
          have h3 : hasE (twos (cut (cut xs a b) b a) P).2 a b = false := by
            rw [hasE_filter h1]
            have h4 : (cut (cut xs a b) b a).filter (isE a b) = ([] : List NetD).filter (isE a b) := by rw [h2]; rfl
            rw [hasE_filter h4]
            rfl
          unfold both
          simp only
          rw [h3]
          rfl
        · exact i5 p hp
    · rw [if_neg hb]
      obtain ⟨i1, i2, i3, i4, i5⟩ := ih xs hP.2 hlt'
      refine ⟨?_, i2, i3, fun f t h1 h2 => ?_, fun p hp => ?_⟩
      · rw [i1, List.filter_cons, if_neg (show ¬ both xs (a, b) = true from hb)]
      · simp only [List.mem_cons, not_or] at h1 h2
        exact i4 f t h1.2 h2.2
      · rcases List.mem_cons.1 hp with rfl | hp
        · have h1 := i4 a b hnot1 hnot2
          have h2 := i4 b a hnot2 hnot1
          unfold both
          simp only
          rw [hasE_filter h1, hasE_filter h2]
          simpa using hb
        · exact i5 p hp

theorem pairsOf_mem {a b : Int} : ∀ {as : List Int}, as.Pairwise (· < ·) → ((a, b) ∈ pairsOf as ↔ a ∈ as ∧ b ∈ as ∧ a < b) := by
  intro as
  induction as with
  | nil => intro _; simp [pairsOf]
  | cons c cs ih =>
    intro h
    have h' := List.pairwise_cons.1 h
    unfold pairsOf
    rw [List.mem_append, List.mem_map, ih h'.2]
    constructor
    · rintro (⟨d, hd, e⟩ | ⟨h1, h2, h3⟩)
      · injection e with e1 e2
        subst e1 e2
        exact ⟨by simp, by simp [hd], h'.1 _ hd⟩
      · exact ⟨by simp [h1], by simp [h2], h3⟩
    · rintro ⟨h1, h2, h3⟩
      rcases List.mem_cons.1 h1 with e1 | g1
      · rcases List.mem_cons.1 h2 with e2 | g2
        · omega
        · exact .inl ⟨b, g2, by rw [e1]⟩
      · rcases List.mem_cons.1 h2 with e2 | g2
        · have := h'.1 _ g1
          omega
        · exact .inr ⟨g1, g2, h3⟩
theorem pairsOf_nodup : ∀ {as : List Int}, as.Pairwise (· < ·) → (pairsOf as).Pairwise (fun p q => p ≠ q) := by
  intro as
  induction as with
  | nil => intro _; simp [pairsOf]
  | cons c cs ih =>
    intro h
    have h' := List.pairwise_cons.1 h
    unfold pairsOf
    rw [List.pairwise_append]
    refine ⟨?_, ih h'.2, fun p hp q hq e => ?_⟩
    · rw [List.pairwise_map]
      refine List.Pairwise.imp ?_ h'.2
      intro x y hxy e
      injection e with _ e
      omega
    · subst e
      rw [List.mem_map] at hp
      obtain ⟨d, _, rfl⟩ := hp
      have := (pairsOf_mem h'.2).1 hq
      have := h'.1 _ this.1
      omega
/-- What the rings are, and what is left. -/
structure RingsOK (xs : List NetD) (rs : List RingD) (left : List NetD) : Prop where
  perm : (rs.flatMap netsR ++ left).Perm xs
  good : ∀ r ∈ rs, GoodR r ∧ ∀ p ∈ r.ps, ∃ x ∈ xs, x.f = p ∨ x.t = p
  none : ∀ c, ¬ Circ left c
  twos : ∀ a b, a < b → rs.filter (fun r => r.ps == [a, b]) = if hasE xs a b = true ∧ hasE xs b a = true then [ring2 xs (a, b)] else []
theorem filter_one {α : Type} [DecidableEq α] [BEq α] [LawfulBEq α] {P : List α} (hP : P.Pairwise (fun p q => p ≠ q)) (a : α) : P.filter (fun p => p == a) = if a ∈ P then [a] else [] := by
  induction P with
  | nil => simp
  | cons p P ih =>
    rw [List.pairwise_cons] at hP
    rw [List.filter_cons, ih hP.2]
    by_cases h : p = a
    · subst h
      have : p ∉ P := fun hin => hP.1 _ hin rfl
      simp [this]
    · have h' : ¬ a = p := fun e => h e.symm
      simp [h, h']
theorem ringsOf_ok {xs : List NetD} (hself : ∀ x ∈ xs, x.f ≠ x.t) : RingsOK xs (ringsOf xs).1 (ringsOf xs).2 := by
  obtain ⟨hs, hm⟩ := allOf_ok xs
  unfold ringsOf
  simp only
  generalize hall : allOf xs = all at hs hm
  obtain ⟨t1, t2, t3, t4, t5⟩ := twos_ok (pairsOf all) xs (pairsOf_nodup hs) (fun p hp => ((pairsOf_mem hs).1 hp).2.2)
  generalize hT : twos xs (pairsOf all) = T at t1 t2 t3 t4 t5
  have hlen : T.2.length < xs.length + 1 := by
    have := t2.length_eq
    rw [List.length_append] at this
    omega
  have hC := circles_ok hs (xs.length + 1) T.2 hlen (fun x hx => ⟨(hm _).2 ⟨x, t3 x hx, .inl rfl⟩, (hm _).2 ⟨x, t3 x hx, .inr rfl⟩, hself x (t3 x hx)⟩)
  generalize circles all (xs.length + 1) T.2 = C at hC
  refine ⟨?_, fun r hr => ?_, hC.none, fun a b hab => ?_⟩
  · rw [List.flatMap_append, List.append_assoc]
    exact (List.Perm.append_left _ hC.perm).trans t2
  · rcases List.mem_append.1 hr with hr | hr
    · rw [t1, List.mem_map] at hr
      obtain ⟨⟨a, b⟩, hp, rfl⟩ := hr
      obtain ⟨hp, hb⟩ := List.mem_filter.1 hp
      obtain ⟨h1, h2, h3⟩ := (pairsOf_mem hs).1 hp
      unfold both at hb
      simp only [Bool.and_eq_true] at hb
      refine ⟨⟨by simp [ring2], by simp [ring2]; omega, by simp [ring2], fun k hk => ?_, fun k h0 hk => ?_⟩, fun p hp => ?_⟩
      · have hk' : k < 2 := hk
        rcases (show k = 0 ∨ k = 1 by omega) with rfl | rfl
        · exact items_ne hb.1
        · exact items_ne hb.2
      · have hk' : k < 2 := hk
        obtain rfl : k = 1 := by omega
        exact h3
      · simp [ring2] at hp
        rcases hp with rfl | rfl
        · exact (hm _).1 h1
        · exact (hm _).1 h2
    · exact ⟨(hC.good r hr).1, fun p hp => (hm p).1 ((hC.good r hr).2.1 p hp)⟩
  · rw [List.filter_append]
    have e2 : C.1.filter (fun r => r.ps == [a, b]) = [] := by
      rw [List.filter_eq_nil_iff]
      intro r hr e
      have e : r.ps = [a, b] := by simpa using e
      have hc := (hC.good r hr).2.2
      rw [e] at hc
      have g0 := hc.gives 0 (by simp)
      have g1 := hc.gives 1 (by simp)
      have g0 : hasE T.2 a b = true := by simpa [nextOf] using g0
      have g1 : hasE T.2 b a = true := by simpa [nextOf] using g1
      obtain ⟨x, hx, h1, h2⟩ := hasE_iff.1 g0
      have hp : (a, b) ∈ pairsOf all := (pairsOf_mem hs).2 ⟨(hm _).2 ⟨x, t3 x hx, .inl h1⟩, (hm _).2 ⟨x, t3 x hx, .inr h2⟩, hab⟩
      have := t5 _ hp
      unfold both at this
      simp only at this
      rw [g0, g1] at this
      cases this
    rw [e2, List.append_nil, t1, List.filter_map, List.filter_filter]
    have e3 : (pairsOf all).filter (fun p => ((fun r : RingD => r.ps == [a, b]) ∘ ring2 xs) p && both xs p) = ((pairsOf all).filter (fun p => p == (a, b))).filter (both xs) := by
      rw [List.filter_filter]
      refine List.filter_congr (fun p _ => ?_)
      obtain ⟨f, t⟩ := p
      rw [Bool.and_comm]
      congr 1
      rw [Bool.eq_iff_iff]
      simp [ring2]
    rw [e3, filter_one (pairsOf_nodup hs)]
    by_cases hin : (a, b) ∈ pairsOf all
    · rw [if_pos hin]
      by_cases hb : hasE xs a b = true ∧ hasE xs b a = true
      · rw [if_pos hb]
        simp [both, hb.1, hb.2]
      · rw [if_neg hb]
        have : both xs (a, b) = false := by
          unfold both
          simp only
          rw [Bool.and_eq_false_iff]
          by_cases h1 : hasE xs a b = true
          · exact .inr (by simpa using fun h2 => hb ⟨h1, h2⟩)
          · exact .inl (by simpa using h1)
        simp [this]
    · rw [if_neg hin]
      by_cases hb : hasE xs a b = true ∧ hasE xs b a = true
      · exfalso
        obtain ⟨x, hx, h1, h2⟩ := hasE_iff.1 hb.1
        exact hin ((pairsOf_mem hs).2 ⟨(hm _).2 ⟨x, hx, .inl h1⟩, (hm _).2 ⟨x, hx, .inr h2⟩, hab⟩)
      · rw [if_neg hb]
        rfl
end Go.Proofs.Ythoniedmeeahgaa
