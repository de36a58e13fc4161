/-
  What nets may be; the web while it is made; its rows sorted; what is left. No program in sight.
-/
import Derived.Test.YthoniedmeeahgaaSortI
import Derived.Test.YthoniedmeeahgaaNext
namespace Go.Proofs.Ythoniedmeeahgaa

/-- A net of parties 0 to 15. -/
structure MayN (x : NetD) : Prop where
  f : 0 ≤ x.f ∧ x.f ≤ 15
  t : 0 ≤ x.t ∧ x.t ≤ 15
  ne : x.f ≠ x.t
  l : 0 ≤ x.l ∧ x.l ≤ 1
  a : 0 ≤ x.a ∧ x.a ≤ 3
  n : 1 ≤ x.n ∧ x.n ≤ 1099511627776
/-- Two are of one asset of the same two. -/
def clash (x y : NetD) : Prop := x.l = y.l ∧ x.a = y.a ∧ ((x.f = y.f ∧ x.t = y.t) ∨ (x.f = y.t ∧ x.t = y.f))
structure MayX (xs : List NetD) : Prop where
  each : ∀ x ∈ xs, MayN x
  two : xs.Pairwise (fun x y => ¬ clash x y)
  len : xs.length ≤ 100
theorem wf_small {n : Int} (h : 0 ≤ n ∧ n ≤ 1099511627776) : wf64 n := by
  unfold wf64
  simp [Lit.wf, IntKind.min, IntKind.max, IntKind.bits, IntKind.signed]
  omega
theorem MayX.wf {xs : List NetD} (h : MayX xs) : ∀ x ∈ xs, wf64 x.f ∧ wf64 x.t := fun x hx => by
  have := h.each x hx
  exact ⟨wf_small (by have := this.f; omega), wf_small (by have := this.t; omega)⟩
theorem MayX.all {xs : List NetD} (h : MayX xs) : ∀ q ∈ allOf xs, 0 ≤ q ∧ q ≤ 15 := fun q hq => by
  obtain ⟨x, hx, e | e⟩ := ((allOf_ok xs).2 q).1 hq
  · rw [← e]; exact (h.each x hx).f
  · rw [← e]; exact (h.each x hx).t
theorem range_len {L : List Int} {n : Nat} (hnd : L.Nodup) (h : ∀ q ∈ L, 0 ≤ q ∧ q < n) : L.length ≤ n := by
  have := nodup_sub (L := (List.range n).map fun k : Nat => (k : Int)) hnd (fun q hq => by
    have := h q hq
    exact List.mem_map.2 ⟨q.toNat, List.mem_range.2 (by omega), by omega⟩)
  simpa using this
theorem MayX.all_len {xs : List NetD} (h : MayX xs) : (allOf xs).length ≤ 16 := by
  refine range_len (n := 16) ?_ (fun q hq => by have := h.all q hq; omega)
  exact (allOf_ok xs).1.imp (fun hlt e => by omega)
theorem MayX.take {xs : List NetD} (h : MayX xs) (k : Nat) : MayX (xs.take k) :=
  ⟨fun x hx => h.each x (List.mem_of_mem_take hx), h.two.sublist (List.take_sublist k xs), by have := h.len; rw [List.length_take]; omega⟩
/-- Of one edge no two items are of one asset. -/
theorem pick_apart {xs : List NetD} (h : MayX xs) (f t : Int) : (pick xs f t).Pairwise (fun x y => ¬ (x.l = y.l ∧ x.a = y.a)) := by
  unfold pick
  rw [List.pairwise_map]
  refine List.Pairwise.imp_of_mem ?_ (h.two.filter _)
  intro x y hx hy hne ⟨e1, e2⟩
  have h1 := (List.mem_filter.1 hx).2
  have h2 := (List.mem_filter.1 hy).2
  simp at h1 h2
  exact hne ⟨e1, e2, .inl ⟨by rw [h1.1, h2.1], by rw [h1.2, h2.2]⟩⟩
theorem pick_mem {xs : List NetD} {f t : Int} {i : ItD} (h : i ∈ pick xs f t) : ∃ x ∈ xs, x.f = f ∧ x.t = t ∧ i = ⟨x.l, x.a, x.n⟩ := by
  unfold pick at h
  obtain ⟨x, hx, rfl⟩ := List.mem_map.1 h
  obtain ⟨h1, h2⟩ := List.mem_filter.1 hx
  simp at h2
  exact ⟨x, h1, h2.1, h2.2, rfl⟩
theorem pick_len {xs : List NetD} (h : MayX xs) (f t : Int) : (pick xs f t).length ≤ 8 := by
  have hnd : ((pick xs f t).map fun i => i.l * 4 + i.a).Nodup := by
    unfold List.Nodup
    rw [List.pairwise_map]
    refine List.Pairwise.imp_of_mem ?_ (pick_apart h f t)
    intro i j hi hj hne e
    obtain ⟨x, hx, _, _, rfl⟩ := pick_mem hi
    obtain ⟨y, hy, _, _, rfl⟩ := pick_mem hj
    have h1 := (h.each x hx).l
    have h2 := (h.each x hx).a
    have h3 := (h.each y hy).l
    have h4 := (h.each y hy).a
    simp only at e hne
    exact hne (by omega)
  have := range_len (n := 8) hnd (fun q hq => by
    obtain ⟨i, hi, rfl⟩ := List.mem_map.1 hq
    obtain ⟨x, hx, _, _, rfl⟩ := pick_mem hi
    have h1 := (h.each x hx).l
    have h2 := (h.each x hx).a
    simp only
    omega)
  simpa using this
/-- The web while it is made. -/
def TPick (xs : List NetD) : EdD → List ItD := fun K => pick xs K.f K.t
theorem pick_snoc (xs : List NetD) (x : NetD) (K : EdD) : pick (xs ++ [x]) K.f K.t = if K = ⟨x.f, x.t⟩ then pick xs K.f K.t ++ [⟨x.l, x.a, x.n⟩] else pick xs K.f K.t := by
  obtain ⟨f, t⟩ := K
  unfold pick
  rw [List.filter_append, List.map_append]
  by_cases e : (⟨f, t⟩ : EdD) = ⟨x.f, x.t⟩
  · injection e with e1 e2
    subst e1 e2
    simp
  · have : ¬ (x.f = f ∧ x.t = t) := fun h => e (by rw [h.1, h.2])
    rw [if_neg e, List.filter_cons, if_neg (by simpa using this)]
    simp
theorem TPick_succ {xs : List NetD} {k : Nat} (hk : k < xs.length) : TPick (xs.take (k + 1)) = fun K => if K = ⟨xs[k].f, xs[k].t⟩ then TPick (xs.take k) K ++ [⟨xs[k].l, xs[k].a, xs[k].n⟩] else TPick (xs.take k) K := by
  funext K
  unfold TPick
  rw [List.take_succ_eq_append_getElem hk, pick_snoc]
theorem TPick_ne {xs : List NetD} (h : MayX xs) {K : EdD} (hne : TPick xs K ≠ []) : K.wf := by
  obtain ⟨i, hi⟩ := List.exists_mem_of_ne_nil _ hne
  obtain ⟨x, hx, e1, e2, _⟩ := pick_mem hi
  have := h.wf x hx
  rw [e1, e2] at this
  exact this
/-- Sorted: nobody's key is above a later one's. -/
theorem insIt_sorted {x : ItD} : ∀ {is : List ItD}, is.Pairwise (fun x y => lessI y x = false) → (insIt x is).Pairwise (fun x y => lessI y x = false) := by
  intro is
  induction is with
  | nil => intro _; simp [insIt]
  | cons y is ih =>
    intro h
    have h' := List.pairwise_cons.1 h
    have hl : itLt x y = true ↔ iLt x y := by simp [itLt, iLt]
    have hf : ∀ {a b : ItD}, lessI a b = false ↔ ¬ iLt a b := fun {a b} => by rw [← lessI_iff]; simp
    unfold insIt
    by_cases hlt : itLt x y = true
    · rw [if_pos hlt, List.pairwise_cons]
      refine ⟨fun z hz => ?_, h⟩
      rw [hf]
      have h1 := hl.1 hlt
      rcases List.mem_cons.1 hz with rfl | hz
      · unfold iLt at *; omega
      · have h2 := hf.1 (h'.1 z hz)
        unfold iLt at *; omega
    · rw [if_neg hlt, List.pairwise_cons]
      refine ⟨fun z hz => ?_, ih h'.2⟩
      rcases List.mem_cons.1 ((insIt_perm x is).mem_iff.1 hz) with rfl | hz
      · rw [hf]
        exact fun h => hlt (hl.2 h)
      · exact h'.1 z hz
theorem sortIt_sorted (is : List ItD) : (sortIt is).Pairwise (fun x y => lessI y x = false) := by
  have : ∀ (is acc : List ItD), acc.Pairwise (fun x y => lessI y x = false) → (is.foldl (fun acc x => insIt x acc) acc).Pairwise (fun x y => lessI y x = false) := by
    intro is
    induction is with
    | nil => intro acc h; exact h
    | cons x is ih => intro acc h; exact ih _ (insIt_sorted h)
  exact this is [] List.Pairwise.nil
theorem sort_one {is ys : List ItD} (ha : is.Pairwise (fun x y => ¬ (x.l = y.l ∧ x.a = y.a))) (hp : ys.Perm is) (hs : ys.Pairwise (fun x y => lessI y x = false)) : ys = sortIt is := by
  have hf : ∀ {a b : ItD}, lessI a b = false ↔ ¬ iLt a b := fun {a b} => by rw [← lessI_iff]; simp
  have strict : ∀ zs : List ItD, zs.Perm is → zs.Pairwise (fun x y => lessI y x = false) → zs.Pairwise iLt := fun zs hz hzs => by
    have hap : zs.Pairwise (fun x y => ¬ (x.l = y.l ∧ x.a = y.a)) := (hz.pairwise_iff (fun {x y} h e => h ⟨e.1.symm, e.2.symm⟩)).2 ha
    refine (hap.and hzs).imp ?_
    intro x y ⟨h1, h2⟩
    have h2 := hf.1 h2
    unfold iLt at *
    omega
  refine sorted_same (lt := iLt) (fun x => by unfold iLt; omega) (fun x y => by unfold iLt; omega) _ _ (strict ys hp hs) (strict _ (sortIt_perm is) (sortIt_sorted is)) (fun x => ?_)
  rw [hp.mem_iff, (sortIt_perm is).mem_iff]
theorem TOf_sort (xs : List NetD) : (fun K => sortIt (TPick xs K)) = TOf xs := rfl
/-- What is left is what the web still holds. -/
def Whole (xs L : List NetD) : Prop := L = xs.filter fun x => hasE L x.f x.t
theorem whole_self (xs : List NetD) : Whole xs xs := by
  unfold Whole
  rw [List.filter_eq_self.2]
  intro x hx
  exact hasE_iff.2 ⟨x, hx, rfl, rfl⟩
theorem whole_cut {xs L : List NetD} (h : Whole xs L) (f t : Int) : Whole xs (cut L f t) := by
  unfold Whole at *
  have e1 : cut L f t = xs.filter (fun x => !isE f t x && hasE L x.f x.t) := by
    rw [cut_eq]
    conv => lhs; rw [h]
    rw [List.filter_filter]
  conv => lhs; rw [e1]
  refine List.filter_congr (fun x _ => ?_)
  by_cases he : isE f t x = true
  · have : hasE (cut L f t) x.f x.t = false := by
      have e : x.f = f ∧ x.t = t := by simpa [isE] using he
      rw [e.1, e.2]
      have e2 : (cut L f t).filter (isE f t) = ([] : List NetD).filter (isE f t) := by rw [filter_cut_self]; rfl
      rw [hasE_filter e2]
      rfl
    rw [he, this]
    rfl
  · have hne : ¬ (f = x.f ∧ t = x.t) := fun e => he (by simp [isE, e.1, e.2])
    rw [hasE_filter (filter_cut hne)]
    simp [he]
theorem whole_twos : ∀ (P : List (Int × Int)) {xs L : List NetD}, Whole xs L → Whole xs (twos L P).2 := by
  intro P
  induction P with
  | nil => intro xs L h; exact h
  | cons p P ih =>
    obtain ⟨a, b⟩ := p
    intro xs L h
    unfold twos
    split
    · exact ih (whole_cut (whole_cut h a b) b a)
    · exact ih h
theorem whole_cutN {xs L : List NetD} (h : Whole xs L) (c : List Int) : ∀ m, Whole xs (cutN L c m) := by
  intro m
  induction m with
  | zero => exact h
  | succ m ih => rw [cutN_succ]; exact whole_cut ih _ _
theorem whole_circles (all : List Int) : ∀ (n : Nat) {xs L : List NetD}, Whole xs L → Whole xs (circles all n L).2 := by
  intro n
  induction n with
  | zero => intro xs L h; exact h
  | succ n ih =>
    intro xs L h
    unfold circles
    simp only
    split
    · exact h
    · exact ih (whole_cutN h _ _)
/-- The state of the search for circles. -/
structure ClAt (xs : List NetD) (rs : List RingD) (X : List NetD) (k : Nat) : Prop where
  sub : ∀ x ∈ X, x ∈ xs
  whole : Whole xs X
  left : ∃ n, X.length < n ∧ ringsOf xs = (rs ++ (circles (allOf xs) n X).1, (circles (allOf xs) n X).2)
  meas : X.length = k
theorem ClAt.start (xs : List NetD) : ClAt xs (twos xs (pairsOf (allOf xs))).1 (twos xs (pairsOf (allOf xs))).2 (twos xs (pairsOf (allOf xs))).2.length := by
  obtain ⟨hs, hm⟩ := allOf_ok xs
  obtain ⟨_, t2, t3, _⟩ := twos_ok (pairsOf (allOf xs)) xs (pairsOf_nodup hs) (fun p hp => ((pairsOf_mem hs).1 hp).2.2)
  refine ⟨t3, whole_twos _ (whole_self xs), ⟨xs.length + 1, ?_, rfl⟩, rfl⟩
  have := t2.length_eq
  rw [List.length_append] at this
  omega
theorem ClAt.over {xs X : List NetD} {rs : List RingD} {k : Nat} (h : ClAt xs rs X k) (hf : firstC X (allOf xs) (allOf xs) = []) : ringsOf xs = (rs, X) := by
  obtain ⟨n, hn, e⟩ := h.left
  obtain ⟨n', rfl⟩ : ∃ n', n = n' + 1 := ⟨n - 1, by omega⟩
  rw [e]
  unfold circles
  simp [hf]
theorem ClAt.next {xs X : List NetD} {rs : List RingD} {k : Nat} (h : ClAt xs rs X k) (hf : firstC X (allOf xs) (allOf xs) ≠ []) : ClAt xs (rs ++ [ringOf X (firstC X (allOf xs) (allOf xs))]) (cutAll X (firstC X (allOf xs) (allOf xs))) (cutAll X (firstC X (allOf xs) (allOf xs))).length ∧ (cutAll X (firstC X (allOf xs) (allOf xs))).length < k := by
  obtain ⟨hs, hm⟩ := allOf_ok xs
  obtain ⟨n, hn, e⟩ := h.left
  obtain ⟨n', rfl⟩ : ∃ n', n = n' + 1 := ⟨n - 1, by omega⟩
  obtain ⟨s, _, e1, hne, _⟩ := firstC_some hs hf
  have hC := (circleL_some hne).1
  rw [← e1] at hC
  have hlt := cutAll_lt hC
  have hk := h.meas
  refine ⟨⟨fun x hx => h.sub x ((cutN_sub X _ _).subset hx), whole_cutN h.whole _ _, ⟨n', by omega, ?_⟩, rfl⟩, by omega⟩
  rw [e]
  conv => lhs; unfold circles
  simp [hf]
theorem edges_sub {xs X : List NetD} (h : ∀ x ∈ X, x ∈ xs) : ∀ x ∈ X, x.f ∈ allOf xs ∧ x.t ∈ allOf xs := fun x hx => ⟨((allOf_ok xs).2 _).2 ⟨x, h x hx, .inl rfl⟩, ((allOf_ok xs).2 _).2 ⟨x, h x hx, .inr rfl⟩⟩
end Go.Proofs.Ythoniedmeeahgaa
