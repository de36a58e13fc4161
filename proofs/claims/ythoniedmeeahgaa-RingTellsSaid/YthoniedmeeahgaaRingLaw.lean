/-
  Rings: each net is in one ring or left; what is left goes round nowhere. No program in sight.
-/
import Derived.Test.YthoniedmeeahgaaRingWalk
namespace Go.Proofs.Ythoniedmeeahgaa

theorem hasE_iff {xs : List NetD} {f t : Int} : hasE xs f t = true ↔ ∃ x ∈ xs, x.f = f ∧ x.t = t := by
  simp [hasE]
theorem insIt_perm (x : ItD) (is : List ItD) : (insIt x is).Perm (x :: is) := by
  induction is with
  | nil => exact List.Perm.refl _
  | cons y ys ih =>
    unfold insIt
    split
    · exact List.Perm.refl _
    · exact (List.Perm.cons y ih).trans (List.Perm.swap x y ys)
theorem sortIt_perm (is : List ItD) : (sortIt is).Perm is := by
  have : ∀ (is acc : List ItD), (is.foldl (fun acc x => insIt x acc) acc).Perm (acc ++ is) := by
    intro is
    induction is with
    | nil => intro acc; simp
    | cons x xs ih =>
      intro acc
      rw [List.foldl_cons]
      refine (ih _).trans (((insIt_perm x acc).append_right xs).trans ?_)
      simpa using (List.perm_middle (a := x) (l₁ := acc) (l₂ := xs)).symm
  have h := this is []
  rw [List.nil_append] at h
  exact h
def mkN (f t : Int) (i : ItD) : NetD := ⟨f, t, i.l, i.a, i.n⟩
def isE (f t : Int) (x : NetD) : Bool := x.f == f && x.t == t
theorem cut_eq (xs : List NetD) (f t : Int) : cut xs f t = xs.filter fun x => !isE f t x := rfl
theorem pick_back (xs : List NetD) (f t : Int) : (pick xs f t).map (mkN f t) = xs.filter (isE f t) := by
  unfold pick
  rw [List.map_map]
  have : ∀ x ∈ xs.filter (isE f t), (mkN f t ∘ fun x : NetD => (⟨x.l, x.a, x.n⟩ : ItD)) x = x := by
    intro x hx
    have := (List.mem_filter.1 hx).2
    simp [isE] at this
    obtain ⟨rfl, rfl⟩ := this
    rfl
  exact (List.map_congr_left this).trans (List.map_id'' (fun _ => rfl) _)
theorem items_back (xs : List NetD) (f t : Int) : ((items xs f t).map (mkN f t)).Perm (xs.filter (isE f t)) := by
  rw [← pick_back]
  exact (sortIt_perm _).map _
theorem items_ne {xs : List NetD} {f t : Int} (h : hasE xs f t = true) : items xs f t ≠ [] := by
  obtain ⟨x, hx, h1, h2⟩ := hasE_iff.1 h
  intro e
  have := items_back xs f t
  rw [e] at this
  have hm : x ∈ xs.filter (isE f t) := List.mem_filter.2 ⟨hx, by simp [isE, h1, h2]⟩
  have := this.symm.subset hm
  simp at this
theorem split_perm (xs : List NetD) (f t : Int) : ((items xs f t).map (mkN f t) ++ cut xs f t).Perm xs := by
  rw [cut_eq]
  exact ((items_back xs f t).append_right _).trans (List.filter_append_perm (isE f t) xs)
theorem filter_cut {xs : List NetD} {f t f' t' : Int} (h : ¬ (f = f' ∧ t = t')) : (cut xs f t).filter (isE f' t') = xs.filter (isE f' t') := by
  rw [cut_eq, List.filter_filter]
  refine List.filter_congr (fun x _ => ?_)
  cases e : isE f' t' x with
  | false => rfl
  | true =>
    simp [isE] at e
    have : isE f t x = false := by
      simp only [isE]
      rw [e.1, e.2]
      simp only [Bool.and_eq_false_iff, beq_eq_false_iff_ne]
      by_cases h1 : f' = f
      · exact .inr (fun h2 => h ⟨h1.symm, h2.symm⟩)
      · exact .inl h1
    simp [this]
def cutN (xs : List NetD) (c : List Int) (m : Nat) : List NetD := (List.range m).foldl (fun ys k => cut ys (c.getD k 0) (nextOf c k)) xs
theorem cutN_succ (xs : List NetD) (c : List Int) (m : Nat) : cutN xs c (m + 1) = cut (cutN xs c m) (c.getD m 0) (nextOf c m) := by
  unfold cutN
  rw [List.range_succ, List.foldl_append]
  rfl
theorem cutN_sub (xs : List NetD) (c : List Int) (m : Nat) : (cutN xs c m).Sublist xs := by
  induction m with
  | zero => exact List.Sublist.refl _
  | succ m ih => rw [cutN_succ]; exact List.filter_sublist.trans ih
theorem cutN_filter {xs : List NetD} {c : List Int} (hnd : c.Nodup) {m k : Nat} (hmk : m ≤ k) (hk : k < c.length) : (cutN xs c m).filter (isE (c.getD k 0) (nextOf c k)) = xs.filter (isE (c.getD k 0) (nextOf c k)) := by
  induction m with
  | zero => rfl
  | succ m ih =>
    rw [cutN_succ, filter_cut, ih (by omega)]
    intro h
    have h1 := h.1
    rw [getD_eq (by omega), getD_eq hk] at h1
    have := (List.getElem_inj hnd).1 h1
    omega
/-- The nets of a ring. -/
def netsR (r : RingD) : List NetD := (List.range r.ps.length).flatMap fun k => (r.legs.getD k []).map (mkN (r.ps.getD k 0) (nextOf r.ps k))
theorem ringOf_leg (xs : List NetD) (c : List Int) {k : Nat} (hk : k < c.length) : (ringOf xs c).legs.getD k [] = items xs (c.getD k 0) (nextOf c k) := by
  unfold ringOf
  rw [getD_eq (by simpa using hk)]
  simp
theorem ringOf_leg_flat {xs : List NetD} {c : List Int} {m : Nat} (hm : m + 1 ≤ c.length) : [m].flatMap (fun k => ((ringOf xs c).legs.getD k []).map (mkN (c.getD k 0) (nextOf c k))) = (items xs (c.getD m 0) (nextOf c m)).map (mkN (c.getD m 0) (nextOf c m)) := by
  rw [List.flatMap_cons, List.flatMap_nil, List.append_nil, ringOf_leg xs c (by omega)]
theorem ring_perm {xs : List NetD} {c : List Int} (hnd : c.Nodup) : (netsR (ringOf xs c) ++ cutAll xs c).Perm xs := by
  have : ∀ m, m ≤ c.length → (((List.range m).flatMap fun k => ((ringOf xs c).legs.getD k []).map (mkN (c.getD k 0) (nextOf c k))) ++ cutN xs c m).Perm xs := by
    intro m
    induction m with
    | zero => intro _; exact List.Perm.refl _
    | succ m ih =>
      intro hm
      rw [List.range_succ, List.flatMap_append, cutN_succ, ringOf_leg_flat hm, List.append_assoc]
      refine List.Perm.trans ?_ (ih (by omega))
      refine List.Perm.append_left _ ?_
      have h1 := split_perm (cutN xs c m) (c.getD m 0) (nextOf c m)
      have h2 : ((items xs (c.getD m 0) (nextOf c m)).map (mkN (c.getD m 0) (nextOf c m))).Perm ((items (cutN xs c m) (c.getD m 0) (nextOf c m)).map (mkN (c.getD m 0) (nextOf c m))) := by
        refine (items_back _ _ _).trans ?_
        rw [← cutN_filter hnd (Nat.le_refl m) (by omega)]
        exact (items_back _ _ _).symm
      exact (h2.append_right _).trans h1
  exact this c.length (Nat.le_refl _)

/-- What a ring is. -/
structure GoodR (r : RingD) : Prop where
  two : 2 ≤ r.ps.length
  nd : r.ps.Nodup
  legs : r.legs.length = r.ps.length
  ne : ∀ k, k < r.ps.length → r.legs.getD k [] ≠ []
  low : ∀ k, 0 < k → k < r.ps.length → r.ps.getD 0 0 < r.ps.getD k 0
theorem circ_mono {xs ys : List NetD} {c : List Int} (h : Circ ys c) (hs : ∀ x ∈ ys, x ∈ xs) : Circ xs c :=
  ⟨h.ne, h.nd, fun k hk => by
    obtain ⟨x, hx, h1⟩ := hasE_iff.1 (h.gives k hk)
    exact hasE_iff.2 ⟨x, hs x hx, h1⟩⟩
theorem circ_two {xs : List NetD} {c : List Int} (h : Circ xs c) (hself : ∀ x ∈ xs, x.f ≠ x.t) : 2 ≤ c.length := by
  have hp : 0 < c.length := List.length_pos_iff.2 h.ne
  by_cases h1 : c.length = 1
  · have := h.gives 0 hp
    unfold nextOf at this
    rw [h1] at this
    obtain ⟨x, hx, h2, h3⟩ := hasE_iff.1 this
    exact absurd (h2.trans h3.symm) (hself x hx)
  · omega
theorem firstC_none {xs : List NetD} {all : List Int} : ∀ {ss : List Int}, firstC xs all ss = [] → ∀ s ∈ ss, circleL xs all s = [] := by
  intro ss
  induction ss with
  | nil => intro _ s hs; simp at hs
  | cons a as ih =>
    intro h s hs
    unfold firstC at h
    simp only at h
    by_cases hc : (circleL xs all a).isEmpty = true
    · rw [if_pos hc] at h
      rcases List.mem_cons.1 hs with rfl | hs
      · simpa using hc
      · exact ih h s hs
    · rw [if_neg hc] at h
      rw [h] at hc
      simp at hc
theorem firstC_some {xs : List NetD} {all : List Int} : ∀ {ss : List Int}, ss.Pairwise (· < ·) → firstC xs all ss ≠ [] → ∃ s ∈ ss, firstC xs all ss = circleL xs all s ∧ circleL xs all s ≠ [] ∧ ∀ q ∈ ss, q < s → circleL xs all q = [] := by
  intro ss
  induction ss with
  | nil => intro _ h; exact absurd rfl h
  | cons a as ih =>
    intro hp h
    rw [List.pairwise_cons] at hp
    unfold firstC at h ⊢
    simp only at h ⊢
    by_cases hc : (circleL xs all a).isEmpty = true
    · rw [if_pos hc] at h ⊢
      obtain ⟨s, h1, h2, h3, h4⟩ := ih hp.2 h
      refine ⟨s, by simp [h1], h2, h3, fun q hq hlt => ?_⟩
      rcases List.mem_cons.1 hq with rfl | hq
      · simpa using hc
      · exact h4 q hq hlt
    · rw [if_neg hc] at h ⊢
      refine ⟨a, by simp, rfl, h, fun q hq hlt => ?_⟩
      rcases List.mem_cons.1 hq with rfl | hq
      · omega
      · have := hp.1 q hq
        omega
/-- What the search for circles leaves and finds. -/
structure Outcome (xs : List NetD) (all : List Int) (rs : List RingD) (left : List NetD) : Prop where
  perm : (rs.flatMap netsR ++ left).Perm xs
  good : ∀ r ∈ rs, GoodR r ∧ (∀ p ∈ r.ps, p ∈ all) ∧ Circ xs r.ps
  none : ∀ c, ¬ Circ left c
theorem cutAll_lt {xs : List NetD} {c : List Int} (hc : Circ xs c) : (cutAll xs c).length < xs.length := by
  have h := (ring_perm (xs := xs) hc.nd).length_eq
  rw [List.length_append] at h
  have hp : 0 < c.length := List.length_pos_iff.2 hc.ne
  have h1 : 0 < (netsR (ringOf xs c)).length := by
    have hne := items_ne (hc.gives 0 hp)
    rw [← ringOf_leg xs c hp] at hne
    obtain ⟨i, is, e⟩ := List.exists_cons_of_ne_nil hne
    refine List.length_pos_of_mem (a := mkN (c.getD 0 0) (nextOf c 0) i) ?_
    unfold netsR
    rw [List.mem_flatMap]
    refine ⟨0, List.mem_range.2 hp, ?_⟩
    rw [e]
    simp [ringOf]
  omega
theorem circles_ok {all : List Int} (hp : all.Pairwise (· < ·)) : ∀ (n : Nat) (xs : List NetD), xs.length < n → (∀ x ∈ xs, x.f ∈ all ∧ x.t ∈ all ∧ x.f ≠ x.t) → Outcome xs all (circles all n xs).1 (circles all n xs).2 := by
  intro n
  induction n with
  | zero => intro xs h; omega
  | succ n ih =>
    intro xs hlen hx
    have hall : ∀ p q, hasE xs p q = true → q ∈ all := fun p q h => by
      obtain ⟨x, h1, _, rfl⟩ := hasE_iff.1 h
      exact (hx x h1).2.1
    unfold circles
    simp only
    by_cases hc : (firstC xs all all).isEmpty = true
    · rw [if_pos hc]
      refine ⟨by simp, by simp, fun c hC => ?_⟩
      have h0 : 0 < c.length := List.length_pos_iff.2 hC.ne
      obtain ⟨x, h1, h2, h3⟩ := hasE_iff.1 (hC.gives 0 h0)
      have hin : c.getD 0 0 ∈ all := by rw [← h2]; exact (hx x h1).1
      exact circleL_none hall (firstC_none (by simpa using hc) _ hin) hC (getD_mem' h0 0)
    · rw [if_neg hc]
      obtain ⟨s, hs, e1, hne, hlow⟩ := firstC_some hp (by simpa using hc)
      obtain ⟨hC, h0, hsub⟩ := circleL_some hne
      rw [← e1] at hC h0 hsub
      generalize firstC xs all all = c at hc hC h0 hsub e1
      have hlt := cutAll_lt hC
      have hsubl : ∀ x ∈ cutAll xs c, x ∈ xs := fun x hx' => (cutN_sub xs c c.length).subset hx'
      have hI := ih (cutAll xs c) (by omega) (fun x hx' => hx x (hsubl x hx'))
      refine ⟨?_, fun r hr => ?_, hI.none⟩
      · rw [List.flatMap_cons, List.append_assoc]
        exact (List.Perm.append_left _ hI.perm).trans (ring_perm hC.nd)
      · rcases List.mem_cons.1 hr with rfl | hr
        · refine ⟨⟨circ_two hC (fun x h => (hx x h).2.2), hC.nd, by simp [ringOf], fun k hk => ?_, fun k hk0 hk => ?_⟩, fun p hp' => ?_, hC⟩
          · rw [ringOf_leg xs c hk]
            exact items_ne (hC.gives k hk)
          · show c.getD 0 0 < c.getD k 0
            have hk' : k < c.length := hk
            have hmem := getD_mem' hk' 0
            have hne' : c.getD k 0 ≠ s := fun e => by
              rw [← h0, getD_eq hk', getD_eq (by omega)] at e
              have := (List.getElem_inj hC.nd).1 e
              omega
            have hka : c.getD k 0 ∈ all := by
              rcases hsub _ hmem with e | h
              · exact absurd e hne'
              · exact h
            rw [h0]
            by_cases hlt' : c.getD k 0 < s
            · exact absurd hmem (circleL_none hall (hlow _ hka hlt') hC)
            · omega
          · rcases hsub p hp' with rfl | h
            · exact hs
            · exact h
        · have := hI.good r hr
          exact ⟨this.1, this.2.1, circ_mono this.2.2 hsubl⟩
end Go.Proofs.Ythoniedmeeahgaa
