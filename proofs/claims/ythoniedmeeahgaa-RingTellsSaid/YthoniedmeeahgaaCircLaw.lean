/-
  The search for a circle by the web's edges: it is the search by the parties. No program in sight.
-/
import Derived.Test.YthoniedmeeahgaaWebPairs
namespace Go.Proofs.Ythoniedmeeahgaa

def stepE (p : Int) (at_ : Nat) (s : List Int × List Nat) (e : EdD) : List Int × List Nat := if e.f = p ∧ e.t ∉ s.1 then (s.1 ++ [e.t], s.2 ++ [at_]) else s
def reachE (p : Int) (at_ : Nat) (es : List EdD) (s : List Int × List Nat) : List Int × List Nat := es.foldl (stepE p at_) s
theorem reachE_snoc (p : Int) (at_ : Nat) (es : List EdD) (s : List Int × List Nat) (m : Nat) (hm : m < es.length) : reachE p at_ (es.take (m + 1)) s = stepE p at_ (reachE p at_ (es.take m) s) es[m] := by
  unfold reachE
  rw [List.take_succ_eq_append_getElem hm, List.foldl_append]
  rfl
theorem reachE_reach {xs : List NetD} (p : Int) (at_ : Nat) : ∀ (es : List EdD), (∀ e ∈ es, hasE xs e.f e.t = true) → ∀ ord by_, reachE p at_ es (ord, by_) = reach xs p at_ ((es.filter fun e => decide (e.f = p)).map fun e => e.t) ord by_ := by
  intro es
  induction es with
  | nil => intro _ ord by_; rfl
  | cons e es ih =>
    intro h ord by_
    have he := h e (by simp)
    have ih := ih (fun x hx => h x (by simp [hx]))
    show reachE p at_ es (stepE p at_ (ord, by_) e) = _
    by_cases hp : e.f = p
    · rw [List.filter_cons, if_pos (by simpa using hp), List.map_cons]
      unfold reach
      rw [← hp, he]
      by_cases hin : e.t ∈ ord
      · rw [show stepE e.f at_ (ord, by_) e = (ord, by_) by simp [stepE, hin], hp, ih]
        simp [hin]
      · rw [show stepE e.f at_ (ord, by_) e = (ord ++ [e.t], by_ ++ [at_]) by simp [stepE, hin], hp, ih]
        simp [hin]
    · rw [List.filter_cons, if_neg (by simpa using hp), show stepE p at_ (ord, by_) e = (ord, by_) by simp [stepE, hp], ih]
theorem reach_filter {xs : List NetD} (p : Int) (at_ : Nat) : ∀ (qs : List Int) (ord : List Int) (by_ : List Nat), reach xs p at_ (qs.filter fun q => hasE xs p q) ord by_ = reach xs p at_ qs ord by_ := by
  intro qs
  induction qs with
  | nil => intro ord by_; rfl
  | cons q qs ih =>
    intro ord by_
    rw [List.filter_cons]
    by_cases h : hasE xs p q = true
    · rw [if_pos h]
      unfold reach
      rw [ih, ih]
    · rw [if_neg h, ih]
      conv => rhs; unfold reach
      rw [if_neg (by simp [h])]
theorem edges_has {xs : List NetD} {es : List EdD} (h : EdgesT (TOf xs) es) {e : EdD} : e ∈ es ↔ hasE xs e.f e.t = true := by
  rw [h.2, TOf_ne]
theorem edges_from {xs : List NetD} {all : List Int} {es : List EdD} (h : EdgesT (TOf xs) es) (hp : all.Pairwise (· < ·)) (hall : ∀ x ∈ xs, x.t ∈ all) (p : Int) : ((es.filter fun e => decide (e.f = p)).map fun e => e.t) = all.filter fun q => hasE xs p q := by
  refine sorted_same (lt := fun x y : Int => x < y) (fun x => by omega) (fun x y => by omega) _ _ ?_ (hp.filter _) ?_
  · rw [List.pairwise_map]
    refine List.Pairwise.imp_of_mem ?_ (h.1.filter _)
    intro a b ha hb hab
    have h1 := (List.mem_filter.1 ha).2
    have h2 := (List.mem_filter.1 hb).2
    simp at h1 h2
    unfold edLt at hab
    omega
  · intro q
    rw [List.mem_map, List.mem_filter]
    constructor
    · rintro ⟨e, he, rfl⟩
      obtain ⟨h1, h2⟩ := List.mem_filter.1 he
      have h2 : e.f = p := by simpa using h2
      have h3 := (edges_has h).1 h1
      rw [← h2]
      obtain ⟨x, hx, _, e2⟩ := hasE_iff.1 h3
      exact ⟨by rw [← e2]; exact hall x hx, h3⟩
    · rintro ⟨h1, h2⟩
      exact ⟨⟨p, q⟩, List.mem_filter.2 ⟨(edges_has h).2 h2, by simp⟩, rfl⟩
theorem reach_edges {xs : List NetD} {all : List Int} {es : List EdD} (h : EdgesT (TOf xs) es) (hp : all.Pairwise (· < ·)) (hall : ∀ x ∈ xs, x.t ∈ all) (p : Int) (at_ : Nat) (ord : List Int) (by_ : List Nat) :
    reachE p at_ es (ord, by_) = reach xs p at_ all ord by_ := by
  rw [reachE_reach (xs := xs) p at_ es (fun e he => (edges_has h).1 he), edges_from h hp hall, reach_filter]
/-- What the program's map says of whom one was reached from. -/
structure ByOf (ord : List Int) (by_ : List Nat) (M : Int → Option Int) : Prop where
  dom : ∀ q, (M q).isSome = true ↔ q ∈ ord
  val : ∀ k, k < ord.length → M (ord.getD k 0) = some (ord.getD (by_.getD k 0) 0)
def updI (M : Int → Option Int) (q x : Int) : Int → Option Int := fun q' => if q' = q then some x else M q'
theorem ByOf.step {ord : List Int} {by_ : List Nat} {M : Int → Option Int} (h : ByOf ord by_ M) (hl : by_.length = ord.length) (hlt : ∀ k, k < ord.length → by_.getD k 0 < ord.length) {at_ : Nat} (hat : at_ < ord.length) {q : Int} (hq : q ∉ ord) : ByOf (ord ++ [q]) (by_ ++ [at_]) (updI M q (ord.getD at_ 0)) := by
  refine ⟨fun x => ?_, fun k hk => ?_⟩
  · unfold updI
    by_cases e : x = q
    · rw [if_pos e]
      simp [e]
    · rw [if_neg e, h.dom]
      simp [e]
  · unfold updI
    by_cases hk' : k < ord.length
    · have hne : ord.getD k 0 ≠ q := fun e => hq (by rw [← e]; exact getD_mem' hk' 0)
      rw [getD_append_left' hk', if_neg hne, h.val k hk', getD_append_left' (show k < by_.length by omega), getD_append_left' (hlt k hk')]
    · have e0 : k = ord.length := by simp at hk; omega
      subst e0
      have e1 : (by_ ++ [at_]).getD ord.length 0 = at_ := by rw [← hl, getD_eq (by simp)]; simp
      have e2 : (ord ++ [q]).getD ord.length 0 = q := by rw [getD_eq (by simp)]; simp
      rw [e1, e2, if_pos rfl, getD_append_left' hat]
theorem ByOf.start (s : Int) : ByOf [s] [0] (updI (fun _ => none) s s) := by
  refine ⟨fun x => ?_, fun k hk => ?_⟩
  · unfold updI
    by_cases e : x = s <;> simp [e]
  · simp at hk
    subst hk
    simp [updI]
theorem SeaInv.by_lt {xs : List NetD} {all : List Int} {s : Int} {at_ : Nat} {ord : List Int} {by_ : List Nat} (h : SeaInv xs all s at_ ord by_) (h0 : by_.getD 0 0 = 0) : ∀ k, k < ord.length → by_.getD k 0 < ord.length := by
  intro k hk
  by_cases hk0 : k = 0
  · subst hk0
    rw [h0]
    exact h.pos
  · have := (h.par k (by omega) hk).1
    omega
/-- The search at a round's head. -/
structure CrAt (xs : List NetD) (all : List Int) (s : Int) (at_ : Nat) (ord : List Int) (by_ : List Nat) (M : Int → Option Int) : Prop where
  inv : SeaInv xs all s at_ ord by_
  b0 : by_.getD 0 0 = 0
  byOf : ByOf ord by_ M
  left : ∃ n, n + at_ = all.length + 1 ∧ circleL xs all s = walkC xs all s n at_ ord by_
theorem CrAt.start (xs : List NetD) (all : List Int) (s : Int) : CrAt xs all s 0 [s] [0] (updI (fun _ => none) s s) := ⟨SeaInv.start xs all s, rfl, ByOf.start s, ⟨all.length + 1, rfl, rfl⟩⟩
section
variable {xs : List NetD} {all : List Int} {s : Int} {at_ : Nat} {ord : List Int} {by_ : List Nat} {M : Int → Option Int}
theorem CrAt.len (h : CrAt xs all s at_ ord by_ M) : ord.length ≤ all.length + 1 := nodup_le h.inv.nd h.inv.sub
theorem CrAt.over (h : CrAt xs all s at_ ord by_ M) (hat : ¬ at_ < ord.length) : circleL xs all s = [] := by
  obtain ⟨n, _, e⟩ := h.left
  rw [e]
  cases n with
  | zero => rfl
  | succ n => unfold walkC; rw [if_neg hat]
theorem CrAt.found (h : CrAt xs all s at_ ord by_ M) (hat : at_ < ord.length) (he : hasE xs (ord.getD at_ 0) s = true) : circleL xs all s = back ord by_ (at_ + 1) at_ [] := by
  obtain ⟨n, hn, e⟩ := h.left
  have := h.len
  obtain ⟨n', rfl⟩ : ∃ n', n = n' + 1 := ⟨n - 1, by omega⟩
  rw [e]
  unfold walkC
  rw [if_pos hat, if_pos he]
/-- While the edges are gone through. -/
theorem CrAt.mid (h : CrAt xs all s at_ ord by_ M) (hat : at_ < ord.length) {es : List EdD} (hes : ∀ e ∈ es, hasE xs e.f e.t = true) (hall : ∀ x ∈ xs, x.t ∈ all) :
    SeaInv xs all s at_ (reachE (ord.getD at_ 0) at_ es (ord, by_)).1 (reachE (ord.getD at_ 0) at_ es (ord, by_)).2 ∧ ∃ zs, (reachE (ord.getD at_ 0) at_ es (ord, by_)).1 = ord ++ zs := by
  rw [reachE_reach (xs := xs) _ at_ es hes]
  obtain ⟨h1, h2, _⟩ := reach_inv (xs := xs) (all := all) (s := s) ((es.filter fun e => decide (e.f = ord.getD at_ 0)).map fun e => e.t) (fun q hq => by
    rw [List.mem_map] at hq
    obtain ⟨e, he, rfl⟩ := hq
    obtain ⟨x, hx, _, e2⟩ := hasE_iff.1 (hes e (List.mem_filter.1 he).1)
    rw [← e2]
    exact hall x hx) h.inv hat
  exact ⟨h1, h2⟩
theorem reachE_b0 (p : Int) (at_ : Nat) : ∀ (es : List EdD) (ord : List Int) (by_ : List Nat), 0 < by_.length → by_.getD 0 0 = 0 → (reachE p at_ es (ord, by_)).2.getD 0 0 = 0 := by
  intro es
  induction es with
  | nil => intro ord by_ _ h; exact h
  | cons e es ih =>
    intro ord by_ h0 h
    show (reachE p at_ es (stepE p at_ (ord, by_) e)).2.getD 0 0 = 0
    unfold stepE
    split
    · exact ih _ _ (by simp) (by simp only; rw [getD_append_left' h0]; exact h)
    · exact ih _ _ h0 h
theorem CrAt.next (h : CrAt xs all s at_ ord by_ M) (hat : at_ < ord.length) (he : hasE xs (ord.getD at_ 0) s = false) {es : List EdD} (hE : EdgesT (TOf xs) es) (hp : all.Pairwise (· < ·)) (hall : ∀ x ∈ xs, x.t ∈ all) {M' : Int → Option Int}
    (hM : ByOf (reachE (ord.getD at_ 0) at_ es (ord, by_)).1 (reachE (ord.getD at_ 0) at_ es (ord, by_)).2 M') :
    CrAt xs all s (at_ + 1) (reachE (ord.getD at_ 0) at_ es (ord, by_)).1 (reachE (ord.getD at_ 0) at_ es (ord, by_)).2 M' := by
  obtain ⟨n, hn, e⟩ := h.left
  have hl := h.len
  obtain ⟨n', rfl⟩ : ∃ n', n = n' + 1 := ⟨n - 1, by omega⟩
  have hb0 := reachE_b0 (ord.getD at_ 0) at_ es ord by_ (by rw [h.inv.len]; exact h.inv.pos) h.b0
  rw [reach_edges hE hp hall] at hM hb0 ⊢
  obtain ⟨i1, ⟨zs, i2⟩, i3⟩ := reach_inv all (fun q hq => hq) h.inv hat
  refine ⟨⟨i1.len, i1.pos, i1.zero, i1.nd, i1.sub, i1.par, by rw [i2]; simp; omega, fun k hk => ?_⟩, hb0, hM, ⟨n', by omega, ?_⟩⟩
  · by_cases hk' : k < at_
    · exact i1.shut k hk'
    · obtain rfl : k = at_ := by omega
      have e1 : (reach xs (ord.getD k 0) k all ord by_).1.getD k 0 = ord.getD k 0 := by rw [i2, getD_append_left' hat]
      rw [e1]
      exact ⟨i3, he⟩
  · rw [e]
    conv => lhs; unfold walkC
    rw [if_pos hat, if_neg (by rw [he]; simp)]
/-- The way back. -/
structure BkAt (ord : List Int) (by_ : List Nat) (C : List Int) (k : Nat) (acc : List Int) : Prop where
  lt : k < ord.length
  left : ∃ n, k ≤ n ∧ C = back ord by_ (n + 1) k acc
theorem BkAt.start (hat : at_ < ord.length) : BkAt ord by_ (back ord by_ (at_ + 1) at_ []) at_ [] := ⟨hat, at_, Nat.le_refl _, rfl⟩
theorem BkAt.zero {C acc : List Int} (h : BkAt ord by_ C 0 acc) : C = ord.getD 0 0 :: acc := by
  obtain ⟨n, _, e⟩ := h.left
  rw [e]
  unfold back
  rw [if_pos rfl]
theorem BkAt.step {C acc : List Int} {k : Nat} (h : BkAt ord by_ C k acc) (hI : SeaInv xs all s at_ ord by_) (hk : k ≠ 0) : BkAt ord by_ C (by_.getD k 0) (ord.getD k 0 :: acc) ∧ by_.getD k 0 < k := by
  obtain ⟨n, hn, e⟩ := h.left
  have hp := (hI.par k (by omega) h.lt).1
  have hlt := h.lt
  refine ⟨⟨by omega, n - 1, by omega, ?_⟩, hp⟩
  rw [e]
  conv => lhs; unfold back
  rw [if_neg hk, show n - 1 + 1 = n by omega]
theorem SeaInv.getD_inj (h : SeaInv xs all s at_ ord by_) {j k : Nat} (hj : j < ord.length) (hk : k < ord.length) (e : ord.getD j 0 = ord.getD k 0) : j = k := by
  rw [getD_eq hj, getD_eq hk] at e
  exact (List.getElem_inj h.nd).1 e
end
end Go.Proofs.Ythoniedmeeahgaa
