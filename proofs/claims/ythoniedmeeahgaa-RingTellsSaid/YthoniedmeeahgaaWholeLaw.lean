/-
  Each net is taken once: what is free, while nets are taken. No program in sight.
-/
import Derived.Test.YthoniedmeeahgaaRingAll
namespace Go.Proofs.Ythoniedmeeahgaa

/-- The nets that were not used yet. -/
def freeOf : List NetD → List Bool → List NetD
  | [], _ => []
  | _, [] => []
  | x :: xs, u :: us => if u = true then freeOf xs us else x :: freeOf xs us
theorem freeOf_start : ∀ xs : List NetD, freeOf xs (List.replicate xs.length false) = xs := by
  intro xs
  induction xs with
  | nil => rfl
  | cons x xs ih =>
    rw [List.length_cons, List.replicate_succ, freeOf, if_neg (by decide), ih]
theorem freeOf_find {xs : List NetD} {us : List Bool} {x : NetD} (h : x ∈ freeOf xs us) : ∃ i, ∃ hi : i < xs.length, ∃ hu : i < us.length, us[i] = false ∧ xs[i] = x := by
  induction xs generalizing us with
  | nil => cases us <;> simp [freeOf] at h
  | cons y ys ih =>
    cases us with
    | nil => simp [freeOf] at h
    | cons u us =>
      rw [freeOf] at h
      have hrec : x ∈ freeOf ys us → ∃ i, ∃ hi : i < (y :: ys).length, ∃ hu : i < (u :: us).length, (u :: us)[i] = false ∧ (y :: ys)[i] = x := fun h => by
        obtain ⟨i, hi, hu, e1, e2⟩ := ih h
        exact ⟨i + 1, by simpa using hi, by simpa using hu, by simpa using e1, by simpa using e2⟩
      split at h
      · exact hrec h
      · rename_i hu
        rcases List.mem_cons.1 h with rfl | h
        · exact ⟨0, by simp, by simp, by simpa using hu, rfl⟩
        · exact hrec h
theorem freeOf_take {xs : List NetD} {us : List Bool} {i : Nat} (hi : i < xs.length) (hu : i < us.length) (h : us[i] = false) : (freeOf xs us).Perm (xs[i] :: freeOf xs (us.set i true)) := by
  induction xs generalizing us i with
  | nil => exact absurd hi (by simp)
  | cons y ys ih =>
    cases us with
    | nil => exact absurd hu (by simp)
    | cons u us =>
      match i, hi, hu, h with
      | 0, _, _, h =>
        have hu0 : u = false := h
        subst hu0
        rw [List.set_cons_zero, freeOf, freeOf, if_neg (by decide), if_pos rfl]
        exact .refl _
      | i + 1, hi, hu, h =>
        have := ih (us := us) (i := i) (by simpa using hi) (by simpa using hu) (by simpa using h)
        rw [List.set_cons_succ, freeOf, freeOf, List.getElem_cons_succ]
        split
        · exact this
        · exact (this.cons _).trans (.swap _ _ _)
theorem freeOf_none {xs : List NetD} {us : List Bool} (h : freeOf xs us = []) {i : Nat} (hi : i < xs.length) (hu : i < us.length) : us[i] = true := by
  induction xs generalizing us i with
  | nil => exact absurd hi (by simp)
  | cons y ys ih =>
    cases us with
    | nil => exact absurd hu (by simp)
    | cons u us =>
      rw [freeOf] at h
      split at h
      · rename_i hu1
        match i, hi, hu with
        | 0, _, _ => exact hu1
        | i + 1, hi, hu =>
          rw [List.getElem_cons_succ]
          exact ih h (by simpa using hi) (by simpa using hu)
      · exact absurd h (by simp)
/-- The rest of the nets is free; the next one is taken somewhere. -/
theorem free_step {xs : List NetD} {us : List Bool} {x : NetD} {rest : List NetD} (h : (freeOf xs us).Perm (x :: rest)) {i : Nat} (hi : i < xs.length) (hu : i < us.length) (e : us[i] = false) (ex : xs[i] = x) : (freeOf xs (us.set i true)).Perm rest := by
  have h1 := (freeOf_take hi hu e).symm.trans h
  rw [ex] at h1
  exact h1.cons_inv
/-- The nets of a ring, leg by leg. -/
def netsK (r : RingD) (k : Nat) : List NetD := (r.legs.getD k []).map (mkN (r.ps.getD k 0) (nextOf r.ps k))
theorem netsR_eq (r : RingD) : netsR r = (List.range r.ps.length).flatMap (netsK r) := rfl
/-- What is still to come within a ring, from the k-th leg on. -/
def restR (r : RingD) (k : Nat) : List NetD := ((List.range r.ps.length).drop k).flatMap (netsK r)
theorem restR_zero (r : RingD) : restR r 0 = netsR r := rfl
theorem restR_step {r : RingD} {k : Nat} (hk : k < r.ps.length) : restR r k = netsK r k ++ restR r (k + 1) := by
  unfold restR
  rw [List.drop_eq_getElem_cons (by simpa using hk)]
  simp
theorem restR_done (r : RingD) : restR r r.ps.length = [] := by
  unfold restR
  rw [List.drop_eq_nil_of_le (by simp)]
  rfl
theorem restL_step {rs : List RingD} {i : Nat} (hi : i < rs.length) : (rs.drop i).flatMap netsR = netsR rs[i] ++ (rs.drop (i + 1)).flatMap netsR := by
  rw [List.drop_eq_getElem_cons hi, List.flatMap_cons]
theorem ps_le {xs : List NetD} (hxs : ∀ x ∈ xs, (0 ≤ x.f ∧ x.f ≤ 15) ∧ 0 ≤ x.t ∧ x.t ≤ 15) {r : RingD} (hg : GoodR r) (hp : ∀ p ∈ r.ps, ∃ x ∈ xs, x.f = p ∨ x.t = p) : r.ps.length ≤ 16 := by
  have := nodup_sub (L := (List.range 16).map (fun k : Nat => (k : Int))) hg.nd (fun q hq => by
    obtain ⟨x, hx, h⟩ := hp q hq
    have := hxs x hx
    rw [List.mem_map]
    exact ⟨q.toNat, List.mem_range.2 (by omega), by omega⟩)
  simpa using this
theorem no_two {left : List NetD} (hc : ∀ c, ¬ Circ left c) {x y : NetD} (hx : x ∈ left) (hy : y ∈ left) (hne : x.f ≠ x.t) (h1 : y.f = x.t) (h2 : y.t = x.f) : False := by
  refine hc [x.f, x.t] ⟨by simp, by simpa using hne, fun k hk => ?_⟩
  match k, hk with
  | 0, _ => exact hasE_iff.2 ⟨x, hx, rfl, rfl⟩
  | 1, _ => exact hasE_iff.2 ⟨y, hy, h1, h2.trans (by simp [nextOf])⟩
end Go.Proofs.Ythoniedmeeahgaa
