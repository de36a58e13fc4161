/-
  The reference's search for a circle, step by step. No program in sight.
-/
import Derived.Test.YthoniedmeeahgaaCircLaw
namespace Go.Proofs.Ythoniedmeeahgaa

theorem reach_app (xs : List NetD) (p : Int) (at_ : Nat) : ∀ (qs rs : List Int) (ord : List Int) (by_ : List Nat), reach xs p at_ (qs ++ rs) ord by_ = reach xs p at_ rs (reach xs p at_ qs ord by_).1 (reach xs p at_ qs ord by_).2 := by
  intro qs
  induction qs with
  | nil => intro rs ord by_; rfl
  | cons q qs ih =>
    intro rs ord by_
    have hc : ∀ l, reach xs p at_ (q :: l) ord by_ = if (hasE xs p q && !ord.contains q) = true then reach xs p at_ l (ord ++ [q]) (by_ ++ [at_]) else reach xs p at_ l ord by_ := fun l => by rw [reach]
    rw [List.cons_append, hc, hc]
    split
    · exact ih _ _ _
    · exact ih _ _ _
theorem reach_snoc (xs : List NetD) (p : Int) (at_ : Nat) (all : List Int) (ord : List Int) (by_ : List Nat) {i : Nat} (hi : i < all.length) : reach xs p at_ (all.take (i + 1)) ord by_ = if hasE xs p all[i] = true ∧ all[i] ∉ (reach xs p at_ (all.take i) ord by_).1 then ((reach xs p at_ (all.take i) ord by_).1 ++ [all[i]], (reach xs p at_ (all.take i) ord by_).2 ++ [at_]) else reach xs p at_ (all.take i) ord by_ := by
  rw [List.take_succ_eq_append_getElem hi, reach_app]
  generalize reach xs p at_ (all.take i) ord by_ = R
  unfold reach
  by_cases h : hasE xs p all[i] = true ∧ all[i] ∉ R.1
  · rw [if_pos h, if_pos (by simp [h.1, h.2])]
    rfl
  · rw [if_neg h, if_neg (by
      intro h'
      rw [Bool.and_eq_true, Bool.not_eq_true', List.contains_eq_mem, decide_eq_false_iff_not] at h'
      exact h h')]
    rfl
theorem reach_by (xs : List NetD) (p : Int) (at_ : Nat) : ∀ (qs : List Int) (ord : List Int) (by_ : List Nat), ∃ zs, (reach xs p at_ qs ord by_).2 = by_ ++ zs := by
  intro qs
  induction qs with
  | nil => intro ord by_; exact ⟨[], by simp [reach]⟩
  | cons q qs ih =>
    intro ord by_
    unfold reach
    split
    · obtain ⟨zs, h⟩ := ih (ord ++ [q]) (by_ ++ [at_])
      exact ⟨[at_] ++ zs, by rw [h, List.append_assoc]⟩
    · exact ih ord by_
/-- What the reference writes down as the way back. -/
def byL (by_ : List Nat) : List Int := (-1) :: (by_.drop 1).map fun n : Nat => (n : Int)
theorem byL_len {by_ : List Nat} (h : 0 < by_.length) : (byL by_).length = by_.length := by
  unfold byL
  simp
  omega
theorem byL_snoc {by_ : List Nat} (h : 0 < by_.length) (a : Nat) : byL (by_ ++ [a]) = byL by_ ++ [(a : Int)] := by
  unfold byL
  rw [List.drop_append_of_le_length (by omega)]
  simp
theorem byL_zero (by_ : List Nat) : (byL by_).getD 0 0 = -1 := rfl
theorem byL_at {by_ : List Nat} {k : Nat} (hk : k < by_.length) (h0 : k ≠ 0) : (byL by_).getD k 0 = (by_.getD k 0 : Nat) := by
  obtain ⟨j, rfl⟩ : ∃ j, k = j + 1 := ⟨k - 1, by omega⟩
  unfold byL
  rw [List.getD_cons_succ, getD_eq (by simp; omega), getD_eq hk]
  simp
structure RcAt (xs : List NetD) (all : List Int) (s : Int) (at_ : Nat) (ord : List Int) (by_ : List Nat) : Prop where
  inv : SeaInv xs all s at_ ord by_
  left : ∃ n, n + at_ = all.length + 1 ∧ circleL xs all s = walkC xs all s n at_ ord by_
theorem RcAt.start (xs : List NetD) (all : List Int) (s : Int) : RcAt xs all s 0 [s] [0] := ⟨SeaInv.start xs all s, ⟨all.length + 1, rfl, rfl⟩⟩
section
variable {xs : List NetD} {all : List Int} {s : Int} {at_ : Nat} {ord : List Int} {by_ : List Nat}
theorem RcAt.len (h : RcAt xs all s at_ ord by_) : ord.length ≤ all.length + 1 := nodup_le h.inv.nd h.inv.sub
theorem RcAt.over (h : RcAt xs all s at_ ord by_) (hat : ¬ at_ < ord.length) : circleL xs all s = [] := by
  obtain ⟨n, _, e⟩ := h.left
  rw [e]
  cases n with
  | zero => rfl
  | succ n => unfold walkC; rw [if_neg hat]
theorem RcAt.found (h : RcAt xs all s at_ ord by_) (hat : at_ < ord.length) (he : hasE xs (ord.getD at_ 0) s = true) : circleL xs all s = back ord by_ (at_ + 1) at_ [] := by
  obtain ⟨n, hn, e⟩ := h.left
  have := h.len
  obtain ⟨n', rfl⟩ : ∃ n', n = n' + 1 := ⟨n - 1, by omega⟩
  rw [e]
  unfold walkC
  rw [if_pos hat, if_pos he]
/-- While the parties are gone through. -/
theorem RcAt.mid (h : RcAt xs all s at_ ord by_) (hat : at_ < ord.length) (i : Nat) :
    SeaInv xs all s at_ (reach xs (ord.getD at_ 0) at_ (all.take i) ord by_).1 (reach xs (ord.getD at_ 0) at_ (all.take i) ord by_).2 ∧ ∃ zs, (reach xs (ord.getD at_ 0) at_ (all.take i) ord by_).1 = ord ++ zs := by
  obtain ⟨h1, h2, _⟩ := reach_inv (xs := xs) (all := all) (s := s) (all.take i) (fun q hq => List.mem_of_mem_take hq) h.inv hat
  exact ⟨h1, h2⟩
theorem RcAt.next (h : RcAt xs all s at_ ord by_) (hat : at_ < ord.length) (he : hasE xs (ord.getD at_ 0) s = false) :
    RcAt xs all s (at_ + 1) (reach xs (ord.getD at_ 0) at_ all ord by_).1 (reach xs (ord.getD at_ 0) at_ all ord by_).2 := by
  obtain ⟨n, hn, e⟩ := h.left
  have hl := h.len
  obtain ⟨n', rfl⟩ : ∃ n', n = n' + 1 := ⟨n - 1, by omega⟩
  obtain ⟨i1, ⟨zs, i2⟩, i3⟩ := reach_inv all (fun q hq => hq) h.inv hat
  refine ⟨⟨i1.len, i1.pos, i1.zero, i1.nd, i1.sub, i1.par, by rw [i2]; simp; omega, fun k hk => ?_⟩, ⟨n', by omega, ?_⟩⟩
  · by_cases hk' : k < at_
    · exact i1.shut k hk'
    · obtain rfl : k = at_ := by omega
      have e1 : (reach xs (ord.getD k 0) k all ord by_).1.getD k 0 = ord.getD k 0 := by rw [i2, getD_append_left' hat]
      rw [e1]
      exact ⟨i3, he⟩
  · rw [e]
    conv => lhs; unfold walkC
    rw [if_pos hat, if_neg (by rw [he]; simp)]
end
end Go.Proofs.Ythoniedmeeahgaa
