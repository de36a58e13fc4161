/-
  The search for a circle: what it finds is one; where it finds none there is none. No program in sight.
-/
import Derived.Test.YthoniedmeeahgaaRingSpec
namespace Go.Proofs.Ythoniedmeeahgaa

theorem getD_eq {α : Type} {xs : List α} {k : Nat} (h : k < xs.length) (d : α) : xs.getD k d = xs[k] := by
  simp [List.getD_eq_getElem?_getD, List.getElem?_eq_getElem h]
theorem getD_mem' {α : Type} {xs : List α} {k : Nat} (h : k < xs.length) (d : α) : xs.getD k d ∈ xs := by
  rw [getD_eq h]
  exact List.getElem_mem h
theorem mem_getD' {α : Type} {xs : List α} {y : α} (d : α) (h : y ∈ xs) : ∃ k, k < xs.length ∧ xs.getD k d = y := by
  obtain ⟨k, hk, rfl⟩ := List.getElem_of_mem h
  exact ⟨k, hk, getD_eq hk d⟩
theorem getD_append_left' {α : Type} {xs ys : List α} {k : Nat} (h : k < xs.length) (d : α) : (xs ++ ys).getD k d = xs.getD k d := by
  rw [getD_eq h, getD_eq (by rw [List.length_append]; omega), List.getElem_append_left h]
/-- What holds of the search at every step. -/
structure SeaInv (xs : List NetD) (all : List Int) (s : Int) (at_ : Nat) (ord : List Int) (by_ : List Nat) : Prop where
  len : by_.length = ord.length
  pos : 0 < ord.length
  zero : ord.getD 0 0 = s
  nd : ord.Nodup
  sub : ∀ q ∈ ord, q = s ∨ q ∈ all
  par : ∀ k, 0 < k → k < ord.length → by_.getD k 0 < k ∧ hasE xs (ord.getD (by_.getD k 0) 0) (ord.getD k 0) = true
  le : at_ ≤ ord.length
  shut : ∀ k, k < at_ → (∀ q ∈ all, hasE xs (ord.getD k 0) q = true → q ∈ ord) ∧ hasE xs (ord.getD k 0) s = false
theorem SeaInv.start (xs : List NetD) (all : List Int) (s : Int) : SeaInv xs all s 0 [s] [0] :=
  ⟨rfl, by simp, rfl, by simp, fun q hq => .inl (by simpa using hq), fun k h1 h2 => by simp at h2; omega, by simp, fun k hk => by omega⟩
/-- Reaching: what was there stays; what comes is reached by one edge. -/
theorem reach_inv {xs : List NetD} {all : List Int} {s : Int} {at_ : Nat} (qs : List Int) (hq : ∀ q ∈ qs, q ∈ all) {ord : List Int} {by_ : List Nat} (h : SeaInv xs all s at_ ord by_) (hat : at_ < ord.length) :
    SeaInv xs all s at_ (reach xs (ord.getD at_ 0) at_ qs ord by_).1 (reach xs (ord.getD at_ 0) at_ qs ord by_).2 ∧ (∃ zs, (reach xs (ord.getD at_ 0) at_ qs ord by_).1 = ord ++ zs) ∧ ∀ q ∈ qs, hasE xs (ord.getD at_ 0) q = true → q ∈ (reach xs (ord.getD at_ 0) at_ qs ord by_).1 := by
  obtain ⟨p, hp⟩ : ∃ p, p = ord.getD at_ 0 := ⟨_, rfl⟩
  rw [← hp]
  induction qs generalizing ord by_ with
  | nil => exact ⟨h, ⟨[], by simp [reach]⟩, fun q hq => by simp at hq⟩
  | cons q qs ih =>
    have hqs : ∀ q ∈ qs, q ∈ all := fun x hx => hq x (by simp [hx])
    unfold reach
    by_cases hc : (hasE xs p q && !ord.contains q) = true
    · rw [if_pos hc]
      simp only [Bool.and_eq_true, Bool.not_eq_true', List.contains_eq_mem, decide_eq_false_iff_not] at hc
      have hinv : SeaInv xs all s at_ (ord ++ [q]) (by_ ++ [at_]) := by
        refine ⟨by simp [h.len], by simp, by rw [getD_append_left' h.pos]; exact h.zero, ?_, ?_, ?_, by simp; have := h.le; omega, ?_⟩
        · rw [List.nodup_append]
          refine ⟨h.nd, by simp, fun a ha b hb e => ?_⟩
          simp at hb
          subst hb
          subst e
          exact hc.2 ha
        · intro x hx
          rcases List.mem_append.1 hx with hx | hx
          · exact h.sub x hx
          · simp at hx
            subst hx
            exact .inr (hq _ (by simp))
        · intro k h0 hk
          simp at hk
          by_cases hk' : k < ord.length
          · have := h.par k h0 hk'
            rw [getD_append_left' (by rw [h.len]; exact hk'), getD_append_left' hk', getD_append_left' (by omega)]
            exact this
          · obtain rfl : k = ord.length := by omega
            have e1 : (by_ ++ [at_]).getD ord.length 0 = at_ := by rw [← h.len, getD_eq (by simp)]; simp
            have e2 : (ord ++ [q]).getD ord.length 0 = q := by rw [getD_eq (by simp)]; simp
            rw [e1, e2, getD_append_left' hat, ← hp]
            exact ⟨hat, hc.1⟩
        · intro k hk
          have := h.shut k hk
          rw [getD_append_left' (by omega)]
          exact ⟨fun x hx he => List.mem_append.2 (.inl (this.1 x hx he)), this.2⟩
      obtain ⟨i1, ⟨zs, i2⟩, i3⟩ := ih hqs hinv (by simp; omega) (by rw [getD_append_left' hat]; exact hp)
      refine ⟨i1, ⟨q :: zs, by rw [i2]; simp⟩, fun x hx he => ?_⟩
      rcases List.mem_cons.1 hx with rfl | hx
      · rw [i2]
        simp
      · exact i3 x hx he
    · rw [if_neg hc]
      obtain ⟨i1, ⟨zs, i2⟩, i3⟩ := ih hqs h hat hp
      refine ⟨i1, ⟨zs, i2⟩, fun x hx he => ?_⟩
      rcases List.mem_cons.1 hx with rfl | hx
      · rw [he] at hc
        simp at hc
        rw [i2]
        exact List.mem_append.2 (.inl hc)
      · exact i3 x hx he

/-- A list in which each gives to the next one. -/
def Chain (xs : List NetD) (c : List Int) : Prop := ∀ k, k + 1 < c.length → hasE xs (c.getD k 0) (c.getD (k + 1) 0) = true
theorem chain_cons {xs : List NetD} {p q : Int} {c : List Int} (h : Chain xs (q :: c)) (he : hasE xs p q = true) : Chain xs (p :: q :: c) := by
  intro k hk
  cases k with
  | zero => exact he
  | succ k => exact h k (by simpa using hk)
/-- The way back. -/
theorem back_chain {xs : List NetD} {all : List Int} {s : Int} {at_ : Nat} {ord : List Int} {by_ : List Nat} (h : SeaInv xs all s at_ ord by_) : ∀ (n k : Nat) (acc : List Int), k < ord.length → k < n →
    (acc ≠ [] → hasE xs (ord.getD k 0) (acc.getD 0 0) = true) → Chain xs acc → acc.Nodup → (∀ x ∈ acc, ∃ i, k < i ∧ i < ord.length ∧ ord.getD i 0 = x) →
    ∃ pre, back ord by_ n k acc = pre ++ acc ∧ (back ord by_ n k acc).getD 0 0 = s ∧ pre ≠ [] ∧ pre.getLast? = some (ord.getD k 0) ∧ Chain xs (back ord by_ n k acc) ∧ (back ord by_ n k acc).Nodup ∧ ∀ x ∈ back ord by_ n k acc, x ∈ ord := by
  intro n
  induction n with
  | zero => intro k acc _ hk; omega
  | succ n ih =>
    intro k acc hk hkn he hc hnd hmem
    have hnew : (ord.getD k 0) ∉ acc := fun hin => by
      obtain ⟨i, h1, h2, h3⟩ := hmem _ hin
      rw [getD_eq h2, getD_eq hk] at h3
      have := (List.getElem_inj h.nd).1 h3
      omega
    have hch : Chain xs (ord.getD k 0 :: acc) := by
      cases acc with
      | nil => intro j hj; simp at hj
      | cons a acc => exact chain_cons hc (he (by simp))
    have hnd2 : (ord.getD k 0 :: acc).Nodup := List.nodup_cons.2 ⟨hnew, hnd⟩
    unfold back
    by_cases h0 : k = 0
    · rw [if_pos h0]
      subst h0
      refine ⟨[ord.getD 0 0], by simp, h.zero, by simp, by simp, hch, hnd2, fun x hx => ?_⟩
      rcases List.mem_cons.1 hx with rfl | hx
      · exact getD_mem' hk 0
      · obtain ⟨i, _, h2, rfl⟩ := hmem x hx
        exact getD_mem' h2 0
    · rw [if_neg h0]
      have hp := h.par k (by omega) hk
      obtain ⟨pre, e1, e2, e3, e4, e5, e6, e7⟩ := ih (by_.getD k 0) (ord.getD k 0 :: acc) (by omega) (by omega) (fun _ => hp.2) hch hnd2 (fun x hx => by
        rcases List.mem_cons.1 hx with rfl | hx
        · exact ⟨k, hp.1, hk, rfl⟩
        · obtain ⟨i, h1, h2, h3⟩ := hmem x hx
          exact ⟨i, by omega, h2, h3⟩)
      exact ⟨pre ++ [ord.getD k 0], by rw [e1]; simp, e2, by simp, by simp, e5, e6, e7⟩

/-- A circle: each gives to the next one, the last one to the first. -/
structure Circ (xs : List NetD) (c : List Int) : Prop where
  ne : c ≠ []
  nd : c.Nodup
  gives : ∀ k, k < c.length → hasE xs (c.getD k 0) (nextOf c k) = true
theorem circ_of {xs : List NetD} {c : List Int} (hne : c ≠ []) (hnd : c.Nodup) (hc : Chain xs c) (hl : hasE xs (c.getD (c.length - 1) 0) (c.getD 0 0) = true) : Circ xs c := by
  have hp : 0 < c.length := List.length_pos_iff.2 hne
  refine ⟨hne, hnd, fun k hk => ?_⟩
  unfold nextOf
  by_cases h : k + 1 < c.length
  · rw [Nat.mod_eq_of_lt h]
    exact hc k h
  · obtain rfl : k = c.length - 1 := by omega
    rw [show c.length - 1 + 1 = c.length by omega, Nat.mod_self]
    exact hl
theorem walkC_some {xs : List NetD} {all : List Int} {s : Int} : ∀ (n at_ : Nat) (ord : List Int) (by_ : List Nat), SeaInv xs all s at_ ord by_ → walkC xs all s n at_ ord by_ ≠ [] →
    Circ xs (walkC xs all s n at_ ord by_) ∧ (walkC xs all s n at_ ord by_).getD 0 0 = s ∧ ∀ x ∈ walkC xs all s n at_ ord by_, x = s ∨ x ∈ all := by
  intro n
  induction n with
  | zero => intro at_ ord by_ _ h; exact absurd rfl h
  | succ n ih =>
    intro at_ ord by_ hI hne
    unfold walkC at hne ⊢
    by_cases hlt : at_ < ord.length
    · rw [if_pos hlt] at hne ⊢
      by_cases he : hasE xs (ord.getD at_ 0) s = true
      · rw [if_pos he] at hne ⊢
        obtain ⟨pre, e1, e2, e3, e4, e5, e6, e7⟩ := back_chain hI (at_ + 1) at_ [] hlt (by omega) (fun h => absurd rfl h) (fun k hk => by simp at hk) (by simp) (fun x hx => by simp at hx)
        refine ⟨circ_of hne e6 e5 ?_, e2, fun x hx => hI.sub x (e7 x hx)⟩
        rw [e2]
        rw [e1, List.append_nil] at hne ⊢
        have : pre.getD (pre.length - 1) 0 = ord.getD at_ 0 := by
          have hp : 0 < pre.length := List.length_pos_iff.2 e3
          rw [getD_eq (by omega)]
          rw [List.getLast?_eq_getElem?, List.getElem?_eq_getElem (by omega)] at e4
          injection e4
        rw [this]
        exact he
      · rw [if_neg he] at hne ⊢
        obtain ⟨i1, ⟨zs, i2⟩, i3⟩ := reach_inv all (fun q hq => hq) hI hlt
        refine ih (at_ + 1) _ _ ?_ hne
        refine ⟨i1.len, i1.pos, i1.zero, i1.nd, i1.sub, i1.par, by rw [i2]; simp; omega, fun k hk => ?_⟩
        by_cases hk' : k < at_
        · exact i1.shut k hk'
        · obtain rfl : k = at_ := by omega
          have e : (reach xs (ord.getD k 0) k all ord by_).1.getD k 0 = ord.getD k 0 := by rw [i2, getD_append_left' hlt]
          rw [e]
          exact ⟨i3, by simpa using he⟩
    · rw [if_neg hlt] at hne
      exact absurd rfl hne
theorem nodup_sub {L : List Int} : ∀ {ord : List Int}, ord.Nodup → (∀ q ∈ ord, q ∈ L) → ord.length ≤ L.length := by
  intro ord
  induction ord generalizing L with
  | nil => intro _ _; simp
  | cons a as ih =>
    intro hnd hsub
    rw [List.nodup_cons] at hnd
    have ha := hsub a (by simp)
    have := ih (L := L.erase a) hnd.2 (fun q hq => (List.mem_erase_of_ne (fun e => hnd.1 (by rw [← e]; exact hq))).2 (hsub q (by simp [hq])))
    rw [List.length_erase_of_mem ha] at this
    have := List.length_pos_of_mem ha
    simp
    omega
theorem nodup_le {ord all : List Int} {s : Int} (hnd : ord.Nodup) (hsub : ∀ q ∈ ord, q = s ∨ q ∈ all) : ord.length ≤ all.length + 1 := by
  have := nodup_sub (L := s :: all) hnd (fun q hq => by
    rcases hsub q hq with rfl | h
    · simp
    · simp [h])
  simpa using this
theorem walkC_none {xs : List NetD} {all : List Int} {s : Int} : ∀ (n at_ : Nat) (ord : List Int) (by_ : List Nat), SeaInv xs all s at_ ord by_ → all.length + 1 ≤ n + at_ → walkC xs all s n at_ ord by_ = [] →
    ∃ O : List Int, s ∈ O ∧ ∀ p ∈ O, (∀ q ∈ all, hasE xs p q = true → q ∈ O) ∧ hasE xs p s = false := by
  intro n
  induction n with
  | zero =>
    intro at_ ord by_ hI hn _
    have := nodup_le hI.nd hI.sub
    have hle := hI.le
    refine ⟨ord, by rw [← hI.zero]; exact getD_mem' hI.pos 0, fun p hp => ?_⟩
    obtain ⟨k, hk, rfl⟩ := mem_getD' 0 hp
    exact hI.shut k (by omega)
  | succ n ih =>
    intro at_ ord by_ hI hn he
    unfold walkC at he
    by_cases hlt : at_ < ord.length
    · rw [if_pos hlt] at he
      by_cases hs : hasE xs (ord.getD at_ 0) s = true
      · rw [if_pos hs] at he
        obtain ⟨pre, e1, _, e3, _⟩ := back_chain hI (at_ + 1) at_ [] hlt (by omega) (fun h => absurd rfl h) (fun k hk => by simp at hk) (by simp) (fun x hx => by simp at hx)
        rw [e1] at he
        simp at he
        exact absurd he e3
      · rw [if_neg hs] at he
        obtain ⟨i1, ⟨zs, i2⟩, i3⟩ := reach_inv all (fun q hq => hq) hI hlt
        refine ih (at_ + 1) _ _ ?_ (by omega) he
        refine ⟨i1.len, i1.pos, i1.zero, i1.nd, i1.sub, i1.par, by rw [i2]; simp; omega, fun k hk => ?_⟩
        by_cases hk' : k < at_
        · exact i1.shut k hk'
        · obtain rfl : k = at_ := by omega
          have e : (reach xs (ord.getD k 0) k all ord by_).1.getD k 0 = ord.getD k 0 := by rw [i2, getD_append_left' hlt]
          rw [e]
          exact ⟨i3, by simpa using hs⟩
    · have hle := hI.le
      refine ⟨ord, by rw [← hI.zero]; exact getD_mem' hI.pos 0, fun p hp => ?_⟩
      obtain ⟨k, hk, rfl⟩ := mem_getD' 0 hp
      exact hI.shut k (by omega)
/-- What is found is a circle through the party, which comes first. -/
theorem circleL_some {xs : List NetD} {all : List Int} {s : Int} (h : circleL xs all s ≠ []) : Circ xs (circleL xs all s) ∧ (circleL xs all s).getD 0 0 = s ∧ ∀ x ∈ circleL xs all s, x = s ∨ x ∈ all :=
  walkC_some _ _ _ _ (SeaInv.start xs all s) h
/-- Where none is found there is none. -/
theorem circleL_none {xs : List NetD} {all : List Int} {s : Int} (hall : ∀ p q, hasE xs p q = true → q ∈ all) (h : circleL xs all s = []) {c : List Int} (hc : Circ xs c) : s ∉ c := by
  obtain ⟨O, hs, hO⟩ := walkC_none _ _ _ _ (SeaInv.start xs all s) (by omega) h
  intro hin
  obtain ⟨k, hk, hks⟩ := mem_getD' 0 hin
  have hstep : ∀ i, c.getD ((k + i) % c.length) 0 ∈ O := by
    intro i
    induction i with
    | zero => rw [Nat.add_zero, Nat.mod_eq_of_lt hk, hks]; exact hs
    | succ i ih =>
      have hlt : (k + i) % c.length < c.length := Nat.mod_lt _ (by omega)
      have hg := hc.gives _ hlt
      unfold nextOf at hg
      have e : ((k + i) % c.length + 1) % c.length = (k + (i + 1)) % c.length := by rw [Nat.mod_add_mod, Nat.add_assoc]
      rw [e] at hg
      exact (hO _ ih).1 _ (hall _ _ hg) hg
  have h1 := hstep (c.length - 1)
  have hlt : (k + (c.length - 1)) % c.length < c.length := Nat.mod_lt _ (by omega)
  have hg := hc.gives _ hlt
  unfold nextOf at hg
  have e : ((k + (c.length - 1)) % c.length + 1) % c.length = k := by
    rw [Nat.mod_add_mod, show k + (c.length - 1) + 1 = k + c.length by omega, Nat.add_mod_right, Nat.mod_eq_of_lt hk]
  rw [e, hks, (hO _ h1).2] at hg
  cases hg
end Go.Proofs.Ythoniedmeeahgaa
