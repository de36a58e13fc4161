/-
  What is left of nets goes round nowhere: sweeping away those who give nobody that is still there sweeps all. No program in sight.
-/
import Derived.Test.YthoniedmeeahgaaRingAll
namespace Go.Proofs.Ythoniedmeeahgaa

/-- Does a party give one that is still there? -/
def givesL (l : List NetD) (G : List Bool) (p : Nat) : Bool := l.any fun x => x.f == (p : Int) && !G.getD x.t.toNat false
/-- The first parties, one after another. -/
def sweep (l : List NetD) (G : List Bool) : Nat → List Bool
  | 0 => G
  | p + 1 => if givesL l (sweep l G p) p = true then sweep l G p else (sweep l G p).set p true
def sweeps (l : List NetD) : Nat → List Bool
  | 0 => List.replicate 16 false
  | r + 1 => sweep l (sweeps l r) 16
theorem sweep_len (l : List NetD) (G : List Bool) : ∀ p, (sweep l G p).length = G.length := by
  intro p
  induction p with
  | zero => rfl
  | succ p ih =>
    unfold sweep
    split
    · exact ih
    · rw [List.length_set, ih]
theorem sweeps_len (l : List NetD) : ∀ r, (sweeps l r).length = 16 := by
  intro r
  induction r with
  | zero => rfl
  | succ r ih => exact (sweep_len _ _ _).trans ih
theorem set_keeps {G : List Bool} {p k : Nat} (h : G.getD k false = true) : (G.set p true).getD k false = true := by
  rw [List.getD_eq_getElem?_getD] at h ⊢
  rw [List.getElem?_set]
  split
  · split
    · rfl
    · rename_i h1 h2
      rw [← h1, List.getElem?_eq_none (by omega)] at h
      exact h
  · exact h
theorem sweep_keeps {l : List NetD} {G : List Bool} {k : Nat} : ∀ {p q : Nat}, p ≤ q → (sweep l G p).getD k false = true → (sweep l G q).getD k false = true := by
  intro p q hpq
  induction q with
  | zero =>
    obtain rfl : p = 0 := by omega
    exact id
  | succ q ih =>
    intro h
    by_cases hp : p = q + 1
    · rw [← hp]
      exact h
    · have := ih (by omega) h
      rw [sweep]
      split
      · exact this
      · exact set_keeps this
/-- Who is still there after a round gives one that was there ahead of it. -/
theorem sweeps_back {l : List NetD} {r p : Nat} (hp : p < 16) (h : (sweeps l (r + 1)).getD p false = false) : ∃ x ∈ l, x.f = (p : Int) ∧ (sweeps l r).getD x.t.toNat false = false := by
  have h1 : (sweep l (sweeps l r) (p + 1)).getD p false = false := by
    cases h2 : (sweep l (sweeps l r) (p + 1)).getD p false with
    | false => rfl
    | true =>
      have := sweep_keeps (q := 16) (by omega) h2
      rw [sweeps] at h
      rw [h] at this
      exact this.symm
  rw [sweep] at h1
  split at h1
  · rename_i hg
    unfold givesL at hg
    rw [List.any_eq_true] at hg
    obtain ⟨x, hx, hb⟩ := hg
    simp only [Bool.and_eq_true, beq_iff_eq, Bool.not_eq_true'] at hb
    refine ⟨x, hx, hb.1, ?_⟩
    cases h2 : (sweeps l r).getD x.t.toNat false with
    | false => rfl
    | true =>
      have := sweep_keeps (l := l) (G := sweeps l r) (p := 0) (q := p) (by omega) h2
      rw [hb.2] at this
      exact this.symm
  · rw [getD_eq (by rw [List.length_set, sweep_len, sweeps_len]; exact hp), List.getElem_set_self] at h1
    exact absurd h1 (by decide)
theorem getD_snoc (c : List Int) (q : Int) : (c ++ [q]).getD c.length 0 = q := by
  rw [List.getD_eq_getElem?_getD, List.getElem?_append_right (Nat.le_refl _), Nat.sub_self]
  rfl
theorem chain_snoc {xs : List NetD} {c : List Int} {q : Int} (hne : c ≠ []) (h : Chain xs c) (he : hasE xs (c.getD (c.length - 1) 0) q = true) : Chain xs (c ++ [q]) := by
  have hp : 0 < c.length := List.length_pos_iff.2 hne
  intro k hk
  rw [List.length_append] at hk
  simp only [List.length_cons, List.length_nil] at hk
  rw [getD_append_left' (by omega)]
  by_cases h1 : k + 1 < c.length
  · rw [getD_append_left' h1]
    exact h k h1
  · obtain rfl : k = c.length - 1 := by omega
    rw [show c.length - 1 + 1 = c.length by omega, getD_snoc]
    exact he
theorem circ_drop {xs : List NetD} {c : List Int} {i : Nat} (hi : i < c.length) (hnd : c.Nodup) (h : Chain xs c) (he : hasE xs (c.getD (c.length - 1) 0) (c.getD i 0) = true) : Circ xs (c.drop i) := by
  have hg : ∀ k, (c.drop i).getD k 0 = c.getD (i + k) 0 := by
    intro k
    rw [List.getD_eq_getElem?_getD, List.getElem?_drop, List.getD_eq_getElem?_getD]
  refine circ_of (fun e => ?_) (hnd.sublist (List.drop_sublist _ _)) (fun k hk => ?_) ?_
  · rw [List.drop_eq_nil_iff] at e
    omega
  · rw [List.length_drop] at hk
    rw [hg, hg]
    exact h (i + k) (by omega)
  · rw [List.length_drop, hg, hg, show i + (c.length - i - 1) = c.length - 1 by omega, show i + 0 = i from rfl]
    exact he
theorem sweeps_chain {l : List NetD} (hc : ∀ c, ¬ Circ l c) (hb : ∀ x ∈ l, 0 ≤ x.f ∧ x.f ≤ 15 ∧ 0 ≤ x.t ∧ x.t ≤ 15) : ∀ (r : Nat) (c : List Int), c ≠ [] → c.Nodup → Chain l c → (∀ p ∈ c, (0 : Int) ≤ p ∧ p ≤ 15) → 17 ≤ c.length + r → (sweeps l r).getD (c.getD (c.length - 1) 0).toNat false = false → False := by
  intro r
  induction r with
  | zero =>
    intro c hne hnd _ hin hlen _
    have := nodup_sub (L := (List.range 16).map (fun k : Nat => (k : Int))) hnd (fun q hq => by
      have := hin q hq
      rw [List.mem_map]
      exact ⟨q.toNat, List.mem_range.2 (by omega), by omega⟩)
    simp at this
    omega
  | succ r ih =>
    intro c hne hnd hch hin hlen hg
    have hp : 0 < c.length := List.length_pos_iff.2 hne
    have hlast := hin _ (getD_mem' (k := c.length - 1) (by omega) 0)
    obtain ⟨x, hx, hf, hn⟩ := sweeps_back (by omega) hg
    have he : hasE l (c.getD (c.length - 1) 0) x.t = true := by
      unfold hasE
      rw [List.any_eq_true]
      refine ⟨x, hx, ?_⟩
      rw [Bool.and_eq_true, beq_iff_eq, beq_iff_eq]
      exact ⟨by rw [hf]; exact Int.toNat_of_nonneg hlast.1, rfl⟩
    have hbx := hb x hx
    by_cases hq : x.t ∈ c
    · obtain ⟨i, hi, hei⟩ := mem_getD' 0 hq
      rw [← hei] at he
      exact hc _ (circ_drop hi hnd hch he)
    · refine ih (c ++ [x.t]) (by simp) ?_ (chain_snoc hne hch he) ?_ (by rw [List.length_append]; simp only [List.length_cons, List.length_nil]; omega) ?_
      · rw [List.nodup_append]
        refine ⟨hnd, by simp, fun a ha b hb' => ?_⟩
        rw [List.mem_singleton] at hb'
        subst hb'
        exact fun e => hq (e ▸ ha)
      · intro p hpm
        rw [List.mem_append, List.mem_singleton] at hpm
        rcases hpm with h | rfl
        · exact hin p h
        · exact ⟨hbx.2.2.1, hbx.2.2.2⟩
      · rw [List.length_append]
        simp only [List.length_cons, List.length_nil]
        rw [Nat.add_sub_cancel, getD_snoc]
        exact hn
/-- Seventeen rounds sweep all sixteen. -/
theorem sweeps_all {l : List NetD} (hc : ∀ c, ¬ Circ l c) (hb : ∀ x ∈ l, 0 ≤ x.f ∧ x.f ≤ 15 ∧ 0 ≤ x.t ∧ x.t ≤ 15) {p : Nat} (hp : p < 16) : (sweeps l 17).getD p false = true := by
  cases h : (sweeps l 17).getD p false with
  | true => rfl
  | false =>
    exact (sweeps_chain hc hb 17 [(p : Int)] (by simp) (by simp) (fun k hk => by simp at hk) (fun q hq => by
      rw [List.mem_singleton] at hq
      subst hq
      omega) (by simp) (by simpa using h)).elim
end Go.Proofs.Ythoniedmeeahgaa
