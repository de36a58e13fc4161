/-
  The same nets: trades turned about, and one with its opposite beside them.
-/
import Derived.Test.YtggpdbfkfcoejaaSameN
namespace Go.Proofs.Ytggpdbfkfcoejaa
open Go.RowKit

theorem tot_congr_append (a b : List TrD) (k : KeyD) : tot (msOf (a ++ b)) k = tot (msOf a) k + tot (msOf b) k := by
  unfold msOf
  rw [List.flatMap_append, tot_append]
theorem tot_cons (t : TrD) (ts : List TrD) (k : KeyD) : tot (msOf (t :: ts)) k = tot (mvs t) k + tot (msOf ts) k := by
  unfold msOf
  rw [List.flatMap_cons, tot_append]
theorem tot_reverse (ts : List TrD) (k : KeyD) : tot (msOf ts.reverse) k = tot (msOf ts) k := by
  induction ts with
  | nil => rfl
  | cons t ts ih =>
    rw [List.reverse_cons, tot_congr_append, ih, tot_cons, tot_cons]
    simp [msOf, tot]
    omega
/-- A trade the other way round. -/
def TrD.opp (t : TrD) : TrD := ⟨t.id, t.s, t.b, t.c, t.p, t.a, t.q⟩
theorem at1_back (k m : KeyD) (x : Int) : at1 (k, x) m.back = at1 (k.back, x) m := by
  obtain ⟨f, t, l, a⟩ := k
  obtain ⟨f', t', l', a'⟩ := m
  unfold at1 same KeyD.back
  simp only
  congr 1
  simp only [Bool.and_eq_true, beq_iff_eq, eq_iff_iff]
  constructor
  · rintro ⟨⟨⟨h1, h2⟩, h3⟩, h4⟩
    exact ⟨⟨⟨h2, h1⟩, h3⟩, h4⟩
  · rintro ⟨⟨⟨h1, h2⟩, h3⟩, h4⟩
    exact ⟨⟨⟨h2, h1⟩, h3⟩, h4⟩
theorem tot_opp (t : TrD) (k : KeyD) : tot (mvs t.opp) k = tot (mvs t) k.back := by
  unfold mvs TrD.opp mv
  by_cases h : t.b = t.s
  · rw [if_pos (by simp [h]), if_pos h]
    rfl
  · rw [if_neg (by simp only; exact fun e => h e.symm), if_neg h]
    simp only [tot, at1_back]
    rfl
theorem back_back (k : KeyD) : k.back.back = k := rfl
/-- The law's second list. -/
def backL (ts : List TrD) (t : TrD) : List TrD := ts.reverse ++ [t, t.opp]
theorem tot_back (ts : List TrD) (t : TrD) (k : KeyD) : tot (msOf (backL ts t)) k = tot (msOf ts) k + (tot (mvs t) k + tot (mvs t) k.back) := by
  unfold backL
  rw [tot_congr_append, tot_reverse, tot_cons, tot_cons, tot_opp]
  simp [msOf, tot]
theorem nets_back (ts : List TrD) (t : TrD) {ys : List NetD} (h : NetsR (tot (msOf ts)) ys) : NetsR (tot (msOf (backL ts t))) ys := by
  refine ⟨h.1, fun x => (h.2 x).trans ⟨?_, ?_⟩⟩
  · rintro ⟨k, h1, h2, rfl⟩
    refine ⟨k, h1, ?_, ?_⟩
    · rw [tot_back, tot_back, back_back]
      omega
    · simp only [netOf]
      rw [tot_back, tot_back, back_back]
      congr 1
      omega
  · rintro ⟨k, h1, h2, rfl⟩
    rw [tot_back, tot_back, back_back] at h2
    refine ⟨k, h1, by omega, ?_⟩
    simp only [netOf]
    rw [tot_back, tot_back, back_back]
    congr 1
    omega
/-- Amounts of plain trades. -/
def AmtT (x : TrD) : Prop := 1 ≤ x.p ∧ x.p ≤ 1099511627776 ∧ 1 ≤ x.q ∧ x.q ≤ 1099511627776
theorem small_amt (ts : List TrD) (h : ∀ x ∈ ts, AmtT x) (hn : ts.length ≤ 1000) : SmallM (msOf ts) := by
  have hm : ∀ m ∈ msOf ts, 1 ≤ m.2 ∧ m.2 ≤ 1099511627776 := by
    intro m hm
    obtain ⟨x, hx, hm⟩ := List.mem_flatMap.1 hm
    obtain ⟨a1, a2, a3, a4⟩ := h x hx
    unfold mvs mv at hm
    split at hm
    · cases hm
    · simp at hm
      rcases hm with rfl | rfl
      · exact ⟨a1, a2⟩
      · exact ⟨a3, a4⟩
  refine small_of (fun m h => by have := hm m h; omega) 1099511627776 (fun m h => (hm m h).2) ?_ (by omega)
  have := msOf_length ts
  have h2 : ((msOf ts).length : Int) ≤ 2000 := by omega
  have : ((msOf ts).length : Int) * 1099511627776 ≤ 2000 * 1099511627776 := Int.mul_le_mul_of_nonneg_right h2 (by omega)
  omega
end Go.Proofs.Ytggpdbfkfcoejaa
