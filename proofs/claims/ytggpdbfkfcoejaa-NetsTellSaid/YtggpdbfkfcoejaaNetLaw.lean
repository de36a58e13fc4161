/-
  The nets are one list: no program in sight.
-/
import Derived.Test.YtggpdbfkfcoejaaNetOf
namespace Go.Proofs.Ytggpdbfkfcoejaa
open Go.RowKit

theorem keyLt_irrefl (x : NetD) : ¬ keyLt x x := by unfold keyLt; omega
theorem keyLt_trans {x y z : NetD} (h1 : keyLt x y) (h2 : keyLt y z) : keyLt x z := by
  unfold keyLt at *
  generalize min x.f x.t = a at *
  generalize min y.f y.t = b at *
  generalize min z.f z.t = c at *
  generalize max x.f x.t = a' at *
  generalize max y.f y.t = b' at *
  generalize max z.f z.t = c' at *
  omega
theorem eq_of_strict : ∀ {a b : List NetD}, a.Pairwise keyLt → b.Pairwise keyLt → (∀ x, x ∈ a ↔ x ∈ b) → a = b
  | [], [], _, _, _ => rfl
  | [], y :: b, _, _, h => absurd ((h y).2 (by simp)) (by simp)
  | x :: a, [], _, _, h => absurd ((h x).1 (by simp)) (by simp)
  | x :: a, y :: b, ha, hb, h => by
    obtain ⟨a1, a2⟩ := List.pairwise_cons.1 ha
    obtain ⟨b1, b2⟩ := List.pairwise_cons.1 hb
    have hxy : x = y := by
      rcases List.mem_cons.1 ((h x).1 (by simp)) with e | e
      · exact e
      · rcases List.mem_cons.1 ((h y).2 (by simp)) with e' | e'
        · exact e'.symm
        · exact absurd (keyLt_trans (b1 x e) (a1 y e')) (keyLt_irrefl _)
    subst hxy
    refine congrArg _ (eq_of_strict a2 b2 fun z => ⟨fun hz => ?_, fun hz => ?_⟩)
    · rcases List.mem_cons.1 ((h z).1 (by simp [hz])) with e | e
      · subst e
        exact absurd (a1 z hz) (keyLt_irrefl _)
      · exact e
    · rcases List.mem_cons.1 ((h z).2 (by simp [hz])) with e | e
      · subst e
        exact absurd (b1 z hz) (keyLt_irrefl _)
      · exact e
theorem netsR_unique {T : KeyD → Int} {a b : List NetD} (ha : NetsR T a) (hb : NetsR T b) : a = b := eq_of_strict ha.1 hb.1 fun x => (ha.2 x).trans (hb.2 x).symm
theorem tot_pos_mem {ms : List (KeyD × Int)} {k : KeyD} (h : tot ms k ≠ 0) : ∃ m ∈ ms, m.1 = k := by
  induction ms with
  | nil => exact absurd rfl h
  | cons m ms ih =>
    by_cases e : m.1 = k
    · exact ⟨m, by simp, e⟩
    · have h0 : at1 m k = 0 := by
        unfold at1
        rw [if_neg]
        intro e'
        exact e (same_iff.1 e')
      simp only [tot, h0, Int.zero_add] at h
      obtain ⟨m', h1, h2⟩ := ih h
      exact ⟨m', by simp [h1], h2⟩
/-- The nets of few moves, looked at one by one. -/
theorem netsR_of {ms : List (KeyD × Int)} (hnn : ∀ m ∈ ms, 0 ≤ m.2) {ys : List NetD} (hs : ys.Pairwise keyLt) (h1 : ∀ m ∈ ms, tot ms m.1.back < tot ms m.1 → netOf (tot ms) m.1 ∈ ys)
    (h2 : ∀ x ∈ ys, ∃ k : KeyD, k.wf ∧ tot ms k.back < tot ms k ∧ x = netOf (tot ms) k) : NetsR (tot ms) ys := by
  refine ⟨hs, fun x => ⟨h2 x, ?_⟩⟩
  rintro ⟨k, hk, hlt, rfl⟩
  have := tot_nonneg hnn k.back
  obtain ⟨m, hm, rfl⟩ := tot_pos_mem (ms := ms) (k := k) (by omega)
  exact h1 m hm hlt
/-- The trades of the chapter's examples. -/
def exT : TrD := ⟨0, 0, 1, 0, 5, 0, 1⟩
def exU : TrD := ⟨0, 1, 0, 0, 5, 0, 1⟩
theorem ex_two {ys : List NetD} (h : NetsR (tot (msOf [exT, exU])) ys) : ys = [] := by
  refine netsR_unique h (netsR_of ?_ List.Pairwise.nil ?_ (by simp))
  · decide
  · intro m hm hlt
    simp [msOf, mvs, mv, exT, exU] at hm
    rcases hm with rfl | rfl | rfl | rfl <;> exact absurd hlt (by decide)
theorem ex_one {ys : List NetD} (h : NetsR (tot (msOf [exT])) ys) : ys = [⟨0, 1, 0, 0, 5⟩, ⟨1, 0, 1, 0, 1⟩] := by
  refine netsR_unique h (netsR_of ?_ ?_ ?_ ?_)
  · decide
  · simp only [List.pairwise_cons, List.mem_singleton, List.not_mem_nil, keyLt]
    refine ⟨fun x hx => ?_, fun x hx => hx.elim, List.Pairwise.nil⟩
    subst hx
    simp only
    omega
  · intro m hm _
    simp [msOf, mvs, mv, exT] at hm
    rcases hm with rfl | rfl
    · simp [netOf, tot, msOf, mvs, mv, exT, at1, same, KeyD.back]
    · simp [netOf, tot, msOf, mvs, mv, exT, at1, same, KeyD.back]
  · intro x hx
    simp at hx
    rcases hx with rfl | rfl
    · exact ⟨⟨0, 1, 0, 0⟩, ⟨rfl, rfl, rfl, rfl⟩, by decide, rfl⟩
    · exact ⟨⟨1, 0, 1, 0⟩, ⟨rfl, rfl, rfl, rfl⟩, by decide, rfl⟩
theorem small_of {ms : List (KeyD × Int)} (h : ∀ m ∈ ms, 0 ≤ m.2) (B : Int) (hB : ∀ m ∈ ms, m.2 ≤ B) (hn : (ms.length : Int) * B ≤ 4611686018427387904) (hB0 : 0 ≤ B) : SmallM ms := by
  refine ⟨h, fun k => ?_⟩
  have : tot ms k ≤ (ms.length : Int) * B := by
    clear hn h
    induction ms with
    | nil => simp [tot]
    | cons m ms ih =>
      have h1 := ih (fun x hx => hB x (by simp [hx]))
      have h2 := hB m (by simp)
      have h3 : at1 m k ≤ B := by unfold at1; split <;> omega
      simp only [tot, List.length_cons]
      rw [Int.natCast_succ, Int.add_mul]
      omega
  omega
theorem ex_small2 : SmallM (msOf [exT, exU]) := small_of (by decide) 5 (by decide) (by decide) (by decide)
theorem ex_small1 : SmallM (msOf [exT]) := small_of (by decide) 5 (by decide) (by decide) (by decide)
end Go.Proofs.Ytggpdbfkfcoejaa
