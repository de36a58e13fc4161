/-
  Two who trade there and back: the nets.
-/
import Derived.Test.YtggpdbfkfcoejaaSameN
namespace Go.Proofs.Ytggpdbfkfcoejaa
open Go.RowKit

def cashW (p1 p2 : Int) : List NetD := if p2 < p1 then [⟨3, 5, 0, 0, p1 - p2⟩] else if p1 < p2 then [⟨5, 3, 0, 0, p2 - p1⟩] else []
def secW (q1 q2 : Int) : List NetD := if q2 < q1 then [⟨5, 3, 1, 0, q1 - q2⟩] else if q1 < q2 then [⟨3, 5, 1, 0, q2 - q1⟩] else []
def pairT (p1 q1 p2 q2 : Int) : List TrD := [⟨1, 3, 5, 0, p1, 0, q1⟩, ⟨2, 5, 3, 0, p2, 0, q2⟩]
theorem pair_ms (p1 q1 p2 q2 : Int) : msOf (pairT p1 q1 p2 q2) = [(⟨3, 5, 0, 0⟩, p1), (⟨5, 3, 1, 0⟩, q1), (⟨5, 3, 0, 0⟩, p2), (⟨3, 5, 1, 0⟩, q2)] := rfl
theorem pair_tot (p1 q1 p2 q2 : Int) : tot (msOf (pairT p1 q1 p2 q2)) ⟨3, 5, 0, 0⟩ = p1 ∧ tot (msOf (pairT p1 q1 p2 q2)) ⟨5, 3, 1, 0⟩ = q1 ∧ tot (msOf (pairT p1 q1 p2 q2)) ⟨5, 3, 0, 0⟩ = p2 ∧ tot (msOf (pairT p1 q1 p2 q2)) ⟨3, 5, 1, 0⟩ = q2 := by
  rw [pair_ms]
  refine ⟨?_, ?_, ?_, ?_⟩ <;> simp [tot, at1, same]
theorem pair_nets (p1 q1 p2 q2 : Int) (h1 : 1 ≤ p1) (h2 : 1 ≤ q1) (h3 : 1 ≤ p2) (h4 : 1 ≤ q2) : NetsR (tot (msOf (pairT p1 q1 p2 q2))) (cashW p1 p2 ++ secW q1 q2) := by
  obtain ⟨t1, t2, t3, t4⟩ := pair_tot p1 q1 p2 q2
  refine netsR_of ?_ ?_ ?_ ?_
  · rw [pair_ms]
    intro m hm
    simp at hm
    rcases hm with rfl | rfl | rfl | rfl <;> simp only <;> omega
  · unfold cashW secW
    split <;> (try split) <;> (try split) <;> (try split) <;> simp [keyLt] <;> omega
  · intro m hm hlt
    rw [pair_ms] at hm
    simp at hm
    rcases hm with rfl | rfl | rfl | rfl
    · have hlt' : p2 < p1 := by have := hlt; simp only [KeyD.back] at this; rw [t1, t3] at this; exact this
      simp only [netOf, KeyD.back, t1, t3]
      simp [cashW, hlt']
    · have hlt' : q2 < q1 := by have := hlt; simp only [KeyD.back] at this; rw [t2, t4] at this; exact this
      simp only [netOf, KeyD.back, t2, t4]
      simp [secW, hlt']
    · have hlt' : p1 < p2 := by have := hlt; simp only [KeyD.back] at this; rw [t1, t3] at this; exact this
      simp only [netOf, KeyD.back, t1, t3]
      simp [cashW, hlt', show ¬ p2 < p1 by omega]
    · have hlt' : q1 < q2 := by have := hlt; simp only [KeyD.back] at this; rw [t2, t4] at this; exact this
      simp only [netOf, KeyD.back, t2, t4]
      simp [secW, hlt', show ¬ q2 < q1 by omega]
  · intro x hx
    rcases List.mem_append.1 hx with hx | hx
    · unfold cashW at hx
      split at hx
      · simp at hx
        exact ⟨⟨3, 5, 0, 0⟩, ⟨rfl, rfl, rfl, rfl⟩, by simp only [KeyD.back]; rw [t1, t3]; assumption, by rw [hx]; simp only [netOf, KeyD.back, t1, t3]⟩
      · split at hx
        · simp at hx
          exact ⟨⟨5, 3, 0, 0⟩, ⟨rfl, rfl, rfl, rfl⟩, by simp only [KeyD.back]; rw [t1, t3]; assumption, by rw [hx]; simp only [netOf, KeyD.back, t1, t3]⟩
        · cases hx
    · unfold secW at hx
      split at hx
      · simp at hx
        exact ⟨⟨5, 3, 1, 0⟩, ⟨rfl, rfl, rfl, rfl⟩, by simp only [KeyD.back]; rw [t2, t4]; assumption, by rw [hx]; simp only [netOf, KeyD.back, t2, t4]⟩
      · split at hx
        · simp at hx
          exact ⟨⟨3, 5, 1, 0⟩, ⟨rfl, rfl, rfl, rfl⟩, by simp only [KeyD.back]; rw [t2, t4]; assumption, by rw [hx]; simp only [netOf, KeyD.back, t2, t4]⟩
        · cases hx
theorem pair_small (p1 q1 p2 q2 : Int) (h1 : 1 ≤ p1 ∧ p1 ≤ 1000000) (h2 : 1 ≤ q1 ∧ q1 ≤ 1000000) (h3 : 1 ≤ p2 ∧ p2 ≤ 1000000) (h4 : 1 ≤ q2 ∧ q2 ≤ 1000000) : SmallM (msOf (pairT p1 q1 p2 q2)) := by
  rw [pair_ms]
  refine small_of ?_ 1000000 ?_ (by simp) (by omega)
  · intro m hm
    simp at hm
    rcases hm with rfl | rfl | rfl | rfl <;> simp only <;> omega
  · intro m hm
    simp at hm
    rcases hm with rfl | rfl | rfl | rfl <;> simp only <;> omega
theorem pair_wf (p1 q1 p2 q2 : Int) (h1 : 1 ≤ p1 ∧ p1 ≤ 1000000) (h2 : 1 ≤ q1 ∧ q1 ≤ 1000000) (h3 : 1 ≤ p2 ∧ p2 ≤ 1000000) (h4 : 1 ≤ q2 ∧ q2 ≤ 1000000) : ∀ x ∈ pairT p1 q1 p2 q2, x.wf := by
  intro x hx
  simp [pairT] at hx
  rcases hx with rfl | rfl <;> exact ⟨rfl, rfl, rfl, rfl, WalkArith.wf_i64 (by simp only; omega), rfl, WalkArith.wf_i64 (by simp only; omega)⟩
theorem of_pair (p1 q1 p2 q2 : Int) (h1 : 1 ≤ p1 ∧ p1 ≤ 1000000) (h2 : 1 ≤ q1 ∧ q1 ≤ 1000000) (h3 : 1 ≤ p2 ∧ p2 ≤ 1000000) (h4 : 1 ≤ q2 ∧ q2 ≤ 1000000) (g c : Nat) (w' : World)
    (hb : Blk w' g 30 #[.int .i64 1, .int .i64 3, .int .i64 5, .int .i64 0, .int .i64 p1, .int .i64 0, .int .i64 q1, .int .i64 2, .int .i64 5, .int .i64 3, .int .i64 0, .int .i64 p2, .int .i64 0, .int .i64 q2]) :
    Calls Try.prog 9 #[.slice (some ⟨g, 0, none⟩) 2 c] w' fun e w'' => ∃ A d, e = .returned (.tuple #[.slice A (cashW p1 p2 ++ secW q1 q2).length d, .int .i64 0]) ∧ w''.ownsRow w'.heap.size 34 5 (.slice A (cashW p1 p2 ++ secW q1 q2).length d) (cashW p1 p2 ++ secW q1 q2).length (nCells (cashW p1 p2 ++ secW q1 q2)) ∧ Below w'.heap.size w' w'' := by
  refine (of_ok ⟨some ⟨g, 0, none⟩, 2, c, pairT p1 q1 p2 q2⟩ w' (trs_blk (pairT p1 q1 p2 q2) c hb (pair_wf p1 q1 p2 q2 h1 h2 h3 h4) (by simp [pairT])) (by simp) (pair_small p1 q1 p2 q2 h1 h2 h3 h4)).mono ?_
  rintro e w'' ⟨v, ys, he, hr, ho, hb'⟩
  obtain rfl := netsR_unique hr (pair_nets p1 q1 p2 q2 h1.1 h2.1 h3.1 h4.1)
  obtain ⟨A, d, rfl⟩ := own_shape ho
  exact ⟨A, d, he, ho, hb'⟩
end Go.Proofs.Ytggpdbfkfcoejaa
