/-
  cflref.Few by contract: are texts few and small?
-/
import Derived.Test.YthnenpjpgmpadaaOpen
import Derived.LoopTactic
namespace Go.Proofs.Ythnenpjpgmpadaa
open Go.RowKit

def fewSum (ts : List TextD) : Int := ts.foldl (fun (a : Int) t => a + min (t.n : Int) 20001) 0
theorem fewSum_snoc (ts : List TextD) (t : TextD) : fewSum (ts ++ [t]) = fewSum ts + min (t.n : Int) 20001 := by simp [fewSum, List.foldl_append]
theorem fold_from (ts : List TextD) (a : Int) : ts.foldl (fun (a : Int) t => a + min (t.n : Int) 20001) a = a + fewSum ts := by
  induction ts generalizing a with
  | nil => simp [fewSum]
  | cons t ts ih =>
    simp only [fewSum, List.foldl_cons]
    rw [ih, ih]
    omega
theorem fewSum_cons (t : TextD) (ts : List TextD) : fewSum (t :: ts) = min (t.n : Int) 20001 + fewSum ts := by
  simp only [fewSum, List.foldl_cons]
  rw [fold_from]
  simp [fewSum]
theorem fewSum_nonneg (ts : List TextD) : 0 ≤ fewSum ts := by
  induction ts with
  | nil => simp [fewSum]
  | cons t ts ih => rw [fewSum_cons]; omega
theorem fewSum_le (ts : List TextD) : fewSum ts ≤ 20001 * (ts.length : Int) := by
  induction ts with
  | nil => simp [fewSum]
  | cons t ts ih => rw [fewSum_cons]; simp; omega
theorem fewSum_mem {ts : List TextD} {t : TextD} (h : t ∈ ts) (hs : fewSum ts ≤ 20000) : t.n ≤ 20000 := by
  induction ts with
  | nil => cases h
  | cons u ts ih =>
    rw [fewSum_cons] at hs
    have := fewSum_nonneg ts
    cases h with
    | head => omega
    | tail _ h => exact ih h (by omega)
theorem fewSum_take (ts : List TextD) (k : Nat) (h : k < ts.length) : fewSum (ts.take (k + 1)) = fewSum (ts.take k) + min (ts[k].n : Int) 20001 := by
  rw [List.take_succ_eq_append_getElem h, fewSum_snoc]

/-- Few, of at most 200 texts of at most 20000 bytes. -/
def fewT (ts : List TextD) : Bool := decide (ts.length ≤ 200) && decide (fewSum (ts.take 200) ≤ 20000)
theorem fewT_len {ts : List TextD} (h : fewT ts = true) : ts.length ≤ 200 := by unfold fewT at h; simp at h; exact h.1
theorem fewT_mem {ts : List TextD} (h : fewT ts = true) : ∀ t ∈ ts, t.n ≤ 20000 := by
  intro t ht
  have hl := fewT_len h
  unfold fewT at h
  simp at h
  rw [List.take_of_length_le hl] at h
  exact fewSum_mem ht h.2

set_option maxRecDepth 100000 in
set_option maxHeartbeats 1000000 in
theorem fewtexts_any (t : TextsD) (w : World) (h : t.ok w) : Calls Try.prog 21 #[.slice t.A t.n t.c, .int .i64 200, .int .i64 20000] w fun e w' => e = .returned (.bool (fewT t.ts)) ∧ w = w' := by
  obtain ⟨A, n, c, ts⟩ := t
  obtain ⟨hl, hmax, hat, _⟩ := h
  simp only at hl hmax hat ⊢
  obtain rfl := hl
  unfold maxLen at hmax
  go_enter Try.func21, Try.ntmps21
  go_wp2
  go_loop [7, 8] (fun s i => ∃ k : Nat, k ≤ ts.length ∧ k ≤ 200 ∧ i = .int .i64 k ∧ s = .int .i64 (fewSum (ts.take k))) (fun _ i => ts.length - (intOf i).toNat)
  case atStart => exact ⟨0, Nat.zero_le _, Nat.zero_le _, rfl, rfl⟩
  case round =>
    obtain ⟨k, hk, hk2, rfl, rfl⟩ := hrel
    have g0 := fewSum_nonneg (ts.take k)
    have g1 := fewSum_le (ts.take k)
    have g2 : (ts.take k).length = k := by simp; omega
    rw [g2] at g1
    clear g2
    by_cases hlt : k < ts.length
    · by_cases hlt2 : k < 200
      · obtain ⟨b, o, rfl, hb, hcell⟩ := hat (by omega)
        have hc := hcell k hlt
        have hs := Lib.hid (fewSum_take ts k hlt)
        clear hcell hat
        have hn : 0 ≤ (ts[k].n : Int) := Int.natCast_nonneg _
        generalize ts[k].n = m at hs hc hn
        go_wp2
        go_round
        case rel => exact ⟨k + 1, by omega, by omega, by go_num, by rw [hs.out]⟩
        case measure => simp [intOf]; omega
      · have hbig : (200 : Int) < (ts.length : Int) := by omega
        go_wp2
        go_ret
        refine ⟨?_, rfl⟩
        have : fewT ts = false := by unfold fewT; simp; omega
        rw [this]
        rfl
    · obtain rfl : k = ts.length := by omega
      have hle : (ts.length : Int) ≤ 200 := by omega
      rw [List.take_of_length_le (Nat.le_refl _)]
      have hf0 : fewT ts = decide (fewSum ts ≤ 20000) := by
        unfold fewT
        rw [List.take_of_length_le (by omega)]
        simp [hk2]
      have hf := Lib.hid hf0
      clear hf0
      go_wp2
      go_ret
      exact ⟨by rw [hf.out]; rfl, rfl⟩
end Go.Proofs.Ythnenpjpgmpadaa
