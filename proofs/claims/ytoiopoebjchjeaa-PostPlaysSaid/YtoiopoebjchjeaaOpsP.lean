/-
  The calls on a post that came in, opened; Few by contract.
-/
import Derived.Test.YtoiopoebjchjeaaOpen
import Derived.Test.YtoiopoebjchjeaaPostE
import Derived.LoopTactic
import Derived.Deep.QuietTactic
import Derived.BigQuiet
import Derived.IntWalk
namespace Go.Proofs.Ytoiopoebjchjeaa
open Go.ChangeShapes Go.WideShapes Go.ChangeAt Go.RowKit

structure OpD where
  kind : Int
  num : Int
  B : TextD
structure OpsD where
  A : Option Addr
  n : Nat
  c : Nat
  ops : List OpD
/-- The three cells of a call. -/
def OpD.cells (x : OpD) : List Value := [.int .i64 x.kind, .int .i64 x.num, .slice x.B.A x.B.n x.B.c]
def OpD.ok (x : OpD) (W : World) : Prop := x.B.ok W
def OpsD.ok (t : OpsD) (W : World) : Prop := t.ops.length = t.n ∧ t.n ≤ maxLen ∧ (0 < t.n → ∃ b o, t.A = some ⟨b, o, none⟩ ∧ b < W.heap.size ∧ ∀ k (h : k < t.ops.length) (j : Nat) (v : Value), t.ops[k].cells[j]? = some v → W.cell? ⟨b, o + k * 3 + j, none⟩ = some v) ∧ ∀ x ∈ t.ops, x.ok W
theorem OpD.ok.below {x : OpD} {W W' : World} (h : x.ok W) (hb : Below W.heap.size W W') : x.ok W' := TextD.ok.below h hb
theorem OpsD.ok.below {t : OpsD} {W W' : World} (h : t.ok W) (hb : Below W.heap.size W W') : t.ok W' := by
  refine ⟨h.1, h.2.1, fun hn => ?_, fun x hx => (h.2.2.2 x hx).below hb⟩
  obtain ⟨b, o, hA, hlt, hc⟩ := h.2.2.1 hn
  exact ⟨b, o, hA, Nat.lt_of_lt_of_le hlt hb.size, fun k hk j v hv => (hb.cell (p := ⟨b, o + k * 3 + j, none⟩) hlt).trans (hc k hk j v hv)⟩

section
variable {H : Type} {enc : TypeId × Value → H} {W : World} {base : Nat}
theorem three {α : Type} (l : List α) (h : l.length = 3) : ∃ a b c, l = [a, b, c] := by
  match l, h with
  | [a, b, c], _ => exact ⟨a, b, c, rfl⟩

theorem openOpAt {m : Nat} {cs : List Value} {y : DataW H × List MemPlace} (hl : cs.length = 3) (h : DataW.trod enc Try.prog W 0 (fun _ => true) true m 34 cs = some y) : ∃ x : OpD, cs = x.cells ∧ x.ok W := by
  obtain ⟨v0, v1, v2, rfl⟩ := three cs hl
  have c3 : Try.prog.cellsOf 3 = 1 := by kernel_rfl
  have c26 : Try.prog.cellsOf 32 = 1 := by kernel_rfl
  obtain ⟨n0, y0, h0⟩ : ∃ n y, DataW.trod enc Try.prog W 0 (fun _ => true) true n 3 [v0] = some y := trod_part Try.underlying34 h 0 3 0 1 rfl c3
  obtain ⟨n1, y1, h1⟩ : ∃ n y, DataW.trod enc Try.prog W 0 (fun _ => true) true n 3 [v1] = some y := trod_part Try.underlying34 h 1 3 1 1 rfl c3
  obtain ⟨n2, y2, h2⟩ : ∃ n y, DataW.trod enc Try.prog W 0 (fun _ => true) true n 32 [v2] = some y := trod_part Try.underlying34 h 2 32 2 1 rfl c26
  obtain ⟨a0, e0, _, _⟩ := DataW.trod_int Try.underlying3 h0
  obtain ⟨a1, e1, _, _⟩ := DataW.trod_int Try.underlying3 h1
  obtain ⟨tB, eB, okB⟩ := openBytesAt h2
  obtain rfl := List.head_eq_of_cons_eq e0
  obtain rfl := List.head_eq_of_cons_eq e1
  subst eB
  exact ⟨⟨a0, a1, tB⟩, rfl, okB⟩

theorem openOps {v : Value} {d : DataW H} {p : List MemPlace} (hv : Value.okWide Try.prog W .any base 22 v) (h : DataW.Trod enc Try.prog W 0 (fun _ => true) true 22 v d p) : ∃ t : OpsD, v = .slice t.A t.n t.c ∧ t.ok W := by
  obtain ⟨a, l, c, rfl⟩ := okWide_slice Try.underlying22 hv
  obtain ⟨fuel, hf⟩ := h
  have c40 : Try.prog.cellsOf 34 = 3 := by kernel_rfl
  rcases Deep.open_slice Try.underlying22 hf with ⟨hcs, _⟩ | ⟨x, l', c', m, n, D, Pl, hcs, _, hl, hm, hmm, _, hx⟩
  · simp [Value.cells] at hcs
    obtain ⟨rfl, rfl, rfl⟩ := hcs
    exact ⟨⟨none, 0, 0, []⟩, rfl, rfl, Nat.zero_le _, fun hn => absurd hn (by simp), by simp⟩
  · simp [Value.cells] at hcs
    obtain ⟨rfl, rfl, rfl⟩ := hcs
    simp at hmm
    subst hmm
    obtain ⟨os, hos, hp⟩ := list_of l (fun k (t : OpD) => (∀ (j : Nat) (v : Value), t.cells[j]? = some v → W.cell? (x.add (k * 3 + j)) = some v) ∧ t.ok W) (fun k hk => by
      obtain ⟨cs', h1, h2⟩ := hx k (by omega)
      rw [c40] at h1
      obtain ⟨_, hlen, hat⟩ := World.cells?_some h1
      obtain ⟨t, ht, hok⟩ := openOpAt hlen h2
      refine ⟨t, fun j v hv => ?_, hok⟩
      have hj : j < 3 := by
        rw [← ht] at hv
        have := (List.getElem?_eq_some_iff.1 hv).1
        omega
      rw [← add_of_add, hat j hj, ht, hv])
    refine ⟨⟨some x, l, m, os⟩, rfl, hos, by simp only; omega, fun hn => ?_, fun t ht => ?_⟩
    · have h0 := (hp 0 (by simp only at hn; omega)).1 0 _ rfl
      have hb := block_lt_of_cell h0
      have hsp := World.cell?_spot h0
      obtain ⟨b, o, s⟩ := x
      have hs' : s = none := by simpa [Addr.add] using hsp
      subst hs'
      refine ⟨b, o, rfl, by rwa [block_of_add] at hb, fun k hk j v hv => ?_⟩
      have := (hp k hk).1 j v hv
      rw [Addr.add_lit] at this
      rwa [Nat.add_assoc]
    · obtain ⟨k, hk, rfl⟩ := List.getElem_of_mem ht
      exact (hp k hk).2
end

def opW (x : OpD) : Int := min (x.B.n : Int) 200001
def opSum (ts : List OpD) : Int := ts.foldl (fun (a : Int) t => a + opW t) 0
theorem opW_bound (x : OpD) : 0 ≤ opW x ∧ opW x ≤ 200001 := by unfold opW; omega
theorem opSum_snoc (ts : List OpD) (t : OpD) : opSum (ts ++ [t]) = opSum ts + opW t := by simp [opSum, List.foldl_append]
theorem opfold_from (ts : List OpD) (a : Int) : ts.foldl (fun (a : Int) t => a + opW t) a = a + opSum ts := by
  induction ts generalizing a with
  | nil => simp [opSum]
  | cons t ts ih =>
    simp only [opSum, List.foldl_cons]
    rw [ih, ih]
    omega
theorem opSum_cons (t : OpD) (ts : List OpD) : opSum (t :: ts) = opW t + opSum ts := by
  simp only [opSum, List.foldl_cons]
  rw [opfold_from]
  simp [opSum]
theorem opSum_nonneg (ts : List OpD) : 0 ≤ opSum ts := by
  induction ts with
  | nil => simp [opSum]
  | cons t ts ih => rw [opSum_cons]; have := opW_bound t; omega
theorem opSum_le (ts : List OpD) : opSum ts ≤ 200001 * (ts.length : Int) := by
  induction ts with
  | nil => simp [opSum]
  | cons t ts ih => rw [opSum_cons]; have := opW_bound t; simp; omega
theorem opSum_mem {ts : List OpD} {t : OpD} (h : t ∈ ts) (hs : opSum ts ≤ 200000) : t.B.n ≤ 200000 := by
  induction ts with
  | nil => cases h
  | cons u ts ih =>
    rw [opSum_cons] at hs
    have := opSum_nonneg ts
    have := opW_bound u
    cases h with
    | head => unfold opW at hs; omega
    | tail _ h => exact ih h (by omega)
theorem opSum_take (ts : List OpD) (k : Nat) (h : k < ts.length) : opSum (ts.take (k + 1)) = opSum (ts.take k) + min (ts[k].B.n : Int) 200001 := by
  rw [List.take_succ_eq_append_getElem h, opSum_snoc]
  unfold opW
  omega
def fewO (ts : List OpD) : Bool := decide (ts.length ≤ 300) && decide (opSum (ts.take 300) ≤ 200000)
theorem fewO_len {ts : List OpD} (h : fewO ts = true) : ts.length ≤ 300 := by unfold fewO at h; simp at h; exact h.1
theorem fewO_mem {ts : List OpD} (h : fewO ts = true) : ∀ t ∈ ts, t.B.n ≤ 200000 := by
  intro t ht
  have hl := fewO_len h
  unfold fewO at h
  simp at h
  rw [List.take_of_length_le hl] at h
  exact opSum_mem ht h.2

set_option maxRecDepth 100000 in
set_option maxHeartbeats 1000000 in
theorem fewops_any (t : OpsD) (w : World) (h : t.ok w) : Calls Try.prog 8 #[.slice t.A t.n t.c] w fun e w' => e = .returned (.bool (fewO t.ops)) ∧ Below w.heap.size w w' := by
  obtain ⟨A, n, c, ts⟩ := t
  obtain ⟨hl, hmax, hat, _⟩ := h
  simp only at hl hmax hat ⊢
  obtain rfl := hl
  unfold maxLen at hmax
  go_enter Try.func8, Try.ntmps8
  go_wp2
  go_loopw [3, 4] (fun s i wr => ∃ k : Nat, k ≤ ts.length ∧ k ≤ 300 ∧ i = .int .i64 k ∧ s = .int .i64 (opSum (ts.take k)) ∧ Below w.heap.size w wr) (fun _ i _ => ts.length - (intOf i).toNat)
  case atStart => exact ⟨0, Nat.zero_le _, Nat.zero_le _, rfl, rfl, Below.refl _ _⟩
  case round =>
    obtain ⟨k, hk, hk2, rfl, rfl, hb⟩ := hrel
    have g0 := opSum_nonneg (ts.take k)
    have g1 := opSum_le (ts.take k)
    have g2 : (ts.take k).length = k := by simp; omega
    rw [g2] at g1
    clear g2
    by_cases hlt : k < ts.length
    · by_cases hlt2 : k < 300
      · obtain ⟨b, o, rfl, hbo, hcell⟩ := hat (by omega)
        have hc2 := (hb.cell (p := ⟨b, o + k * 3 + 2, none⟩) hbo).trans (hcell k hlt 2 _ rfl)
        have hs := Lib.hid (opSum_take ts k hlt)
        clear hcell hat
        have hn1 : 0 ≤ (ts[k].B.n : Int) := Int.natCast_nonneg _
        generalize ts[k].B.n = m1 at hs hc2 hn1
        have hki : (k : Int) < (ts.length : Int) := by omega
        have hk0 : (0 : Int) ≤ (k : Int) := Int.natCast_nonneg _
        go_wp2_with fail
        go_roundw
        case rel => exact ⟨k + 1, by omega, by omega, by go_num, by rw [hs.out], hb⟩
        case measure => simp [intOf]; omega
      · have hbig : (300 : Int) < (ts.length : Int) := by omega
        go_wp2
        go_ret
        refine ⟨?_, hb⟩
        have : fewO ts = false := by unfold fewO; simp; omega
        rw [this]
        rfl
    · obtain rfl : k = ts.length := by omega
      have hle : (ts.length : Int) ≤ 300 := by omega
      rw [List.take_of_length_le (Nat.le_refl _)]
      have hf0 : fewO ts = decide (opSum ts ≤ 200000) := by
        unfold fewO
        rw [List.take_of_length_le (by omega)]
        simp [hk2]
      have hf := Lib.hid hf0
      clear hf0
      go_wp2
      go_ret
      exact ⟨by rw [hf.out]; rfl, hb⟩
end Go.Proofs.Ytoiopoebjchjeaa
