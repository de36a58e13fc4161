/-
  What each party gets by the nets is what it gets by the trades: no program in sight.
-/
import Derived.Test.YtggpdbfkfcoejaaGrossN
import Derived.Test.YtggpdbfkfcoejaaNetLaw
namespace Go.Proofs.Ytggpdbfkfcoejaa
open Go.RowKit

def keyA (x : NetD) : KeyD × Int := (⟨x.f, x.t, x.l, x.a⟩, x.n)
def totN (xs : List NetD) (k : KeyD) : Int := tot (xs.map keyA) k
/-- The sum over so many parties. -/
def sQ (n : Nat) (T : KeyD → Int) (p l a : Int) : Int := ((List.range n).map fun q : Nat => T ⟨q, p, l, a⟩ - T ⟨p, q, l, a⟩).sum
theorem sQ_succ (n : Nat) (T : KeyD → Int) (p l a : Int) : sQ (n + 1) T p l a = sQ n T p l a + (T ⟨n, p, l, a⟩ - T ⟨p, n, l, a⟩) := by
  simp [sQ, List.range_succ]
theorem sQ_add (n : Nat) (T U : KeyD → Int) (p l a : Int) : sQ n (fun k => T k + U k) p l a = sQ n T p l a + sQ n U p l a := by
  induction n with
  | zero => simp [sQ]
  | succ n ih => rw [sQ_succ, sQ_succ, sQ_succ, ih]; omega
theorem sQ_congr (n : Nat) (T U : KeyD → Int) (p l a : Int) (h : ∀ q : Nat, q < n → T ⟨q, p, l, a⟩ - T ⟨p, q, l, a⟩ = U ⟨q, p, l, a⟩ - U ⟨p, q, l, a⟩) : sQ n T p l a = sQ n U p l a := by
  induction n with
  | zero => simp [sQ]
  | succ n ih =>
    have h1 := h n (by omega)
    rw [sQ_succ, sQ_succ, ih (fun q hq => h q (by omega))]
    omega
/-- One net's share of the sum. -/
theorem sQ_one (x : NetD) (p l a : Int) (n : Nat) (hf : 0 ≤ x.f ∧ x.f < n) (ht : 0 ≤ x.t ∧ x.t < n) : sQ n (fun k => at1 (keyA x) k) p l a = getsI x p l a := by
  obtain ⟨xf, xt, xl, xa, xn⟩ := x
  simp only at hf ht
  have key : ∀ m : Nat, sQ m (fun k => at1 (keyA ⟨xf, xt, xl, xa, xn⟩) k) p l a = if xl = l ∧ xa = a then (if xt = p ∧ xf < m then xn else 0) - (if xf = p ∧ xt < m then xn else 0) else 0 := by
    intro m
    induction m with
    | zero => simp only [sQ, List.range_zero, List.map_nil, List.sum_nil]; split <;> (try rw [if_neg (by omega), if_neg (by omega)]) <;> omega
    | succ m ih =>
      rw [sQ_succ, ih]
      simp only [at1, keyA, same, Bool.and_eq_true, beq_iff_eq]
      by_cases h : xl = l ∧ xa = a
      · obtain ⟨h1, h2⟩ := h
        simp only [h1, h2, and_true, and_self, if_true]
        by_cases e1 : xt = p <;> by_cases e2 : xf = p <;> by_cases e3 : xf = (m : Int) <;> by_cases e4 : xt = (m : Int) <;> simp only [e1, e2, e3, e4, true_and, and_true, false_and, and_false, if_true, if_false] <;> (repeat' split) <;> omega
      · rw [if_neg h, if_neg h, if_neg (fun e => h ⟨e.1.2, e.2⟩), if_neg (fun e => h ⟨e.1.2, e.2⟩)]
        omega
  rw [key n]
  unfold getsI
  simp only
  split
  · simp only [hf.2, ht.2, and_true]
  · rfl
theorem sum_by_keys (xs : List NetD) (p l a : Int) (n : Nat) (h : ∀ x ∈ xs, (0 ≤ x.f ∧ x.f < n) ∧ (0 ≤ x.t ∧ x.t < n)) : sumI xs p l a = sQ n (totN xs) p l a := by
  induction xs with
  | nil =>
    have : ∀ m : Nat, sQ m (totN []) p l a = 0 := fun m => by
      induction m with
      | zero => simp [sQ]
      | succ m ih => rw [sQ_succ, ih]; simp [totN, tot]
    rw [this]
    rfl
  | cons x xs ih =>
    have e : totN (x :: xs) = fun k => at1 (keyA x) k + totN xs k := rfl
    rw [e, sQ_add, sQ_one x p l a n (h x (by simp)).1 (h x (by simp)).2, ← ih (fun y hy => h y (by simp [hy]))]
    simp [sumI]
theorem tot_none {xs : List NetD} {k : KeyD} (h : ∀ x ∈ xs, (keyA x).1 ≠ k) : totN xs k = 0 := by
  unfold totN
  induction xs with
  | nil => rfl
  | cons x xs ih =>
    have e : at1 (keyA x) k = 0 := by
      unfold at1
      rw [if_neg]
      intro e
      exact h x (by simp) (same_iff.1 e)
    simp only [List.map_cons, tot, e]
    rw [ih (fun y hy => h y (by simp [hy]))]
    rfl
theorem tot_only {xs : List NetD} {k : KeyD} {x0 : NetD} (hnd : xs.Nodup) (h0 : (keyA x0).1 = k) (h : ∀ x ∈ xs, (keyA x).1 = k → x = x0) (hm : x0 ∈ xs) : totN xs k = x0.n := by
  induction xs with
  | nil => cases hm
  | cons x xs ih =>
    obtain ⟨n1, n2⟩ := List.nodup_cons.1 hnd
    have e0 : totN (x :: xs) k = at1 (keyA x) k + totN xs k := rfl
    rw [e0]
    by_cases e : (keyA x).1 = k
    · obtain rfl := h x (by simp) e
      rw [tot_none (fun y hy ey => by
        obtain rfl := h y (by simp [hy]) ey
        exact n1 hy)]
      unfold at1
      rw [if_pos (same_iff.2 e)]
      simp [keyA]
    · have e1 : at1 (keyA x) k = 0 := by
        unfold at1
        rw [if_neg]
        intro e'
        exact e (same_iff.1 e')
      rcases List.mem_cons.1 hm with e2 | e2
      · subst e2
        exact absurd h0 e
      · rw [e1, ih n2 (fun y hy => h y (by simp [hy])) e2]
        omega
theorem netsR_nodup {T : KeyD → Int} {ys : List NetD} (h : NetsR T ys) : ys.Nodup := h.1.imp (fun hlt e => by subst e; exact keyLt_irrefl _ hlt)
theorem totN_nets {T : KeyD → Int} {ys : List NetD} (h : NetsR T ys) {k : KeyD} (hk : k.wf) : totN ys k = if T k.back < T k then T k - T k.back else 0 := by
  have hkey : ∀ x ∈ ys, (keyA x).1 = k → x = netOf T k ∧ T k.back < T k := by
    intro x hx e
    obtain ⟨k', _, hlt, rfl⟩ := (h.2 x).1 hx
    have : k' = k := by rw [← e]; rfl
    subst this
    exact ⟨rfl, hlt⟩
  split
  · rename_i hlt
    exact tot_only (k := k) (netsR_nodup h) rfl (fun x hx e => (hkey x hx e).1) ((h.2 _).2 ⟨k, hk, hlt, rfl⟩)
  · rename_i hlt
    exact tot_none fun x hx e => hlt (hkey x hx e).2
theorem totN_diff {T : KeyD → Int} {ys : List NetD} (h : NetsR T ys) {k : KeyD} (hk : k.wf) : totN ys k - totN ys k.back = T k - T k.back := by
  have hb : k.back.wf := ⟨hk.2.1, hk.1, hk.2.2.1, hk.2.2.2⟩
  rw [totN_nets h hk, totN_nets h hb]
  have : k.back.back = k := rfl
  rw [this]
  split <;> split <;> omega
theorem mvsN_keys (ts : List TrD) (h : ∀ x ∈ ts, x.b ≠ x.s) : (mvsN ts).map keyA = msOf ts := by
  induction ts with
  | nil => rfl
  | cons x ts ih =>
    have e1 : mvsN (x :: ts) = mvN x ++ mvsN ts := rfl
    have e2 : msOf (x :: ts) = mvs x ++ msOf ts := rfl
    rw [e1, e2, List.map_append, ih (fun y hy => h y (by simp [hy]))]
    congr 1
    unfold mvs
    rw [if_neg (h x (by simp))]
    rfl
/-- Parties of trades that may be. -/
def PartT (x : TrD) : Prop := (0 ≤ x.b ∧ x.b < 16) ∧ (0 ≤ x.s ∧ x.s < 16) ∧ x.b ≠ x.s
theorem mvsN_parties (ts : List TrD) (h : ∀ x ∈ ts, PartT x) : ∀ y ∈ mvsN ts, (0 ≤ y.f ∧ y.f < ((16 : Nat) : Int)) ∧ (0 ≤ y.t ∧ y.t < ((16 : Nat) : Int)) := by
  intro y hy
  obtain ⟨x, hx, hy⟩ := List.mem_flatMap.1 hy
  obtain ⟨h1, h2, _⟩ := h x hx
  simp [mvN] at hy
  rcases hy with rfl | rfl <;> simp only <;> omega
theorem nets_parties {ts : List TrD} (h : ∀ x ∈ ts, PartT x) (hnn : ∀ m ∈ msOf ts, 0 ≤ m.2) {ys : List NetD} (hr : NetsR (tot (msOf ts)) ys) : ∀ y ∈ ys, ((0 ≤ y.f ∧ y.f < ((16 : Nat) : Int)) ∧ (0 ≤ y.t ∧ y.t < ((16 : Nat) : Int))) ∧ y.f ≠ y.t ∧ 1 ≤ y.n := by
  intro y hy
  obtain ⟨k, _, hlt, rfl⟩ := (hr.2 y).1 hy
  have h0 := tot_nonneg hnn k.back
  obtain ⟨m, hm, rfl⟩ := tot_pos_mem (ms := msOf ts) (k := k) (by omega)
  obtain ⟨x, hx, hm⟩ := List.mem_flatMap.1 hm
  obtain ⟨h1, h2, h3⟩ := h x hx
  unfold mvs at hm
  rw [if_neg h3] at hm
  simp [mv] at hm
  refine ⟨?_, ?_, by simp only [netOf]; omega⟩
  · rcases hm with rfl | rfl <;> simp only [netOf] <;> omega
  · rcases hm with rfl | rfl <;> simp only [netOf] <;> omega
/-- WHAT THE LAW SAYS. -/
theorem sum_nets {ts : List TrD} (h : ∀ x ∈ ts, PartT x) (hnn : ∀ m ∈ msOf ts, 0 ≤ m.2) {ys : List NetD} (hr : NetsR (tot (msOf ts)) ys) (p l a : Int) (hp : wf64 p) (hl : wf64 l) (ha : wf64 a) : sumI ys p l a = sumI (mvsN ts) p l a := by
  rw [sum_by_keys ys p l a 16 (fun y hy => (nets_parties h hnn hr y hy).1), sum_by_keys (mvsN ts) p l a 16 (mvsN_parties ts h)]
  refine sQ_congr 16 _ _ p l a fun q hq => ?_
  have hw : KeyD.wf ⟨q, p, l, a⟩ := ⟨WalkArith.wf_i64 (n := (q : Int)) (by omega), hp, hl, ha⟩
  have e := totN_diff hr hw
  simp only [KeyD.back] at e
  rw [e]
  unfold totN
  rw [mvsN_keys ts (fun x hx => (h x hx).2.2)]
/-- All together get nothing. -/
def sumP (n : Nat) (xs : List NetD) (l a : Int) : Int := ((List.range n).map fun p : Nat => sumI xs p l a).sum
theorem sumP_succ (n : Nat) (xs : List NetD) (l a : Int) : sumP (n + 1) xs l a = sumP n xs l a + sumI xs n l a := by simp [sumP, List.range_succ]
theorem sumP_cons (n : Nat) (x : NetD) (xs : List NetD) (l a : Int) : sumP n (x :: xs) l a = sumP n [x] l a + sumP n xs l a := by
  induction n with
  | zero => simp [sumP]
  | succ n ih =>
    rw [sumP_succ, sumP_succ, sumP_succ, ih]
    have : sumI (x :: xs) n l a = sumI [x] n l a + sumI xs n l a := by simp [sumI]
    omega
theorem sumP_one (x : NetD) (l a : Int) (n : Nat) (hf : 0 ≤ x.f ∧ x.f < n) (ht : 0 ≤ x.t ∧ x.t < n) : sumP n [x] l a = 0 := by
  have key : ∀ m : Nat, sumP m [x] l a = if x.l = l ∧ x.a = a then (if x.t < m then x.n else 0) - (if x.f < m then x.n else 0) else 0 := by
    intro m
    induction m with
    | zero => simp only [sumP, List.range_zero, List.map_nil, List.sum_nil]; split <;> (try rw [if_neg (by omega), if_neg (by omega)]) <;> omega
    | succ m ih =>
      rw [sumP_succ, ih]
      have : sumI [x] m l a = getsI x m l a := by simp [sumI]
      rw [this]
      unfold getsI
      split
      · (repeat' split) <;> omega
      · omega
  rw [key n, if_pos ht.2, if_pos hf.2]
  split <;> omega
theorem sumP_zero (xs : List NetD) (l a : Int) (n : Nat) (h : ∀ x ∈ xs, (0 ≤ x.f ∧ x.f < n) ∧ (0 ≤ x.t ∧ x.t < n)) : sumP n xs l a = 0 := by
  induction xs with
  | nil =>
    induction n with
    | zero => simp [sumP]
    | succ n ih => rw [sumP_succ, ih (by simp)]; simp [sumI]
  | cons x xs ih => rw [sumP_cons, sumP_one x l a n (h x (by simp)).1 (h x (by simp)).2, ih (fun y hy => h y (by simp [hy]))]; rfl
end Go.Proofs.Ytggpdbfkfcoejaa
