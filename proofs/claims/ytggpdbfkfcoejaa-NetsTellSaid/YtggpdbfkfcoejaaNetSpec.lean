/-
  What trades move, as sums over keys: no program in sight.
-/
import Derived.Test.YtggpdbfkfcoejaaTrd
namespace Go.Proofs.Ytggpdbfkfcoejaa
open Go.RowKit

def mv (t : TrD) : List (KeyD × Int) := [(⟨t.b, t.s, 0, t.c⟩, t.p), (⟨t.s, t.b, 1, t.a⟩, t.q)]
def mvs (t : TrD) : List (KeyD × Int) := if t.b = t.s then [] else mv t
def msOf (ts : List TrD) : List (KeyD × Int) := ts.flatMap mvs
def same (k k' : KeyD) : Bool := k.f == k'.f && k.t == k'.t && k.l == k'.l && k.a == k'.a
theorem same_iff {k k' : KeyD} : same k k' = true ↔ k = k' := by
  cases k
  cases k'
  simp [same, and_assoc]
theorem same_self (k : KeyD) : same k k = true := same_iff.2 rfl
def at1 (m : KeyD × Int) (k : KeyD) : Int := if same m.1 k = true then m.2 else 0
def tot : List (KeyD × Int) → KeyD → Int
  | [], _ => 0
  | m :: ms, k => at1 m k + tot ms k
theorem tot_append (a b : List (KeyD × Int)) (k : KeyD) : tot (a ++ b) k = tot a k + tot b k := by
  induction a with
  | nil => simp [tot]
  | cons m a ih => simp only [List.cons_append, tot, ih]; omega
theorem at1_self (k : KeyD) (x : Int) : at1 (k, x) k = x := by simp [at1, same_self]
theorem at1_other {k k' : KeyD} (x : Int) (h : k' ≠ k) : at1 (k, x) k' = 0 := by
  unfold at1
  rw [if_neg]
  intro e
  exact h (same_iff.1 e).symm
theorem tot_snoc_self (ms : List (KeyD × Int)) (k : KeyD) (x : Int) : tot (ms ++ [(k, x)]) k = tot ms k + x := by rw [tot_append]; simp [tot, at1_self]
theorem tot_snoc_other (ms : List (KeyD × Int)) {k k' : KeyD} (x : Int) (h : k' ≠ k) : tot (ms ++ [(k, x)]) k' = tot ms k' := by rw [tot_append]; simp [tot, at1_other x h]
/-- Amounts that are none below nought and that add up. -/
def SmallM (ms : List (KeyD × Int)) : Prop := (∀ m ∈ ms, 0 ≤ m.2) ∧ ∀ k, tot ms k ≤ 4611686018427387904
theorem at1_nonneg {m : KeyD × Int} (h : 0 ≤ m.2) (k : KeyD) : 0 ≤ at1 m k := by
  unfold at1
  split <;> omega
theorem tot_nonneg {ms : List (KeyD × Int)} (h : ∀ m ∈ ms, 0 ≤ m.2) (k : KeyD) : 0 ≤ tot ms k := by
  induction ms with
  | nil => simp [tot]
  | cons m ms ih =>
    have h1 := at1_nonneg (h m (by simp)) k
    have h2 := ih (fun x hx => h x (by simp [hx]))
    simp only [tot]
    omega
theorem SmallM.pre {a b : List (KeyD × Int)} (h : SmallM (a ++ b)) : SmallM a := by
  refine ⟨fun m hm => h.1 m (by simp [hm]), fun k => ?_⟩
  have h1 := h.2 k
  rw [tot_append] at h1
  have h2 := tot_nonneg (ms := b) (fun m hm => h.1 m (by simp [hm])) k
  omega
/-- One more amount adds up. -/
theorem SmallM.fits {a b : List (KeyD × Int)} {k : KeyD} {x : Int} (h : SmallM (a ++ (k, x) :: b)) : 0 ≤ tot a k ∧ 0 ≤ x ∧ tot a k + x ≤ 4611686018427387904 := by
  have h' : SmallM ((a ++ [(k, x)]) ++ b) := by simpa using h
  have h1 := h'.pre
  have h2 := h1.2 k
  rw [tot_snoc_self] at h2
  exact ⟨tot_nonneg h1.pre.1 k, h1.1 (k, x) (by simp), h2⟩
theorem msOf_take (ts : List TrD) (i : Nat) (h : i < ts.length) : msOf (ts.take (i + 1)) = msOf (ts.take i) ++ mvs ts[i] := by
  unfold msOf
  rw [List.take_succ_eq_append_getElem h, List.flatMap_append, List.flatMap_cons, List.flatMap_nil, List.append_nil]
theorem msOf_split (ts : List TrD) (i : Nat) (h : i < ts.length) : msOf ts = msOf (ts.take i) ++ (mvs ts[i] ++ msOf (ts.drop (i + 1))) := by
  conv => lhs; rw [← List.take_append_drop i ts, List.drop_eq_getElem_cons h]
  unfold msOf
  rw [List.flatMap_append, List.flatMap_cons]
theorem msOf_length (ts : List TrD) : (msOf ts).length ≤ 2 * ts.length := by
  induction ts with
  | nil => simp [msOf]
  | cons t ts ih =>
    have : msOf (t :: ts) = mvs t ++ msOf ts := rfl
    rw [this, List.length_append, List.length_cons]
    have : (mvs t).length ≤ 2 := by unfold mvs mv; split <;> simp
    omega
end Go.Proofs.Ytggpdbfkfcoejaa
