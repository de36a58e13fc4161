/-
  The web's edges, sorted: slices.SortedFunc over maps.Keys, by contract.
-/
import Derived.Test.YthoniedmeeahgaaSortE
namespace Go.Proofs.Ythoniedmeeahgaa
open Go.RowKit Go.Maps Go.Shelf Go.Lib

set_option maxRecDepth 100000 in
set_option maxHeartbeats 2000000 in
theorem sortedFuncE_in (n : Nat) (hn : 5 ≤ n) (g : Nat) (lb : Array Value) (eg : ∀ args w, (callFunc g args).run Try.prog w = .ok (.enter g args) w)
    (S Sp : List EdD → Prop) (N : Nat) (hN : N ≤ 1000000) (w : World) (hseq : SeqStops Fence.wide (n - 1 - 1 - 1) Try.prog g lb EdD.v S Sp N w) :
    CallsIn Fence.wide n Try.prog 43 #[.func (.func g) #[] lb, .func (.func 45) #[] #[]] w fun e w' => ∃ (v : Value) (ss es : List EdD), e = .returned v ∧ S ss ∧ es.Perm ss ∧ es.Pairwise (fun x y => lessE y x = false) ∧ es.length ≤ N ∧ w'.ownsRow w.heap.size 47 2 v es.length (eCells es) ∧ Below w.heap.size w w' := by
  have h1 : 1 ≤ n := by omega
  have t1 : Fence.wide.fn 48 := trivial
  have t2 : Fence.wide.fn 49 := trivial
  refine callsIn_of_wp Try.func43 rfl trivial ?_ rfl
  simp only [Try.ntmps43, List.size_toArray, List.length_cons, List.length_nil, Nat.reduceAdd, Nat.reduceSub, Array.replicate_succ, Array.replicate_zero, List.push_toArray, List.append_toArray, List.nil_append, List.cons_append]
  gi_wp2_with (gi_at_call 48; refine (collectE_in Fence.wide (n - 1) trivial trivial rfl (by omega) g lb trivial eg S Sp N hN _ hseq).mono ?_; rintro e w1 ⟨v, ss, rfl, hS, hl, hrow, hb⟩)
  gi_wp2_with (gi_at_call 49; refine (callsIn_wide.2 (sortE_any w.heap.size v ss w1 hrow (by omega))).mono ?_; rintro e w2 ⟨rfl, es, hp, hs, hrow2, hg⟩)
  go_ret
  exact ⟨v, ss, es, rfl, hS, hp, hs, by rw [hp.length_eq]; exact hl, hrow2, hb.grown hg hb.size (fun j hj => (own_block hrow hj).1)⟩

/-- The web's edges, rising. -/
def EdgesOf (S : EdD → Option HdD) (es : List EdD) : Prop := es.Pairwise edLt ∧ ∀ k, k ∈ es ↔ k.wf ∧ (S k).isSome = true
theorem entersKeys : ∀ (args : Array Value) (w : World), (callFunc 50 args).run Try.prog w = .ok (.enter 50 args) w := enters_of Try.func50 (by kernel_rfl) rfl
set_option maxRecDepth 100000 in
set_option maxHeartbeats 2000000 in
theorem webSorted_any (b nn : Nat) (S : EdD → Option HdD) (w : World) (h : MapW w b nn S) (hn : nn ≤ 1000000) :
    Calls Try.prog 35 #[.map (some b)] w fun e w' => ∃ (v : Value) (es : List EdD), e = .returned v ∧ EdgesOf S es ∧ es.length ≤ nn ∧ w'.ownsRow w.heap.size 47 2 v es.length (eCells es) ∧ Below w.heap.size w w' := by
  obtain ⟨D, hown, hat⟩ := h
  have hsz : Maps.size D ≤ nn := hown.size_le
  refine (callsIn_wide (n := 10)).1 ?_
  have h1 : 1 ≤ 10 := by omega
  have t1 : Fence.wide.fn 44 := trivial
  have t2 : Fence.wide.fn 43 := trivial
  refine callsIn_of_wp Try.func35 rfl trivial ?_ rfl
  simp only [Try.ntmps35, List.size_toArray, List.length_cons, List.length_nil, Nat.reduceAdd, Nat.reduceSub, Array.replicate_succ, Array.replicate_zero, List.push_toArray, List.append_toArray, List.nil_append, List.cons_append]
  gi_wp2_with (gi_at_call 44; refine (keysE_in Fence.wide _ trivial rfl b w).mono ?_; rintro e w1 ⟨rfl, rfl⟩)
  have hk := keysE_stops Fence.wide 6 trivial rfl (by omega) w.heap.size b nn D (w.alloc (.cells #[.map (some b)] 45)) (by simp) (Blk.cell (Blk.new w 45 #[.map (some b)]) 0) (hown.alloc _)
  gi_wp2_with (gi_at_call 43; refine (sortedFuncE_in 9 (by omega) _ _ entersKeys _ _ (Maps.size D) (by omega) _ hk).mono ?_; rintro e w2 ⟨v, ss, es, rfl, hS, hp, hs, hl, hrow, hb⟩)
  go_ret
  have hnd : es.Nodup := hp.nodup_iff.2 hS.1
  refine ⟨v, es, rfl, ⟨?_, fun k => ?_⟩, by omega, own_mono hrow (by simp), ((Below.refl _ w).alloc (Nat.le_refl _) _).trans (hb.mono (by simp))⟩
  · rw [List.pairwise_iff_getElem] at hs ⊢
    intro i j hi hj hij
    have h1 := hs i j hi hj hij
    have hne : es[i] ≠ es[j] := (List.pairwise_iff_getElem.1 hnd) i j hi hj hij
    have h2 : ¬ edLt es[j] es[i] := fun h => by rw [(lessE_iff _ _).2 h] at h1; cases h1
    generalize es[i] = x at h2 hne ⊢
    generalize es[j] = y at h2 hne ⊢
    obtain ⟨a, b⟩ := x
    obtain ⟨c, d⟩ := y
    unfold edLt at h2 ⊢
    simp only at h2 ⊢
    have : ¬ (a = c ∧ b = d) := fun h => hne (by rw [h.1, h.2])
    omega
  · rw [hp.mem_iff, hS.2 k]
    constructor
    · rintro ⟨h1, h2⟩
      exact ⟨h1, by rw [← (hat k h1).1]; exact h2⟩
    · rintro ⟨h1, h2⟩
      exact ⟨h1, by rw [(hat k h1).1]; exact h2⟩
end Go.Proofs.Ythoniedmeeahgaa
