/-
  maps.Keys of a web, and its iterator: the edges come, each once.
-/
import Derived.Test.YthoniedmeeahgaaWebMap
import Derived.RangeFuncGives
import Derived.RangeFuncStops
import Derived.RangeFuncBound
import Derived.Shelf.AbstractIn
import Derived.RangeFuncSeq
import Derived.Sort.MapsRangeIn
import Derived.WalkKit
import Derived.OwnWalkIn
import Derived.TacticsInMore
import Derived.RegionIn
import Derived.LoopNIn
import Derived.LoopIn
namespace Go.Proofs.Ythoniedmeeahgaa
open Go.RowKit Go.Maps Go.Shelf

/-- The edges of a web's datum, each once. -/
def KeysE (D : DataW Unit) (ss : List EdD) : Prop := ss.Nodup ∧ ∀ k, k ∈ ss ↔ k.wf ∧ Maps.has D k.lit = true
/-- Those that have come. -/
def GotE (D : DataW Unit) (left : Lit → Bool) (ss : List EdD) : Prop := ss.Nodup ∧ ∀ k, k ∈ ss ↔ k.wf ∧ Maps.has D k.lit = true ∧ left k.lit = false
theorem GotE.start (D : DataW Unit) : GotE D (Maps.has D) [] := ⟨List.nodup_nil, fun k => by simp⟩
theorem has_of_at {D : DataW Unit} {k : Lit} {y : DataW Unit} (h : ∀ z, D.atKey k z = y) : Maps.has D k = true := Maps.has_true_of_atKey h
set_option maxRecDepth 100000 in
theorem GotE.step {D : DataW Unit} {left : Lit → Bool} {ss : List EdD} (h : GotE D left ss) {k : EdD} (hk : k.wf) (hl : left k.lit = true) (hh : Maps.has D k.lit = true) : GotE D (fun z => left z && !z.sameKey k.lit) (ss ++ [k]) := by
  refine ⟨?_, fun x => ?_⟩
  · rw [List.nodup_append]
    refine ⟨h.1, by simp, fun a ha b hb e => ?_⟩
    simp at hb
    subst hb
    subst e
    have := ((h.2 _).1 ha).2.2
    rw [hl] at this
    cases this
  · rw [List.mem_append, h.2 x]
    simp only [List.mem_singleton]
    constructor
    · rintro (⟨h1, h2, h3⟩ | rfl)
      · exact ⟨h1, h2, by simp [h3]⟩
      · exact ⟨hk, hh, by simp [WideAt.sameKey_self (keyLaw.key (lit_of hk))]⟩
    · rintro ⟨h1, h2, h3⟩
      by_cases e : x = k
      · exact .inr e
      · refine .inl ⟨h1, h2, ?_⟩
        cases hx : left x.lit with
        | false => rfl
        | true =>
          rw [hx] at h3
          simp at h3
          exact absurd (lit_inj h1 hk (WideAt.sameKey_eq h3)) e

set_option maxRecDepth 100000 in
set_option maxHeartbeats 1000000 in
/-- maps.Keys(w): the web is boxed; the function value captures the box. -/
theorem keysE_in (F : Fence) (n : Nat) (h44 : F.fn 44) (hro : F.round = none) (b : Nat) (w : World) :
    CallsIn F n Try.prog 44 #[.map (some b)] w fun e w' => e = .returned (.func (.func 50) #[] #[.pointer (some ⟨w.heap.size, 0, none⟩)]) ∧ w' = w.alloc (.cells #[.map (some b)] 45) := by
  refine callsIn_of_wp Try.func44 rfl h44 ?_ hro
  simp only [Try.ntmps44, List.size_toArray, List.length_cons, List.length_nil, Nat.reduceAdd, Nat.reduceSub, Array.replicate_succ, Array.replicate_zero, List.push_toArray, List.append_toArray, List.nil_append, List.cons_append]
  gi_wp2
  go_ret
  exact ⟨rfl, rfl⟩

set_option maxRecDepth 100000 in
set_option maxHeartbeats 2000000 in
theorem keysE1_in (F : Fence) (n : Nat) (h50 : F.fn 50) (hro : F.round = none) (hn : 1 ≤ n) (l Bm b nn : Nat) (D0 : DataW Unit) (J Jx : List EdD → World → Prop)
    (hY : ∀ pre x W, J pre W → pre.length < Maps.size D0 → YieldAt F (n - 1) Try.prog l #[x.v] W fun e W' => (e = .returned (.bool true) ∧ J (pre ++ [x]) W' ∧ KeepsWalks W W') ∨ (e = .returned (.bool false) ∧ Jx (pre ++ [x]) W'))
    (W : World) (hJ : AbidesFrom W.heap.size J) (hm : W.cell? ⟨Bm, 0, none⟩ = some (.map (some b))) (hown : W.ownsMap Try.prog 47 hdR b nn D0) (h0 : J [] W) :
    CallsIn F n Try.prog 50 #[.func (.yield l) #[] #[], .pointer (some ⟨Bm, 0, none⟩)] W fun e W' => (∃ v, e = .returned v) ∧ ((∃ ss : List EdD, KeysE D0 ss ∧ J ss W') ∨ (∃ pre : List EdD, pre.Nodup ∧ Jx pre W')) := by
  refine callsIn_of_wp Try.func50 rfl h50 ?_ hro
  simp only [Try.ntmps50, List.size_toArray, List.length_cons, List.length_nil, Nat.reduceAdd, Nat.reduceSub, Array.replicate_succ, Array.replicate_zero, List.push_toArray, List.append_toArray, List.nil_append, List.cons_append]
  gi_wp2_with (first
    | (gi_at_range; refine wpListIn_range_own _ rfl _ 45 rfl 47 33 keyLaw Try.underlying45 _ b nn _ rfl hown ?_; intro w0 hrg0 hg0 hs0)
    | gi_in)
  go_frame
  gi_loopw [3] (fun _ wr => ∃ (left : Lit → Bool) (cnt : Nat) (ss : List EdD), wr.ranges Try.prog 47 hdR b W.heap.size nn D0 left cnt ∧ ss.length + cnt ≤ Maps.size D0 ∧ GotE D0 left ss ∧ J ss wr)
    (fun _ wr => wr.rangeLeft b W.heap.size)
  case atStart =>
    exact ⟨_, _, [], hrg0, by simp, GotE.start D0, hJ [] W w0 none h0 hg0 (fun r e => by cases e)⟩
  case round =>
    obtain ⟨left, cnt, ss, hrg, hcs, hC, hJs⟩ := hrel
    gi_wp2_with (first
      | (gi_at_next; refine wpListIn_next_ranges _ rfl _ rfl 47 keyLaw hdR EdD.v hdV (fun key kl hk => by obtain ⟨x, hx, _⟩ := key_shape hk; exact ⟨x, hx⟩) (fun v y hv => by obtain ⟨x, hx, _⟩ := hdR_inv hv; exact ⟨x, hx⟩) b W.heap.size nn _ _ _ rfl hrg ?_ ?_)
      | gi_in)
    · intro hc0 hl0
      gi_wp2
      go_end0
      exact ⟨⟨_, rfl⟩, .inl ⟨ss, ⟨hC.1, fun k => by rw [hC.2 k, hl0]; simp⟩, hJs⟩⟩
    · intro x c kl yd yp w2 cnt2 hkey hlk hv hat hrg2 hlt hg2 hs2 hen
      obtain ⟨x', ex, hxw⟩ := key_shape hkey
      obtain rfl : x = x' := key_inj ex
      have hkl : kl = x.lit := by
        have := lit_of hxw
        rw [hkey] at this
        injection this
      subst hkl
      have hJ2 : J ss w2 := hJ ss wr w2 (some W.heap.size) hJs hg2 (fun r e => by cases e; exact ⟨Nat.le_refl _, hrg.iter_walk⟩)
      have hJ3 : J ss (w2.alloc (.cells #[.int .i64 x.f, .int .i64 x.t] 47)) := hJ ss w2 _ none hJ2 (World.grownBy_alloc _ _ _) (fun r e => by cases e)
      obtain ⟨fn, tmps, assign, body, hy, hR⟩ := hY ss x _ hJ3 (by omega)
      have hC2 := hC.step hxw hlk (Maps.has_true_of_atKey hat)
      have hrg3 := hrg2.of_walks (KeepsWalks.alloc w2 (.cells #[.int .i64 x.f, .int .i64 x.t] 47))
      unfold EdD.v at hen hy ⊢
      clear hs2
      gi_wp2
      refine hR.mono ?_
      rintro e W3 (⟨rfl, hJ4, hk3⟩ | ⟨rfl, hJx3⟩)
      · gi_wp2
        have hrg4 := hrg3.of_walks hk3
        go_roundw
        case rel => exact ⟨_, cnt2, ss ++ [x], hrg4, by simp; omega, hC2, hJ4⟩
        case measure => rw [hrg4.left_eq, hrg.left_eq]; exact hlt
      · gi_wp2
        refine bodyPost_ret (results_none rfl _ _ _) rfl ?_
        exact ⟨⟨_, rfl⟩, .inr ⟨ss ++ [x], hC2.1, hJx3⟩⟩
/-- maps.Keys(w) hands back an iterator over the web's edges. -/
theorem keysE_stops (F : Fence) (n : Nat) (h50 : F.fn 50) (hro : F.round = none) (hn : 1 ≤ n) (Bm b nn : Nat) (D0 : DataW Unit) (w : World) (hBm : Bm < w.heap.size)
    (hm : w.cell? ⟨Bm, 0, none⟩ = some (.map (some b))) (hown : w.ownsMap Try.prog 47 hdR b nn D0) :
    SeqStops F n Try.prog 50 #[.pointer (some ⟨Bm, 0, none⟩)] EdD.v (KeysE D0) (fun pre => pre.Nodup) (Maps.size D0) w := fun l J Jx W hW hJ _ hY h0 => by
  have hown' : W.ownsMap Try.prog 47 hdR b nn D0 := by
    have hbl := hown.lt
    obtain ⟨es, clock, hb, Ft, hs, hD⟩ := hown
    exact ⟨es, clock, (hW.block b hbl).trans hb, Ft, hs, hD⟩
  exact keysE1_in F n h50 hro hn l Bm b nn D0 J Jx hY W hJ ((hW.cell (p := ⟨Bm, 0, none⟩) hBm).trans hm) hown' h0
end Go.Proofs.Ythoniedmeeahgaa
