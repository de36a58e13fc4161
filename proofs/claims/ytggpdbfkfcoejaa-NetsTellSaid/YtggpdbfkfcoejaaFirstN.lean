/-
  first, SameNets by contract.
-/
import Derived.Test.YtggpdbfkfcoejaaNetLaw
namespace Go.Proofs.Ytggpdbfkfcoejaa
open Go.RowKit

theorem trs_blk {w : World} {g : Nat} {t : TypeId} (ts : List TrD) (c : Nat) (h : Blk w g t (trCells ts).toArray) (hwf : ∀ x ∈ ts, x.wf) (hn : ts.length ≤ 1000000) : TrsD.ok ⟨some ⟨g, 0, none⟩, ts.length, c, ts⟩ w := by
  refine ⟨rfl, by simp only [maxLen]; omega, ⟨trCells_length ts, fun _ => ⟨_, rfl, h.lt, fun j u hu => ?_⟩⟩, hwf⟩
  rw [Addr.add_lit, Nat.zero_add, h.cell, ← hu]
  simp
theorem own_net {w : World} {base n c : Nat} {A : Option Addr} {ys : List NetD} (h : w.ownsRow base 34 5 (.slice A n c) n (nCells ys)) (hn : 0 < n) (hl : ys.length = n) : ∃ g, A = some ⟨g, 0, none⟩ ∧ g < w.heap.size ∧ ∀ k (hk : k < ys.length) (j : Nat) (hj : j < 5), w.cell? ⟨g, k * 5 + j, none⟩ = (encN ys[k])[j]? := by
  obtain ⟨g, cap, hv, _, hlt⟩ := h.form hn
  injection hv with hA _ _
  subst hA
  refine ⟨g, rfl, hlt, fun k hk j hj => ?_⟩
  have h1 := nCells_at ys k hk j hj
  have hj' : j < (encN ys[k]).length := by rw [encN_length]; exact hj
  rw [List.getElem?_eq_getElem hj'] at h1 ⊢
  have := h.cells (g := g) rfl (k * 5 + j) _ h1
  rwa [Addr.add_lit, Nat.zero_add] at this

theorem wfT : exT.wf := ⟨rfl, rfl, rfl, rfl, rfl, rfl, rfl⟩
theorem wfU : exU.wf := ⟨rfl, rfl, rfl, rfl, rfl, rfl, rfl⟩
theorem cells_two : (trCells [exT, exU]).toArray = #[.int .i64 0, .int .i64 0, .int .i64 1, .int .i64 0, .int .i64 5, .int .i64 0, .int .i64 1, .int .i64 0, .int .i64 1, .int .i64 0, .int .i64 0, .int .i64 5, .int .i64 0, .int .i64 1] := rfl
theorem cells_one : (trCells [exT]).toArray = #[.int .i64 0, .int .i64 0, .int .i64 1, .int .i64 0, .int .i64 5, .int .i64 0, .int .i64 1] := rfl
theorem of_two (g c : Nat) (w' : World) (hb : Blk w' g 30 #[.int .i64 0, .int .i64 0, .int .i64 1, .int .i64 0, .int .i64 5, .int .i64 0, .int .i64 1, .int .i64 0, .int .i64 1, .int .i64 0, .int .i64 0, .int .i64 5, .int .i64 0, .int .i64 1]) :
    Calls Try.prog 9 #[.slice (some ⟨g, 0, none⟩) 2 c] w' fun e w'' => ∃ v, e = .returned (.tuple #[v, .int .i64 0]) ∧ w''.ownsRow w'.heap.size 34 5 v 0 [] ∧ Below w'.heap.size w' w'' := by
  rw [← cells_two] at hb
  refine (of_ok ⟨some ⟨g, 0, none⟩, 2, c, [exT, exU]⟩ w' (trs_blk [exT, exU] c hb (by simp [wfT, wfU]) (by simp)) (by simp) ex_small2).mono ?_
  rintro e w'' ⟨v, ys, he, hr, ho, hb'⟩
  obtain rfl := ex_two hr
  exact ⟨v, he, ho, hb'⟩
theorem of_one (g c : Nat) (w' : World) (hb : Blk w' g 30 #[.int .i64 0, .int .i64 0, .int .i64 1, .int .i64 0, .int .i64 5, .int .i64 0, .int .i64 1]) :
    Calls Try.prog 9 #[.slice (some ⟨g, 0, none⟩) 1 c] w' fun e w'' => ∃ v, e = .returned (.tuple #[v, .int .i64 0]) ∧ w''.ownsRow w'.heap.size 34 5 v 2 (nCells [⟨0, 1, 0, 0, 5⟩, ⟨1, 0, 1, 0, 1⟩]) ∧ Below w'.heap.size w' w'' := by
  rw [← cells_one] at hb
  refine (of_ok ⟨some ⟨g, 0, none⟩, 1, c, [exT]⟩ w' (trs_blk [exT] c hb (by simp [wfT]) (by simp)) (by simp) ex_small1).mono ?_
  rintro e w'' ⟨v, ys, he, hr, ho, hb'⟩
  obtain rfl := ex_one hr
  exact ⟨v, he, ho, hb'⟩

set_option maxRecDepth 100000 in
set_option maxHeartbeats 4000000 in
theorem first_any (w : World) : Calls Try.prog 7 #[] w fun e w' => e = .returned (.bool true) ∧ Below w.heap.size w w' := by
  go_enter Try.func7, Try.ntmps7
  go_wp2_with fail
  have b2 : Blk (((w.alloc (.cells #[.int .i64 0, .int .i64 0, .int .i64 1, .int .i64 0, .int .i64 5, .int .i64 0, .int .i64 1] 30)).alloc (.cells #[.int .i64 0, .int .i64 1, .int .i64 0, .int .i64 0, .int .i64 5, .int .i64 0, .int .i64 1] 30)).alloc (.cells #[.int .i64 0, .int .i64 0, .int .i64 1, .int .i64 0, .int .i64 5, .int .i64 0, .int .i64 1, .int .i64 0, .int .i64 1, .int .i64 0, .int .i64 0, .int .i64 5, .int .i64 0, .int .i64 1] 30)) (w.heap.size + 1 + 1) 30 #[.int .i64 0, .int .i64 0, .int .i64 1, .int .i64 0, .int .i64 5, .int .i64 0, .int .i64 1, .int .i64 0, .int .i64 1, .int .i64 0, .int .i64 0, .int .i64 5, .int .i64 0, .int .i64 1] := by
    have := Blk.new ((w.alloc (.cells #[.int .i64 0, .int .i64 0, .int .i64 1, .int .i64 0, .int .i64 5, .int .i64 0, .int .i64 1] 30)).alloc (.cells #[.int .i64 0, .int .i64 1, .int .i64 0, .int .i64 0, .int .i64 5, .int .i64 0, .int .i64 1] 30)) 30 #[.int .i64 0, .int .i64 0, .int .i64 1, .int .i64 0, .int .i64 5, .int .i64 0, .int .i64 1, .int .i64 0, .int .i64 1, .int .i64 0, .int .i64 0, .int .i64 5, .int .i64 0, .int .i64 1]
    simpa using this
  have bt := ((Blk.new w 30 #[.int .i64 0, .int .i64 0, .int .i64 1, .int .i64 0, .int .i64 5, .int .i64 0, .int .i64 1]).alloc (.cells #[.int .i64 0, .int .i64 1, .int .i64 0, .int .i64 0, .int .i64 5, .int .i64 0, .int .i64 1] 30)).alloc (.cells #[.int .i64 0, .int .i64 0, .int .i64 1, .int .i64 0, .int .i64 5, .int .i64 0, .int .i64 1, .int .i64 0, .int .i64 1, .int .i64 0, .int .i64 0, .int .i64 5, .int .i64 0, .int .i64 1] 30)
  have B0 := (((Below.refl w.heap.size w).alloc (Nat.le_refl _) (.cells #[.int .i64 0, .int .i64 0, .int .i64 1, .int .i64 0, .int .i64 5, .int .i64 0, .int .i64 1] 30)).alloc (by simp) (.cells #[.int .i64 0, .int .i64 1, .int .i64 0, .int .i64 0, .int .i64 5, .int .i64 0, .int .i64 1] 30)).alloc (by simp; omega) (.cells #[.int .i64 0, .int .i64 0, .int .i64 1, .int .i64 0, .int .i64 5, .int .i64 0, .int .i64 1, .int .i64 0, .int .i64 1, .int .i64 0, .int .i64 0, .int .i64 5, .int .i64 0, .int .i64 1] 30)
  refine (of_two _ 2 _ b2).mono ?_
  rintro e w1 ⟨v1, rfl, ho1, hb1⟩
  obtain ⟨A1, c1, rfl⟩ := own_shape ho1
  have bt1 := bt.below hb1 bt.lt
  have t0 := bt1.cell 0
  have t1 := bt1.cell 1
  have t2 := bt1.cell 2
  have t3 := bt1.cell 3
  have t4 := bt1.cell 4
  have t5 := bt1.cell 5
  have t6 := bt1.cell 6
  simp at t0 t1 t2 t3 t4 t5 t6
  have hz1 := bt1.lt
  have B1 := B0.trans (hb1.mono (by simp; omega))
  clear ho1 bt1 bt b2 hb1 B0
  go_wp2_with fail
  refine (of_one w1.heap.size 1 _ (Blk.new w1 _ _)).mono ?_
  rintro e w2 ⟨v2, rfl, ho2, hb2⟩
  obtain ⟨A2, c2, rfl⟩ := own_shape ho2
  obtain ⟨g, rfl, hg, hc⟩ := own_net ho2 (by omega) rfl
  have n0 := hc 0 (by simp) 0 (by omega)
  have n1 := hc 0 (by simp) 1 (by omega)
  have n2 := hc 0 (by simp) 2 (by omega)
  have n3 := hc 0 (by simp) 3 (by omega)
  have n4 := hc 0 (by simp) 4 (by omega)
  have n5 := hc 1 (by simp) 0 (by omega)
  have n6 := hc 1 (by simp) 1 (by omega)
  have n7 := hc 1 (by simp) 2 (by omega)
  have n8 := hc 1 (by simp) 3 (by omega)
  have n9 := hc 1 (by simp) 4 (by omega)
  simp [encN] at n0 n1 n2 n3 n4 n5 n6 n7 n8 n9
  have hcap : 2 ≤ c2 := by
    rcases ho2.2 with ⟨h1, h2⟩ | ⟨g', cap, cur, hv, _, _, hnc, _⟩
    · omega
    · injection hv with _ _ h3
      subst h3
      exact hnc
  have B2 := (B1.alloc B1.size (.cells #[.int .i64 0, .int .i64 0, .int .i64 1, .int .i64 0, .int .i64 5, .int .i64 0, .int .i64 1] 30)).trans (hb2.mono (by have := B1.size; simp; omega))
  clear hc ho2 t0 t1 t2 t3 t4 t5 t6 hb2
  go_wp2_with fail
  go_ret
  exact ⟨rfl, B2⟩
end Go.Proofs.Ytggpdbfkfcoejaa
