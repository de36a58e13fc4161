/-
  Package nets' map by what it holds at each key; package num's Add; moves.
-/
import Derived.Test.YtggpdbfkfcoejaaNetKey
import Derived.WalkKit
import Derived.WalkSpells
import Derived.IntWalk
import Derived.Deep.QuietTactic
import Derived.BigQuiet
import Derived.LoopTactic
namespace Go.Proofs.Ytggpdbfkfcoejaa
open Go.RowKit Go.Maps

/-- Block b is a map that holds T k at k. -/
def MapT (w : World) (b n : Nat) (T : KeyD → Int) : Prop :=
  ∃ D : DataW Unit, w.ownsMap Try.prog 44 (plainElem Try.prog 3) b n D ∧ ∀ k : KeyD, k.wf → D.atKey k.lit (.lit (.int .i64 0)) = .lit (.int .i64 (T k))
theorem zeroInt (w : World) : (zeroValue 3).run Try.prog w = .ok (.int .i64 0) w := by kernel_rfl
section
variable {w w' : World} {b n : Nat} {T T' : KeyD → Int}
theorem MapT.made (w : World) : MapT (w.alloc (.map #[] 0)) w.heap.size 0 (fun _ => 0) := ⟨.map [], World.ownsMap_made _ _ _ _, fun k _ => rfl⟩
theorem MapT.kept {row : Option Nat} (h : MapT w b n T) (hg : w.grownBy w' row) (hne : some b ≠ row) : MapT w' b n T := by
  obtain ⟨D, h1, h2⟩ := h
  exact ⟨D, h1.kept hg hne, h2⟩
theorem MapT.alloc (h : MapT w b n T) (o : Obj) : MapT (w.alloc o) b n T := h.kept (World.grownBy_alloc w o none) (by simp)
theorem MapT.drew (h : MapT w b n T) : MapT w.drew b n T := h
theorem MapT.drewN (h : MapT w b n T) (m : Nat) : MapT (w.drewN m) b n T := h
theorem MapT.mono {n' : Nat} (h : MapT w b n T) (hn : n ≤ n') : MapT w b n' T := by
  obtain ⟨D, h1, h2⟩ := h
  exact ⟨D, h1.mono hn, h2⟩
theorem MapT.lt (h : MapT w b n T) : b < w.heap.size := by
  obtain ⟨D, h1, _⟩ := h
  exact h1.lt
theorem MapT.below (h : MapT w b n T) (hb : Below w.heap.size w w') : MapT w' b n T := h.kept (row := none) ⟨hb.os, hb.tape, hb.output, hb.size, fun k hk _ => hb.block k hk⟩ (by simp)
theorem MapT.wf (h : MapT w b n T) {k : KeyD} (hk : k.wf) : wf64 (T k) := by
  obtain ⟨D, h1, h2⟩ := h
  obtain ⟨c, _, hc, hw⟩ := h1.lookup_int keyLaw Try.underlying40 Try.underlying3 (zeroInt _) (lit_of hk)
  rw [h2 k hk] at hc
  injection hc with hc
  injection hc with _ hc
  rw [hc]
  exact hw
theorem MapT.look (h : MapT w b n T) {k : KeyD} (hk : k.wf) : (Instr.lookup 40 (.map (some b)) k.v false).run Try.prog w = .ok (.int .i64 (T k)) w := by
  obtain ⟨D, h1, h2⟩ := h
  obtain ⟨c, hrun, hc, hw⟩ := h1.lookup_int keyLaw Try.underlying40 Try.underlying3 (zeroInt _) (lit_of hk)
  rw [h2 k hk] at hc
  injection hc with hc
  injection hc with _ hc
  rw [hc]
  exact hrun
theorem wpList_update {ops : Array Oper} {rest : List Oper} {o : Oper} {a : Act} {Q : Exit → Act → World → Prop} (h : MapT w b n T) (hg : o.guard = none) (m x v : Operand) (hop : o.op = Op.mapUpdate 40 m x v)
    (k : KeyD) (c : Int) (hk : k.wf) (hc : wf64 c) (hn : n < maxLen) (hm : a.eval m = .map (some b)) (hx : a.eval x = k.v) (hv : a.eval v = .int .i64 c) (h1 : T' k = c) (h2 : ∀ k', k' ≠ k → T' k' = T k')
    (hK : ∀ w', MapT w' b (n + 1) T' → w.grownBy w' (some b) → wpList Try.prog ops Q rest (a.put o.dst undef) w') : wpList Try.prog ops Q (o :: rest) a w := by
  obtain ⟨D, e1, e2⟩ := h
  refine wpList_mapUpdate_own w hg m x v 40 hop 44 3 keyLaw Try.underlying40 _ b n D hm e1 hn k.v (.int .i64 c) k.lit hx hv (lit_of hk) (.lit (.int .i64 c)) [] (plainElem_int Try.underlying3 hc) fun w' g1 g2 => hK w' ⟨_, g1, fun k' hk' => ?_⟩ g2
  by_cases e : k' = k
  · subst e
    rw [atKey_put_same (e1.entries keyLaw |> fun ⟨es, h, _⟩ => ⟨es, h⟩) (keyLaw.key (lit_of hk)), h1]
  · rw [atKey_put_other (fun e' => e (lit_inj hk' hk e')), e2 k' hk', h2 k' e]
end

def mx : Int := 4611686018427387904
set_option maxHeartbeats 1000000 in
theorem add_ok (a b : Int) (w : World) (h : 0 ≤ a ∧ 0 ≤ b ∧ a + b ≤ 4611686018427387904) : Calls Try.prog 18 #[.int .i64 a, .int .i64 b] w fun e w' => e = .returned (.tuple #[.int .i64 (a + b), .int .i64 0]) ∧ w = w' := by
  obtain ⟨h0, h1, h2⟩ := h
  have d1 : decide (0 ≤ a) = true := decide_eq_true h0
  have d2 : decide (a ≤ 4611686018427387904) = true := decide_eq_true (by omega)
  have d3 : decide (0 ≤ b) = true := decide_eq_true h1
  have d4 : decide (b ≤ 4611686018427387904) = true := decide_eq_true (by omega)
  have d5 : decide (0 ≤ a + b) = true := decide_eq_true (by omega)
  have d6 : decide (a + b ≤ 4611686018427387904) = true := decide_eq_true h2
  go_enter Try.func18, Try.ntmps18
  go_wp2
  go_ret2
  exact ⟨rfl, rfl⟩
end Go.Proofs.Ytggpdbfkfcoejaa
