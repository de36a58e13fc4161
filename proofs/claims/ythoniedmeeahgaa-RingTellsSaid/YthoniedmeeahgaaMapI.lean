/-
  A map from int to int that the call makes: what it holds, as a function.
-/
import Derived.Test.YthoniedmeeahgaaWebRing
import Derived.Maps.OwnSet
namespace Go.Proofs.Ythoniedmeeahgaa
open Go.RowKit Go.Maps

theorem keyLawI : Keyed Try.prog 3 := int_keyed Try.underlying3
theorem zeroI (w : World) : (zeroValue 3).run Try.prog w = .ok (.int .i64 0) w := by kernel_rfl
theorem keyI {q : Int} (hq : wf64 q) : keyOf Try.prog 3 (.int .i64 q) = some (.int .i64 q) := keyOf_int_mk Try.underlying3 hq
/-- Block b is a map of at most n entries that holds M q at q. -/
def MapI (w : World) (b n : Nat) (M : Int → Option Int) : Prop :=
  ∃ D : DataW Unit, w.ownsMap Try.prog 3 (plainElem Try.prog 3) b n D ∧ ∀ q : Int, wf64 q → Maps.has D (.int .i64 q) = (M q).isSome ∧ D.atKey (.int .i64 q) (.lit (.int .i64 0)) = .lit (.int .i64 ((M q).getD 0))
section
variable {w w' : World} {b n : Nat} {M M' : Int → Option Int}
theorem MapI.made (w : World) : MapI (w.alloc (.map #[] 0)) w.heap.size 0 (fun _ => none) := ⟨.map [], World.ownsMap_made _ _ _ _, fun _ _ => ⟨rfl, rfl⟩⟩
theorem MapI.kept {row : Option Nat} (h : MapI w b n M) (hg : w.grownBy w' row) (hne : some b ≠ row) : MapI w' b n M := by
  obtain ⟨D, h1, h2⟩ := h
  exact ⟨D, h1.kept hg hne, h2⟩
theorem MapI.below (h : MapI w b n M) (hb : Below w.heap.size w w') : MapI w' b n M := h.kept (row := none) ⟨hb.os, hb.tape, hb.output, hb.size, fun k hk _ => hb.block k hk⟩ (by simp)
theorem MapI.lt (h : MapI w b n M) : b < w.heap.size := by
  obtain ⟨D, h1, _⟩ := h
  exact h1.lt
theorem MapI.isMap (h : MapI w b n M) : ∃ es clock, w.heap[b]? = some (.map es clock) := by
  obtain ⟨D, ⟨es, clock, hb, _⟩, _⟩ := h
  exact ⟨es, clock, hb⟩
theorem MapI.ne_own (h : MapI w b n M) {base e size m : Nat} {v : Value} {xs : List Value} (ho : w.ownsRow base e size v m xs) : v.ownBlock ≠ some b := by
  intro he
  obtain ⟨es, clock, hb⟩ := h.isMap
  obtain ⟨_, _, cs, hc⟩ := own_block ho he
  unfold Blk at hc
  rw [hb] at hc
  cases hc
theorem MapI.same (h : MapI w b n M) (hM : ∀ q, wf64 q → M' q = M q) : MapI w b n M' := by
  obtain ⟨D, h1, h2⟩ := h
  exact ⟨D, h1, fun q hq => by rw [hM q hq]; exact h2 q hq⟩
set_option maxRecDepth 100000 in
theorem MapI.look (h : MapI w b n M) {q : Int} (hq : wf64 q) : (Instr.lookup 78 (.map (some b)) (.int .i64 q) false).run Try.prog w = .ok (.int .i64 ((M q).getD 0)) w := by
  obtain ⟨D, h1, h2⟩ := h
  obtain ⟨c, hrun, hat, _⟩ := h1.lookup_int keyLawI Try.underlying78 Try.underlying3 (zeroI _) (keyI hq)
  rw [(h2 q hq).2] at hat
  injection hat with hat
  injection hat with _ hat
  rw [hat]
  exact hrun
set_option maxRecDepth 100000 in
theorem MapI.lookok (h : MapI w b n M) {q : Int} (hq : wf64 q) : (Instr.lookup 78 (.map (some b)) (.int .i64 q) true).run Try.prog w = .ok (.tuple #[.int .i64 ((M q).getD 0), .bool (M q).isSome]) w := by
  obtain ⟨D, h1, h2⟩ := h
  obtain ⟨v, ps, hrun, hv⟩ := h1.look_ok keyLawI Try.underlying78 (zeroI _) (zd := .lit (.int .i64 0)) (zp := []) (plainElem_int Try.underlying3 (by decide)) (keyI hq)
  obtain ⟨c, rfl, hc, _⟩ := plainElem_int_inv Try.underlying3 hv
  have hat := congrArg Prod.fst hc
  simp only at hat
  rw [(h2 q hq).2] at hat
  injection hat with hat
  injection hat with _ hat
  rw [hat, ← (h2 q hq).1]
  exact hrun
theorem MapI.put (h : MapI w b n M) {q x : Int} (hq : wf64 q) (hx : wf64 x) (hn : n < maxLen) (h1 : M' q = some x) (h2 : ∀ q', q' ≠ q → M' q' = M q') :
    ∃ w', (Instr.mapUpdate 78 (.map (some b)) (.int .i64 q) (.int .i64 x)).run Try.prog w = .ok () w' ∧ MapI w' b (n + 1) M' ∧ w.grownBy w' (some b) := by
  obtain ⟨D, e1, e2⟩ := h
  obtain ⟨w', hrun, g1, g2⟩ := e1.update keyLawI Try.underlying78 hn (keyI hq) (plainElem_int Try.underlying3 hx)
  refine ⟨w', hrun, ⟨_, g1, fun q' hq' => ?_⟩, g2⟩
  by_cases e : q' = q
  · subst e
    rw [has_put_same e1.isMap (keyLawI.key (keyI hq')), atKey_put_same e1.isMap (keyLawI.key (keyI hq')), h1]
    exact ⟨rfl, rfl⟩
  · have hne : (Lit.int .i64 q') ≠ .int .i64 q := fun e' => e (by injection e')
    rw [has_put_other hne, atKey_put_other hne, h2 q' e]
    exact e2 q' hq'
theorem wpList_putI {ops : Array Oper} {rest : List Oper} {o : Oper} {a : Act} {Q : Exit → Act → World → Prop} (h : MapI w b n M) (hg : o.guard = none) (m x v : Operand) (hop : o.op = Op.mapUpdate 78 m x v)
    (q y : Int) (hq : wf64 q) (hy : wf64 y) (hn : n < maxLen) (hm : a.eval m = .map (some b)) (hx : a.eval x = .int .i64 q) (hv : a.eval v = .int .i64 y) (h1 : M' q = some y) (h2 : ∀ q', q' ≠ q → M' q' = M q')
    (hK : ∀ w', MapI w' b (n + 1) M' → w.grownBy w' (some b) → wpList Try.prog ops Q rest (a.put o.dst undef) w') : wpList Try.prog ops Q (o :: rest) a w := by
  obtain ⟨w', hrun, h3, h4⟩ := h.put hq hy hn h1 h2
  refine wpList_plain hg fun K' hK' => ?_
  unfold Oper.wp
  simp [execOp, hop, hm, hx, hv, hrun, Result.andThen]
  exact hK' _ _ (hK w' h3 h4)
end
end Go.Proofs.Ythoniedmeeahgaa
