/-
  Package ring's web by what it holds at each edge: the slice's head alone; the rows that the heads point to are said apart.
-/
import Derived.Test.YthoniedmeeahgaaWebKey
import Derived.Maps.OwnSet
import Derived.WalkKit
import Derived.WalkSpells
import Derived.IntWalk
import Derived.Deep.QuietTactic
import Derived.BigQuiet
import Derived.LoopTactic
namespace Go.Proofs.Ythoniedmeeahgaa
open Go.RowKit Go.Maps

/-- A slice's head: its block, how many, how much room. -/
structure HdD where
  b : Nat
  n : Nat
  c : Nat
  deriving DecidableEq
def HdD.v (h : HdD) : Value := .slice (some ⟨h.b, 0, none⟩) h.n h.c
def hdV : Option HdD → Value
  | none => .slice none 0 0
  | some h => h.v
def nat (n : Nat) : DataW Unit := .lit (.int .i64 (n : Int))
def hdE : Option HdD → DataW Unit
  | none => .nil
  | some h => .agg [nat h.b, nat h.n, nat h.c]
theorem hdE_inj {x y : Option HdD} (h : hdE x = hdE y) : x = y := by
  cases x with
  | none => cases y with
    | none => rfl
    | some y => simp [hdE] at h
  | some x => cases y with
    | none => simp [hdE] at h
    | some y =>
      obtain ⟨a, b, c⟩ := x
      obtain ⟨a', b', c'⟩ := y
      simp [hdE, nat] at h
      obtain ⟨h1, h2, h3⟩ := h
      have h1 : a = a' := by omega
      have h2 : b = b' := by omega
      have h3 : c = c' := by omega
      rw [h1, h2, h3]
/-- How a slice's head reads: through no place, in whatever world. -/
noncomputable def hdR (v : Value) : Option (DataW Unit × List MemPlace) :=
  open Classical in if h : ∃ x : Option HdD, v = hdV x then some (hdE h.choose, []) else none
theorem hdV_inj {x y : Option HdD} (h : hdV x = hdV y) : x = y := by
  cases x with
  | none => cases y with
    | none => rfl
    | some y => simp [hdV, HdD.v] at h
  | some x => cases y with
    | none => simp [hdV, HdD.v] at h
    | some y =>
      obtain ⟨a, b, c⟩ := x
      obtain ⟨a', b', c'⟩ := y
      simp [hdV, HdD.v] at h
      simp [h]
theorem hdR_of (x : Option HdD) : hdR (hdV x) = some (hdE x, []) := by
  unfold hdR
  have h : ∃ y : Option HdD, hdV x = hdV y := ⟨x, rfl⟩
  rw [dif_pos h]
  rw [hdV_inj h.choose_spec.symm]
theorem hdR_inv {v : Value} {y : DataW Unit × List MemPlace} (h : hdR v = some y) : ∃ x : Option HdD, v = hdV x ∧ y = (hdE x, []) := by
  unfold hdR at h
  split at h
  · rename_i hx
    injection h with h
    exact ⟨hx.choose, hx.choose_spec, h.symm⟩
  · cases h
theorem zeroItems (w : World) : (zeroValue 33).run Try.prog w = .ok (.slice none 0 0) w := by kernel_rfl

/-- Block b is a web of at most n edges that holds S k at k. -/
def MapW (w : World) (b n : Nat) (S : EdD → Option HdD) : Prop :=
  ∃ D : DataW Unit, w.ownsMap Try.prog 47 hdR b n D ∧ ∀ k : EdD, k.wf → Maps.has D k.lit = (S k).isSome ∧ D.atKey k.lit .nil = hdE (S k)
section
variable {w w' : World} {b n : Nat} {S S' : EdD → Option HdD}
theorem MapW.made (w : World) : MapW (w.alloc (.map #[] 0)) w.heap.size 0 (fun _ => none) := ⟨.map [], World.ownsMap_made _ _ _ _, fun _ _ => ⟨rfl, rfl⟩⟩
theorem MapW.kept {row : Option Nat} (h : MapW w b n S) (hg : w.grownBy w' row) (hne : some b ≠ row) : MapW w' b n S := by
  obtain ⟨D, h1, h2⟩ := h
  exact ⟨D, h1.kept hg hne, h2⟩
theorem MapW.alloc (h : MapW w b n S) (o : Obj) : MapW (w.alloc o) b n S := h.kept (World.grownBy_alloc w o none) (by simp)
theorem MapW.drew (h : MapW w b n S) : MapW w.drew b n S := h
theorem MapW.drewN (h : MapW w b n S) (m : Nat) : MapW (w.drewN m) b n S := h
theorem MapW.mono {n' : Nat} (h : MapW w b n S) (hn : n ≤ n') : MapW w b n' S := by
  obtain ⟨D, h1, h2⟩ := h
  exact ⟨D, h1.mono hn, h2⟩
theorem MapW.lt (h : MapW w b n S) : b < w.heap.size := by
  obtain ⟨D, h1, _⟩ := h
  exact h1.lt
theorem MapW.below (h : MapW w b n S) (hb : Below w.heap.size w w') : MapW w' b n S := h.kept (row := none) ⟨hb.os, hb.tape, hb.output, hb.size, fun k hk _ => hb.block k hk⟩ (by simp)
set_option maxRecDepth 100000 in
theorem MapW.look (h : MapW w b n S) {k : EdD} (hk : k.wf) : (Instr.lookup 45 (.map (some b)) k.v false).run Try.prog w = .ok (hdV (S k)) w := by
  obtain ⟨D, h1, h2⟩ := h
  obtain ⟨v, ps, hrun, hv⟩ := h1.lookup keyLaw Try.underlying45 (zeroItems _) (hdR_of none) (lit_of hk)
  obtain ⟨x, rfl, e⟩ := hdR_inv hv
  have : hdE x = hdE (S k) := by
    rw [← (h2 k hk).2]
    exact (congrArg Prod.fst e).symm
  rw [← hdE_inj this]
  exact hrun
set_option maxRecDepth 100000 in
theorem wpList_put {ops : Array Oper} {rest : List Oper} {o : Oper} {a : Act} {Q : Exit → Act → World → Prop} (h : MapW w b n S) (hg : o.guard = none) (m x v : Operand) (hop : o.op = Op.mapUpdate 45 m x v)
    (k : EdD) (hd : HdD) (hk : k.wf) (hn : n < maxLen) (hm : a.eval m = .map (some b)) (hx : a.eval x = k.v) (hv : a.eval v = hd.v) (h1 : S' k = some hd) (h2 : ∀ k', k' ≠ k → S' k' = S k')
    (hK : ∀ w', MapW w' b (n + 1) S' → w.grownBy w' (some b) → wpList Try.prog ops Q rest (a.put o.dst undef) w') : wpList Try.prog ops Q (o :: rest) a w := by
  obtain ⟨D, e1, e2⟩ := h
  refine wpList_mapUpdate_own w hg m x v 45 hop 47 33 keyLaw Try.underlying45 _ b n D hm e1 hn k.v hd.v k.lit hx hv (lit_of hk) (hdE (some hd)) [] (hdR_of (some hd)) fun w' g1 g2 => hK w' ⟨_, g1, fun k' hk' => ?_⟩ g2
  by_cases e : k' = k
  · subst e
    rw [has_put_same e1.isMap (keyLaw.key (lit_of hk)), atKey_put_same e1.isMap (keyLaw.key (lit_of hk)), h1]
    exact ⟨rfl, rfl⟩
  · rw [has_put_other (fun e' => e (lit_inj hk' hk e')), atKey_put_other (fun e' => e (lit_inj hk' hk e')), h2 k' e]
    exact e2 k' hk'
set_option maxRecDepth 100000 in
theorem MapW.cut (h : MapW w b n S) {k : EdD} (hk : k.wf) (ty : TypeId) (h1 : S' k = none) (h2 : ∀ k', k' ≠ k → S' k' = S k') :
    ∃ w', (Builtin.delete_ #[45, 47] ty #[.map (some b), k.v]).run Try.prog w = .ok (.tuple #[]) w' ∧ MapW w' b n S' ∧ w.grownBy w' (some b) := by
  obtain ⟨D, e1, e2⟩ := h
  obtain ⟨w', hrun, g1, g2⟩ := e1.drop keyLaw Try.underlying45 (lit_of hk) ty
  refine ⟨w', hrun, ⟨_, g1, fun k' hk' => ?_⟩, g2.grown⟩
  by_cases e : k' = k
  · subst e
    rw [has_del_same, atKey_del_same, h1]
    exact ⟨rfl, rfl⟩
  · rw [has_del_other (fun e' => e (lit_inj hk' hk e')), atKey_del_other (fun e' => e (lit_inj hk' hk e')), h2 k' e]
    exact e2 k' hk'
end
end Go.Proofs.Ythoniedmeeahgaa
