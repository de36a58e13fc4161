/-
  slices.SortFunc at edges, by contract: the same slice owns a sorted permutation.
-/
import Derived.Test.YthoniedmeeahgaaEdgeOrd
namespace Go.Proofs.Ythoniedmeeahgaa
open Go.RowKit Go.Shelf Go.Lib Go.Sort

theorem eCells_cons (x : EdD) (xs : List EdD) : eCells (x :: xs) = encE x ++ eCells xs := rfl
theorem eCells_append (a b : List EdD) : eCells (a ++ b) = eCells a ++ eCells b := by simp [eCells]
theorem encE_length (x : EdD) : (encE x).length = 2 := rfl
theorem eCells_length (xs : List EdD) : (eCells xs).length = xs.length * 2 := by
  induction xs with
  | nil => rfl
  | cons x xs ih => rw [eCells_cons, List.length_append, ih, encE_length, List.length_cons]; omega
theorem eCells_at (xs : List EdD) (k : Nat) (h : k < xs.length) (j : Nat) (hj : j < 2) : (eCells xs)[k * 2 + j]? = (encE xs[k])[j]? := by
  induction xs generalizing k with
  | nil => exact absurd h (by simp)
  | cons x xs ih =>
    match k, h with
    | 0, _ => rw [eCells_cons, Nat.zero_mul, Nat.zero_add, List.getElem?_append_left (by rw [encE_length]; exact hj)]; rfl
    | k + 1, h =>
      rw [eCells_cons, List.getElem?_append_right (by rw [encE_length]; omega)]
      have := ih k (by simpa using h)
      rw [List.getElem_cons_succ, ← this]
      congr 1
      rw [encE_length]
      omega
theorem eCells_one (xs : List EdD) : ∀ u ∈ eCells xs, u.oneCell' = true := by
  intro u hu
  obtain ⟨x, _, hx⟩ := List.mem_flatMap.1 hu
  simp [encE] at hx
  rcases hx with rfl | rfl <;> rfl
theorem flat_cells (d : Array EdD) : (flatK encE 2 d).toList = eCells d.toList := by
  apply List.ext_getElem?
  intro t
  by_cases ht : t < d.size * 2
  · have hk : t / 2 < d.toList.length := by simp; omega
    have hm : t % 2 < 2 := Nat.mod_lt _ (by omega)
    have e : t / 2 * 2 + t % 2 = t := by omega
    have h1 := eCells_at d.toList (t / 2) hk (t % 2) hm
    rw [e] at h1
    rw [h1]
    have h2 := get_flatK encE 2 d t ht
    have hsz : t < (flatK encE 2 d).size := by simpa using ht
    rw [Array.getElem?_toList, Array.getElem?_eq_getElem hsz]
    rw [getElem!_pos _ t hsz] at h2
    rw [h2]
    have hd : d[t / 2]! = d.toList[t / 2] := by
      rw [getElem!_pos d (t / 2) (by simpa using hk)]
      simp
    rw [hd, getElem!_pos _ _ (by rw [encE_length]; exact hm), List.getElem?_eq_getElem (by rw [encE_length]; exact hm)]
  · rw [List.getElem?_eq_none (by simp; omega), List.getElem?_eq_none (by rw [eCells_length]; simp; omega)]

theorem heap_sortedN {w : World} {g n : Nat} {os : Array Obj} {cur : Array Value} {e : TypeId} {fr : Nat × Nat} (d : Array Value) (hb : w.heap[g]? = some (.cells cur e fr)) :
    (grow (putRow id (Sort.ahead w n) g 0 d) os).heap[g]? = some (.cells (putCells id 0 d cur) e fr) := by
  have hg : g < w.heap.size := (Array.getElem?_eq_some_iff.1 hb).1
  rw [heap_grow_old _ _ (by simpa using hg)]
  simp [putRow, mapBlock, Sort.ahead, Array.getElem?_modify, hb, onCells]
theorem grownBy_sortedN {w : World} {g n : Nat} {os : Array Obj} (d : Array Value) : w.grownBy (grow (putRow id (Sort.ahead w n) g 0 d) os) (some g) := by
  refine ⟨rfl, rfl, rfl, by simp, fun k hk hne => ?_⟩
  rw [heap_grow_old _ _ (by simpa using hk)]
  have : g ≠ k := fun e => hne (by rw [e])
  simp [putRow, mapBlock, Sort.ahead, Array.getElem?_modify, this]
theorem take_putCellsN (cur d : Array Value) (h : d.size ≤ cur.size) : (putCells id 0 d cur).toList.take d.size = d.toList := by
  apply List.ext_getElem?
  intro j
  by_cases hj : j < d.size
  · rw [List.getElem?_take_of_lt hj, Array.getElem?_toList]
    simp [putCells, hj, show j < cur.size by omega]
  · rw [List.getElem?_take_eq_none (by omega), List.getElem?_eq_none (by simp; omega)]

/-- 'order(x, y) < 0'. -/
def lessE (x y : EdD) : Bool := ltOf ordE x y
def edLt (x y : EdD) : Prop := x.f < y.f ∨ (x.f = y.f ∧ x.t < y.t)
theorem cmp_neg (u v : Int) : (compareInt u v < 0 ↔ u < v) ∧ (compareInt u v = 0 ↔ u = v) := by
  unfold compareInt
  split
  · constructor <;> constructor <;> intro <;> omega
  · split <;> constructor <;> constructor <;> intro <;> omega
theorem or2_neg (a b : Int) : or2 a b < 0 ↔ a < 0 ∨ (a = 0 ∧ b < 0) := by
  unfold or2
  split
  all_goals omega
theorem lessE_iff (x y : EdD) : lessE x y = true ↔ edLt x y := by
  unfold lessE ltOf ordE edLt
  rw [decide_eq_true_iff, or2_neg, (cmp_neg _ _).1, (cmp_neg _ _).2, (cmp_neg _ _).1]
theorem swoE : SWO (ltOf ordE) where
  irrefl x := by
    cases h : ltOf ordE x x
    · rfl
    · have := (lessE_iff x x).1 h
      unfold edLt at this
      omega
  trans x y z h1 h2 := by
    have h1 := (lessE_iff x y).1 h1
    have h2 := (lessE_iff y z).1 h2
    refine (lessE_iff x z).2 ?_
    unfold edLt at *
    omega
  ntrans x y z h1 h2 := by
    have h1 : ¬ edLt x y := fun h => by
      have e : ltOf ordE x y = true := (lessE_iff x y).2 h
      rw [e] at h1
      cases h1
    have h2 : ¬ edLt y z := fun h => by
      have e : ltOf ordE y z = true := (lessE_iff y z).2 h
      rw [e] at h2
      cases h2
    cases h : ltOf ordE x z
    · rfl
    · have h3 := (lessE_iff x z).1 h
      exfalso
      unfold edLt at *
      omega

theorem enters45 : ∀ (args : Array Value) (w : World), (callFunc 45 args).run Try.prog w = .ok (.enter 45 args) w := enters_of Try.func45 (by kernel_rfl) rfl

theorem sortE_any (base : Nat) (v : Value) (xs : List EdD) (w : World) (h : w.ownsRow base 47 2 v xs.length (eCells xs)) (hsz : xs.length < 4611686018427387904) :
    Calls Try.prog 49 #[v, .func (.func 45) #[] #[]] w fun e w' => e = .returned (.tuple #[]) ∧ ∃ ys : List EdD, ys.Perm xs ∧ ys.Pairwise (fun x y => lessE y x = false) ∧
      w'.ownsRow base 47 2 v ys.length (eCells ys) ∧ w.grownBy w' v.ownBlock := by
  rcases h.2 with ⟨rfl, h0⟩ | ⟨g, cap, cur, rfl, hbase, hb, h1, h2, h3, h4⟩
  · have hx : xs = [] := List.length_eq_zero_iff.1 h0
    subst hx
    have := AnyF.slices_SortFunc_none Try.sortEdges none 0 (.func (.func 45) #[] #[]) w
    exact this.mono fun e w' ⟨he, hw⟩ => ⟨he, [], List.Perm.refl _, List.Pairwise.nil, by rw [hw]; exact h, by rw [hw]; exact World.grownBy.refl w _⟩
  · have hg : g < w.heap.size := (Array.getElem?_eq_some_iff.1 hb).1
    have hH : HoldsK encE 2 w g 0 xs.toArray := by
      intro j hj
      have hj' : j < xs.length * 2 := by simpa using hj
      refine ⟨?_, by simp [World.frozen?, hb]⟩
      have e1 := flat_cells xs.toArray
      simp only [World.cell?, hb, Nat.zero_add, Option.isSome_none, Bool.false_eq_true, if_false]
      have e2 : (cur.toList.take (xs.length * 2))[j]? = (eCells xs)[j]? := by rw [h4]
      rw [List.getElem?_take_of_lt hj'] at e2
      rw [← Array.getElem?_toList, e2]
      have e3 : (flatK encE 2 xs.toArray)[j]! = (eCells xs)[j]'(by rw [eCells_length]; exact hj') := by
        rw [getElem!_pos _ j hj]
        have := congrArg (fun l : List Value => l[j]?) e1
        simp only [Array.getElem?_toList] at this
        rw [Array.getElem?_eq_getElem hj, List.getElem?_eq_getElem (by rw [eCells_length]; simpa using hj')] at this
        injection this
      rw [List.getElem?_eq_getElem (by rw [eCells_length]; exact hj'), e3]
      rfl
    have hcon := AnyQ.slices_SortFunc Try.sortEdges 2 (by intro w; kernel_rfl) (by intro w; kernel_rfl) encE (fun _ => rfl) (fun x v hv => by simp [encE] at hv; rcases hv with rfl | rfl <;> rfl) ordE swoE 45 #[] g 0 cap xs.toArray w enters45 (fun _ _ _ _ x y => orderE_any x y _) hH hg (by simpa using hsz)
    rw [show xs.toArray.size = xs.length from by simp] at hcon
    change Calls Try.prog 49 _ _ _ at hcon
    refine hcon.mono ?_
    rintro e w' ⟨he, d', n, os, hp, hs, hw⟩
    have hsize : d'.size = xs.length := by simpa using hp.1
    have hperm : d'.toList.Perm xs := by
      have := hp.2.2
      have e1 : d'.extract 0 xs.length = d' := by
        rw [← hsize]
        simp
      rw [e1] at this
      simpa using this
    refine ⟨he, d'.toList, hperm, ?_, ?_, by rw [hw]; exact grownBy_sortedN _⟩
    · rw [List.pairwise_iff_getElem]
      intro i j hi hj hij
      have := hs i j (Nat.zero_le _) hij (by simpa [hsize] using hj)
      rw [getElem!_pos _ _ (by simpa using hj), getElem!_pos _ _ (by simpa using hi)] at this
      simpa [lessE] using this
    · rw [hw]
      have hl : d'.toList.length = xs.length := by simpa using hsize
      rw [hl]
      refine ⟨by rw [eCells_length, hl], .inr ⟨g, cap, _, rfl, hbase, heap_sortedN _ hb, h1, h2, by simp [putCells, h3], ?_⟩⟩
      have e2 := take_putCellsN cur (flatK encE 2 d') (by simp [hsize, h3]; omega)
      rw [flat_cells] at e2
      simpa [hsize] using e2
end Go.Proofs.Ythoniedmeeahgaa
