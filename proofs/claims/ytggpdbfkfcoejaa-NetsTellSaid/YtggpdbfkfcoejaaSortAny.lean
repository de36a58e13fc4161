/-
  slices.SortFunc at nets, by contract: the same slice owns a sorted permutation.
-/
import Derived.Test.YtggpdbfkfcoejaaOrdN
namespace Go.Proofs.Ytggpdbfkfcoejaa
open Go.RowKit Go.Shelf Go.Lib Go.Sort

def nCells (xs : List NetD) : List Value := xs.flatMap encN
theorem nCells_cons (x : NetD) (xs : List NetD) : nCells (x :: xs) = encN x ++ nCells xs := rfl
theorem nCells_append (a b : List NetD) : nCells (a ++ b) = nCells a ++ nCells b := by simp [nCells]
theorem encN_length (x : NetD) : (encN x).length = 5 := rfl
theorem nCells_length (xs : List NetD) : (nCells xs).length = xs.length * 5 := by
  induction xs with
  | nil => rfl
  | cons x xs ih => rw [nCells_cons, List.length_append, ih, encN_length, List.length_cons]; omega
theorem nCells_at (xs : List NetD) (k : Nat) (h : k < xs.length) (j : Nat) (hj : j < 5) : (nCells xs)[k * 5 + j]? = (encN xs[k])[j]? := by
  induction xs generalizing k with
  | nil => exact absurd h (by simp)
  | cons x xs ih =>
    match k, h with
    | 0, _ => rw [nCells_cons, Nat.zero_mul, Nat.zero_add, List.getElem?_append_left (by rw [encN_length]; exact hj)]; rfl
    | k + 1, h =>
      rw [nCells_cons, List.getElem?_append_right (by rw [encN_length]; omega)]
      have := ih k (by simpa using h)
      rw [List.getElem_cons_succ, ← this]
      congr 1
      rw [encN_length]
      omega
theorem nCells_one (xs : List NetD) : ∀ u ∈ nCells xs, u.oneCell' = true := by
  intro u hu
  obtain ⟨x, _, hx⟩ := List.mem_flatMap.1 hu
  simp [encN] at hx
  rcases hx with rfl | rfl | rfl | rfl | rfl <;> rfl
theorem flat_cells (d : Array NetD) : (flatK encN 5 d).toList = nCells d.toList := by
  apply List.ext_getElem?
  intro t
  by_cases ht : t < d.size * 5
  · have hk : t / 5 < d.toList.length := by simp; omega
    have hm : t % 5 < 5 := Nat.mod_lt _ (by omega)
    have e : t / 5 * 5 + t % 5 = t := by omega
    have h1 := nCells_at d.toList (t / 5) hk (t % 5) hm
    rw [e] at h1
    rw [h1]
    have h2 := get_flatK encN 5 d t ht
    have hsz : t < (flatK encN 5 d).size := by simpa using ht
    rw [Array.getElem?_toList, Array.getElem?_eq_getElem hsz]
    rw [getElem!_pos _ t hsz] at h2
    rw [h2]
    have hd : d[t / 5]! = d.toList[t / 5] := by
      rw [getElem!_pos d (t / 5) (by simpa using hk)]
      simp
    rw [hd, getElem!_pos _ _ (by rw [encN_length]; exact hm), List.getElem?_eq_getElem (by rw [encN_length]; exact hm)]
  · rw [List.getElem?_eq_none (by simp; omega), List.getElem?_eq_none (by rw [nCells_length]; simp; omega)]

theorem heap_sortedN {w : World} {g n : Nat} {os : Array Obj} {cur : Array Value} {e : TypeId} {fr : Nat × Nat} (d : Array Value) (hb : w.heap[g]? = some (.cells cur e fr)) :
    (grow (putRow id (Sort.ahead w n) g 0 d) os).heap[g]? = some (.cells (putCells id 0 d cur) e fr) := by
  have hg : g < w.heap.size := (Array.getElem?_eq_some_iff.1 hb).1
  rw [heap_grow_old _ _ (by simpa using hg)]
  simp [putRow, mapBlock, Sort.ahead, Array.getElem?_modify, hb, onCells]
theorem grownBy_sortedN {w : World} {g n : Nat} {os : Array Obj} (d : Array Value) : w.grownBy (grow (putRow id (Sort.ahead w n) g 0 d) os) (some g) := by
  refine ⟨rfl, rfl, rfl, by simp, fun k hk hne => ?_⟩
  rw [heap_grow_old _ _ (by simpa using hk)]
  have : g ≠ k := fun e => hne (by rw [e])
  simp [putRow, mapBlock, Sort.ahead, Array.getElem?_modify, this]
theorem take_putCellsN (cur d : Array Value) (h : d.size ≤ cur.size) : (putCells id 0 d cur).toList.take d.size = d.toList := by
  apply List.ext_getElem?
  intro j
  by_cases hj : j < d.size
  · rw [List.getElem?_take_of_lt hj, Array.getElem?_toList]
    simp [putCells, hj, show j < cur.size by omega]
  · rw [List.getElem?_take_eq_none (by omega), List.getElem?_eq_none (by simp; omega)]

/-- 'order(x, y) < 0'. -/
def lessN (x y : NetD) : Bool := ltOf ordN x y
def keyLt (x y : NetD) : Prop := min x.f x.t < min y.f y.t ∨ (min x.f x.t = min y.f y.t ∧ (max x.f x.t < max y.f y.t ∨ (max x.f x.t = max y.f y.t ∧ (x.l < y.l ∨ (x.l = y.l ∧ x.a < y.a)))))
theorem cmp_neg (u v : Int) : (compareInt u v < 0 ↔ u < v) ∧ (compareInt u v = 0 ↔ u = v) := by
  unfold compareInt
  split
  · constructor <;> constructor <;> intro <;> omega
  · split <;> constructor <;> constructor <;> intro <;> omega
theorem or4_neg (a b c d : Int) : or4 a b c d < 0 ↔ a < 0 ∨ (a = 0 ∧ (b < 0 ∨ (b = 0 ∧ (c < 0 ∨ (c = 0 ∧ d < 0))))) := by
  unfold or4
  repeat' split
  all_goals omega
theorem lessN_iff (x y : NetD) : lessN x y = true ↔ keyLt x y := by
  unfold lessN ltOf ordN keyLt
  rw [decide_eq_true_iff, or4_neg, (cmp_neg _ _).1, (cmp_neg _ _).2, (cmp_neg _ _).1, (cmp_neg _ _).2, (cmp_neg _ _).1, (cmp_neg _ _).2, (cmp_neg _ _).1]
theorem swoN : SWO (ltOf ordN) where
  irrefl x := by
    cases h : ltOf ordN x x
    · rfl
    · have := (lessN_iff x x).1 h
      unfold keyLt at this
      omega
  trans x y z h1 h2 := by
    have h1 := (lessN_iff x y).1 h1
    have h2 := (lessN_iff y z).1 h2
    refine (lessN_iff x z).2 ?_
    unfold keyLt at *
    generalize min x.f x.t = a at *
    generalize min y.f y.t = b at *
    generalize min z.f z.t = c at *
    generalize max x.f x.t = a' at *
    generalize max y.f y.t = b' at *
    generalize max z.f z.t = c' at *
    omega
  ntrans x y z h1 h2 := by
    have h1 : ¬ keyLt x y := fun h => by
      have e : ltOf ordN x y = true := (lessN_iff x y).2 h
      rw [e] at h1
      cases h1
    have h2 : ¬ keyLt y z := fun h => by
      have e : ltOf ordN y z = true := (lessN_iff y z).2 h
      rw [e] at h2
      cases h2
    cases h : ltOf ordN x z
    · rfl
    · have h3 := (lessN_iff x z).1 h
      exfalso
      unfold keyLt at *
      generalize min x.f x.t = a at *
      generalize min y.f y.t = b at *
      generalize min z.f z.t = c at *
      generalize max x.f x.t = a' at *
      generalize max y.f y.t = b' at *
      generalize max z.f z.t = c' at *
      omega

theorem enters20 : ∀ (args : Array Value) (w : World), (callFunc 20 args).run Try.prog w = .ok (.enter 20 args) w := enters_of Try.func20 (by kernel_rfl) rfl

theorem sort_any (base : Nat) (v : Value) (xs : List NetD) (w : World) (h : w.ownsRow base 34 5 v xs.length (nCells xs)) (hsz : xs.length < 4611686018427387904) :
    Calls Try.prog 19 #[v, .func (.func 20) #[] #[]] w fun e w' => e = .returned (.tuple #[]) ∧ ∃ ys : List NetD, ys.Perm xs ∧ ys.Pairwise (fun x y => lessN y x = false) ∧
      w'.ownsRow base 34 5 v ys.length (nCells ys) ∧ w.grownBy w' v.ownBlock := by
  rcases h.2 with ⟨rfl, h0⟩ | ⟨g, cap, cur, rfl, hbase, hb, h1, h2, h3, h4⟩
  · have hx : xs = [] := List.length_eq_zero_iff.1 h0
    subst hx
    have := AnyF.slices_SortFunc_none Try.sortNets none 0 (.func (.func 20) #[] #[]) w
    exact this.mono fun e w' ⟨he, hw⟩ => ⟨he, [], List.Perm.refl _, List.Pairwise.nil, by rw [hw]; exact h, by rw [hw]; exact World.grownBy.refl w _⟩
  · have hg : g < w.heap.size := (Array.getElem?_eq_some_iff.1 hb).1
    have hH : HoldsK encN 5 w g 0 xs.toArray := by
      intro j hj
      have hj' : j < xs.length * 5 := by simpa using hj
      refine ⟨?_, by simp [World.frozen?, hb]⟩
      have e1 := flat_cells xs.toArray
      simp only [World.cell?, hb, Nat.zero_add, Option.isSome_none, Bool.false_eq_true, if_false]
      have e2 : (cur.toList.take (xs.length * 5))[j]? = (nCells xs)[j]? := by rw [h4]
      rw [List.getElem?_take_of_lt hj'] at e2
      rw [← Array.getElem?_toList, e2]
      have e3 : (flatK encN 5 xs.toArray)[j]! = (nCells xs)[j]'(by rw [nCells_length]; exact hj') := by
        rw [getElem!_pos _ j hj]
        have := congrArg (fun l : List Value => l[j]?) e1
        simp only [Array.getElem?_toList] at this
        rw [Array.getElem?_eq_getElem hj, List.getElem?_eq_getElem (by rw [nCells_length]; simpa using hj')] at this
        injection this
      rw [List.getElem?_eq_getElem (by rw [nCells_length]; exact hj'), e3]
      rfl
    have hcon := AnyQ.slices_SortFunc Try.sortNets 5 (by intro w; kernel_rfl) (by intro w; kernel_rfl) encN (fun _ => rfl) (fun x v hv => by simp [encN] at hv; rcases hv with rfl | rfl | rfl | rfl | rfl <;> rfl) ordN swoN 20 #[] g 0 cap xs.toArray w enters20 (fun _ _ _ _ x y => order_any x y _) hH hg (by simpa using hsz)
    rw [show xs.toArray.size = xs.length from by simp] at hcon
    change Calls Try.prog 19 _ _ _ at hcon
    refine hcon.mono ?_
    rintro e w' ⟨he, d', n, os, hp, hs, hw⟩
    have hsize : d'.size = xs.length := by simpa using hp.1
    have hperm : d'.toList.Perm xs := by
      have := hp.2.2
      have e1 : d'.extract 0 xs.length = d' := by
        rw [← hsize]
        simp
      rw [e1] at this
      simpa using this
    refine ⟨he, d'.toList, hperm, ?_, ?_, by rw [hw]; exact grownBy_sortedN _⟩
    · rw [List.pairwise_iff_getElem]
      intro i j hi hj hij
      have := hs i j (Nat.zero_le _) hij (by simpa [hsize] using hj)
      rw [getElem!_pos _ _ (by simpa using hj), getElem!_pos _ _ (by simpa using hi)] at this
      simpa [lessN] using this
    · rw [hw]
      have hl : d'.toList.length = xs.length := by simpa using hsize
      rw [hl]
      refine ⟨by rw [nCells_length, hl], .inr ⟨g, cap, _, rfl, hbase, heap_sortedN _ hb, h1, h2, by simp [putCells, h3], ?_⟩⟩
      have e2 := take_putCellsN cur (flatK encN 5 d') (by simp [hsize, h3]; omega)
      rw [flat_cells] at e2
      simpa [hsize] using e2
end Go.Proofs.Ytggpdbfkfcoejaa
