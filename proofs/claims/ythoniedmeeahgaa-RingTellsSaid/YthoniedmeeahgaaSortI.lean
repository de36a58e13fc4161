/-
  slices.SortStableFunc at a few items, by contract: the same slice owns a sorted permutation.
-/
import Derived.Test.YthoniedmeeahgaaItemOrd
import Derived.Test.YthoniedmeeahgaaWebLaw
import Derived.Sort.LotA
namespace Go.Proofs.Ythoniedmeeahgaa
open Go.RowKit Go.Shelf Go.Lib Go.Sort

instance : Inhabited ItD := ⟨⟨0, 0, 0⟩⟩
theorem itCells_cons (x : ItD) (xs : List ItD) : itCells (x :: xs) = encI3 x ++ itCells xs := rfl
theorem encI3_length (x : ItD) : (encI3 x).length = 3 := rfl
theorem itCells_length (xs : List ItD) : (itCells xs).length = xs.length * 3 := by
  induction xs with
  | nil => rfl
  | cons x xs ih => rw [itCells_cons, List.length_append, ih, encI3_length, List.length_cons]; omega
theorem itCells_at (xs : List ItD) (k : Nat) (h : k < xs.length) (j : Nat) (hj : j < 3) : (itCells xs)[k * 3 + j]? = (encI3 xs[k])[j]? := by
  induction xs generalizing k with
  | nil => exact absurd h (by simp)
  | cons x xs ih =>
    match k, h with
    | 0, _ => rw [itCells_cons, Nat.zero_mul, Nat.zero_add, List.getElem?_append_left (by rw [encI3_length]; exact hj)]; rfl
    | k + 1, h =>
      rw [itCells_cons, List.getElem?_append_right (by rw [encI3_length]; omega)]
      have := ih k (by simpa using h)
      rw [List.getElem_cons_succ, ← this]
      congr 1
      rw [encI3_length]
      omega
theorem itCells_one (xs : List ItD) : ∀ u ∈ itCells xs, u.oneCell' = true := by
  intro u hu
  obtain ⟨x, _, hx⟩ := List.mem_flatMap.1 hu
  simp at hx
  rcases hx with rfl | rfl | rfl <;> rfl
theorem flat_items (d : Array ItD) : (flatK encI3 3 d).toList = itCells d.toList := by
  apply List.ext_getElem?
  intro t
  by_cases ht : t < d.size * 3
  · have hk : t / 3 < d.toList.length := by simp; omega
    have hm : t % 3 < 3 := Nat.mod_lt _ (by omega)
    have e : t / 3 * 3 + t % 3 = t := by omega
    have h1 := itCells_at d.toList (t / 3) hk (t % 3) hm
    rw [e] at h1
    rw [h1]
    have h2 := get_flatK encI3 3 d t ht
    have hsz : t < (flatK encI3 3 d).size := by simpa using ht
    rw [Array.getElem?_toList, Array.getElem?_eq_getElem hsz]
    rw [getElem!_pos _ t hsz] at h2
    rw [h2]
    have hd : d[t / 3]! = d.toList[t / 3] := by
      rw [getElem!_pos d (t / 3) (by simpa using hk)]
      simp
    rw [hd, getElem!_pos _ _ (by rw [encI3_length]; exact hm), List.getElem?_eq_getElem (by rw [encI3_length]; exact hm)]
  · rw [List.getElem?_eq_none (by simp; omega), List.getElem?_eq_none (by rw [itCells_length]; simp; omega)]
def lessI (x y : ItD) : Bool := ltOf ordI x y
def iLt (x y : ItD) : Prop := x.l < y.l ∨ (x.l = y.l ∧ x.a < y.a)
theorem lessI_iff (x y : ItD) : lessI x y = true ↔ iLt x y := by
  unfold lessI ltOf ordI iLt
  rw [decide_eq_true_iff, or2_neg, (cmp_neg _ _).1, (cmp_neg _ _).2, (cmp_neg _ _).1]
theorem swoI : SWO (ltOf ordI) where
  irrefl x := by
    cases h : ltOf ordI x x
    · rfl
    · have := (lessI_iff x x).1 h
      unfold iLt at this
      omega
  trans x y z h1 h2 := by
    have h1 := (lessI_iff x y).1 h1
    have h2 := (lessI_iff y z).1 h2
    refine (lessI_iff x z).2 ?_
    unfold iLt at *
    omega
  ntrans x y z h1 h2 := by
    have h1 : ¬ iLt x y := fun h => by
      have e : ltOf ordI x y = true := (lessI_iff x y).2 h
      rw [e] at h1
      cases h1
    have h2 : ¬ iLt y z := fun h => by
      have e : ltOf ordI y z = true := (lessI_iff y z).2 h
      rw [e] at h2
      cases h2
    cases h : ltOf ordI x z
    · rfl
    · have h3 := (lessI_iff x z).1 h
      exfalso
      unfold iLt at *
      omega
theorem entersO : ∀ (args : Array Value) (w : World), (callFunc 18 args).run Try.prog w = .ok (.enter 18 args) w := enters_of Try.func18 (by kernel_rfl) rfl

theorem insI_any (base : Nat) (v : Value) (xs : List ItD) (w : World) (h : w.ownsRow base 35 3 v xs.length (itCells xs)) (h0 : 0 < xs.length) (hsz : xs.length < 20) :
    Calls Try.prog 40 #[v, .int .i64 0, .int .i64 xs.length, .func (.func 18) #[] #[]] w fun e w' => e = .returned (.tuple #[]) ∧ ∃ ys : List ItD, ys.Perm xs ∧ ys.Pairwise (fun x y => lessI y x = false) ∧
      w'.ownsRow base 35 3 v ys.length (itCells ys) ∧ w.grownBy w' v.ownBlock := by
  rcases h.2 with ⟨_, hz⟩ | ⟨g, cap, cur, rfl, hbase, hb, h1, h2, h3, h4⟩
  · omega
  · have hg : g < w.heap.size := (Array.getElem?_eq_some_iff.1 hb).1
    have hH : HoldsK encI3 3 w g 0 xs.toArray := by
      intro j hj
      have hj' : j < xs.length * 3 := by simpa using hj
      refine ⟨?_, by simp [World.frozen?, hb]⟩
      have e1 := flat_items xs.toArray
      simp only [World.cell?, hb, Nat.zero_add, Option.isSome_none, Bool.false_eq_true, if_false]
      have e2 : (cur.toList.take (xs.length * 3))[j]? = (itCells xs)[j]? := by rw [h4]
      rw [List.getElem?_take_of_lt hj'] at e2
      rw [← Array.getElem?_toList, e2]
      have e3 : (flatK encI3 3 xs.toArray)[j]! = (itCells xs)[j]'(by rw [itCells_length]; exact hj') := by
        rw [getElem!_pos _ j hj]
        have := congrArg (fun l : List Value => l[j]?) e1
        simp only [Array.getElem?_toList] at this
        rw [Array.getElem?_eq_getElem hj, List.getElem?_eq_getElem (by rw [itCells_length]; simpa using hj')] at this
        injection this
      rw [List.getElem?_eq_getElem (by rw [itCells_length]; exact hj'), e3]
      rfl
    have hcon := AnyQ.insertionSortCmpFunc Try.sortItems 3 (by intro w; kernel_rfl) (by intro w; kernel_rfl) encI3 (fun _ => rfl) (fun x v hv => by simp [encI3] at hv; rcases hv with rfl | rfl | rfl <;> rfl) ordI 18 #[] g 0 cap 0 xs.length xs.toArray w entersO (fun _ _ _ _ x y => orderI_any x y _) hH hg (Nat.zero_le _) (by simp) (by simp; omega)
    rw [show xs.toArray.size = xs.length from by simp] at hcon
    change Calls Try.prog 40 _ _ _ at hcon
    refine hcon.mono ?_
    rintro e w' ⟨he, n, os, hw⟩
    obtain ⟨hp, hs⟩ := insertionSort_holds (lt := ltOf ordI) swoI xs.toArray 0 xs.length (Nat.zero_le _) (by simp)
    generalize insertionSort (ltOf ordI) xs.toArray 0 xs.length = d' at hw hp hs
    have hsize : d'.size = xs.length := by simpa using hp.1
    have hperm : d'.toList.Perm xs := by
      have := hp.2.2
      have e1 : d'.extract 0 xs.length = d' := by
        rw [← hsize]
        simp
      rw [e1] at this
      simpa using this
    refine ⟨he, d'.toList, hperm, ?_, ?_, by rw [hw]; exact grownBy_sortedN _⟩
    · rw [List.pairwise_iff_getElem]
      intro i j hi hj hij
      have := hs i j (Nat.zero_le _) hij (by simpa [hsize] using hj)
      rw [getElem!_pos _ _ (by simpa using hj), getElem!_pos _ _ (by simpa using hi)] at this
      simpa [lessI] using this
    · rw [hw]
      have hl : d'.toList.length = xs.length := by simpa using hsize
      rw [hl]
      refine ⟨by rw [itCells_length, hl], .inr ⟨g, cap, _, rfl, hbase, heap_sortedN _ hb, h1, h2, by simp [putCells, h3], ?_⟩⟩
      have e2 := take_putCellsN cur (flatK encI3 3 d') (by simp [hsize, h3]; omega)
      rw [flat_items] at e2
      simpa [hsize] using e2
set_option maxHeartbeats 1000000 in
theorem stabI_any (base : Nat) (v : Value) (xs : List ItD) (w : World) (h : w.ownsRow base 35 3 v xs.length (itCells xs)) (h0 : 0 < xs.length) (hsz : xs.length < 20) :
    Calls Try.prog 32 #[v, .int .i64 xs.length, .func (.func 18) #[] #[]] w fun e w' => e = .returned (.tuple #[]) ∧ ∃ ys : List ItD, ys.Perm xs ∧ ys.Pairwise (fun x y => lessI y x = false) ∧
      w'.ownsRow base 35 3 v ys.length (itCells ys) ∧ w.grownBy w' v.ownBlock := by
  have H := Lib.hid (insI_any base v xs w h h0 hsz)
  have d1 : ¬ (20 : Int) ≤ (xs.length : Int) := by omega
  have d2 : decide ((20 : Int) ≤ (xs.length : Int)) = false := decide_eq_false d1
  have d3 : ¬ (20 : Int) < (xs.length : Int) := by omega
  have d4 : decide ((20 : Int) < (xs.length : Int)) = false := decide_eq_false d3
  clear h h0
  go_enter Try.func32, Try.ntmps32
  go_wp2_with fail
  go_loopw [7, 8] (fun a b wr => a = .int .i64 0 ∧ b = .int .i64 20 ∧ wr = w) (fun _ _ _ => 0)
  case atStart => exact ⟨rfl, rfl, rfl⟩
  case round =>
    obtain ⟨rfl, rfl, rfl⟩ := hrel
    go_wp2_with fail
    refine H.out.mono ?_
    rintro e w' ⟨rfl, ys, h1, h2, h3, h4⟩
    have HY := Lib.hid (show ∃ ys : List ItD, ys.Perm xs ∧ ys.Pairwise (fun x y => lessI y x = false) ∧ w'.ownsRow base 35 3 v ys.length (itCells ys) ∧ _ from ⟨ys, h1, h2, h3, h4⟩)
    clear h1 h2 h3 h4
    go_wp2_with fail
    go_loopw [6] (fun a wr => a = .int .i64 20 ∧ wr = w') (fun _ _ => 0)
    case atStart => exact ⟨rfl, rfl⟩
    case round =>
      obtain ⟨rfl, rfl⟩ := hrel
      go_wp2_with fail
      go_end0
      exact ⟨rfl, HY.out⟩
set_option maxHeartbeats 1000000 in
theorem sortI_any (base : Nat) (v : Value) (xs : List ItD) (w : World) (h : w.ownsRow base 35 3 v xs.length (itCells xs)) (h0 : 0 < xs.length) (hsz : xs.length < 20) :
    Calls Try.prog 17 #[v, .func (.func 18) #[] #[]] w fun e w' => e = .returned (.tuple #[]) ∧ ∃ ys : List ItD, ys.Perm xs ∧ ys.Pairwise (fun x y => lessI y x = false) ∧
      w'.ownsRow base 35 3 v ys.length (itCells ys) ∧ w.grownBy w' v.ownBlock := by
  have H := Lib.hid (stabI_any base v xs w h h0 hsz)
  obtain ⟨A, c, rfl⟩ := own_shape h
  clear h h0
  go_enter Try.func17, Try.ntmps17
  go_wp2_with fail
  refine H.out.mono ?_
  rintro e w' ⟨rfl, ys, h1, h2, h3, h4⟩
  go_wp2_with fail
  go_end0
  exact ⟨rfl, ys, h1, h2, h3, h4⟩
end Go.Proofs.Ythoniedmeeahgaa
