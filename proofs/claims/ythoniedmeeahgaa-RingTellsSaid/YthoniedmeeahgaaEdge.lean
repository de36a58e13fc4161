/-
  The reference's edge and without by contract.
-/
import Derived.Test.YthoniedmeeahgaaItems
import Derived.Test.YthoniedmeeahgaaEqRings
namespace Go.Proofs.Ythoniedmeeahgaa
open Go.RowKit Go.Maps

theorem hasE_self {xs : List NetD} (h : ∀ x ∈ xs, x.f ≠ x.t) (f : Int) : hasE xs f f = false := by
  cases e : hasE xs f f with
  | false => rfl
  | true =>
    obtain ⟨x, hx, h1, h2⟩ := hasE_iff.1 e
    exact absurd (h1.trans h2.symm) (h x hx)
theorem items_pos {xs : List NetD} {f t : Int} : 0 < (items xs f t).length ↔ hasE xs f t = true := by
  constructor
  · intro h
    cases e : hasE xs f t with
    | true => rfl
    | false => rw [items_nil e] at h; simp at h
  · intro h
    exact List.length_pos_iff.2 (items_ne h)
theorem items_le (xs : List NetD) (f t : Int) : (items xs f t).length ≤ xs.length := by
  have := (items_back xs f t).length_eq
  rw [List.length_map] at this
  rw [this]
  exact List.length_filter_le _ _
set_option maxRecDepth 100000 in
set_option maxHeartbeats 8000000 in
theorem edge_any (xs : List NetD) (A : Option Addr) (c : Nat) (f t : Int) (w : World) (ha : 0 < xs.length → ∃ b o, A = some ⟨b, o, none⟩ ∧ NetAt w xs b o) (hm : MayX xs) (p : Bool) (hp : p = hasE xs f t) :
    Calls Try.prog 22 #[.slice A xs.length c, .int .i64 f, .int .i64 t] w (EqP w p) := by
  have HI := Lib.hid (items_any xs A c f t w ha hm.len (pick_apart hm f t))
  have hle := items_le xs f t
  have hlen := hm.len
  have HP := Lib.hid hp
  have HSE := Lib.hid (hasE_self (fun x hx => (hm.each x hx).ne) f)
  clear ha hm hp
  by_cases hft : f = t
  case pos =>
    subst hft
    have HF := Lib.hid (show p = false from HP.out.trans HSE.out)
    go_enter Try.func22, Try.ntmps22
    go_wp2_with fail
    go_ret
    exact ⟨by rw [HF.out]; rfl, Below.refl _ _⟩
  case neg =>
    have e1 : (f == t) = false := by simpa using hft
    have e2 : decide (f = t) = false := decide_eq_false hft
    have e3 : (f != t) = true := by simp [hft]
    have HPP := Lib.hid (items_pos (xs := xs) (f := f) (t := t))
    clear hft
    go_enter Try.func22, Try.ntmps22
    go_wp2_with fail
    refine HI.out.mono ?_
    rintro e w1 ⟨v, rfl, ho, hb⟩
    obtain ⟨A1, c1, rfl⟩ := own_shape ho
    have HB := Lib.hid hb
    obtain ⟨n, hn⟩ : ∃ n, n = (items xs f t).length := ⟨_, rfl⟩
    have HN := Lib.hid hn
    rw [← hn] at hle ⊢
    clear ho hb hn
    cases p with
    | true =>
      have hpos : 0 < n := by rw [HN.out]; exact HPP.out.2 HP.out.symm
      have q1 : decide ((0 : Int) < (n : Int)) = true := decide_eq_true (by omega)
      have q2 : decide (0 < n) = true := decide_eq_true hpos
      clear hpos
      go_wp2_with fail
      go_ret
      exact ⟨rfl, HB.out⟩
    | false =>
      have hpos : ¬ 0 < n := fun h => by
        rw [HN.out] at h
        have := HPP.out.1 h
        rw [← HP.out] at this
        cases this
      have q1 : decide ((0 : Int) < (n : Int)) = false := decide_eq_false (by omega)
      have q2 : decide (0 < n) = false := decide_eq_false hpos
      clear hpos
      go_wp2_with fail
      go_ret
      exact ⟨rfl, HB.out⟩
theorem reads_netN (w : World) (t : TypeId) (x : NetD) : Reads (w.alloc (.cells #[.int .i64 x.f, .int .i64 x.t, .int .i64 x.l, .int .i64 x.a, .int .i64 x.n] t)) (w.heap.size + 1) 5 (some ⟨w.heap.size, 0, none⟩) 1 (encN x) := by
  refine ⟨rfl, fun _ => ⟨_, rfl, by simp, fun j u hu => ?_⟩⟩
  have hb := Blk.new w t #[.int .i64 x.f, .int .i64 x.t, .int .i64 x.l, .int .i64 x.a, .int .i64 x.n]
  rw [Addr.add_lit, Nat.zero_add, hb.cell, ← hu]
  simp [encN]
theorem below_own5 {w wr w6 : World} {A : Option Addr} {n c e size : Nat} {xs : List Value} {o : Obj} (ho : wr.ownsRow w.heap.size e size (.slice A n c) n xs) (hb : Below w.heap.size w wr) (hg : (wr.alloc o).grownBy w6 (Value.slice A n c).ownBlock) : Below w.heap.size w w6 :=
  (hb.alloc hb.size o).grown hg (Nat.le_trans hb.size (by simp)) (fun j hj => (own_block ho hj).1)
theorem cut_take {xs : List NetD} {k : Nat} (hk : k < xs.length) (f t : Int) : cut (xs.take (k + 1)) f t = if xs[k].f = f ∧ xs[k].t = t then cut (xs.take k) f t else cut (xs.take k) f t ++ [xs[k]] := by
  unfold cut
  rw [take_filter hk]
  by_cases h : xs[k].f = f ∧ xs[k].t = t
  · rw [if_neg (by simp [h.1, h.2]), if_pos h]
  · rw [if_pos, if_neg h]
    simp only [Bool.not_eq_true', Bool.and_eq_false_iff, beq_eq_false_iff_ne]
    by_cases h1 : xs[k].f = f
    · exact .inr (fun h2 => h ⟨h1, h2⟩)
    · exact .inl h1
set_option maxRecDepth 100000 in
set_option maxHeartbeats 8000000 in
theorem without_any (xs : List NetD) (A : Option Addr) (c : Nat) (f t : Int) (w : World) (ha : 0 < xs.length → ∃ b o, A = some ⟨b, o, none⟩ ∧ NetAt w xs b o) (hlen : xs.length ≤ 100) :
    Calls Try.prog 24 #[.slice A xs.length c, .int .i64 f, .int .i64 t] w fun e w' => ∃ v, e = .returned v ∧ w'.ownsRow w.heap.size 38 5 v (cut xs f t).length (nCells (cut xs f t)) ∧ Below w.heap.size w w' := by
  obtain ⟨ix, hix, hx0, hx1, hx2⟩ := info_parts net_row
  have HA := Lib.hid ha
  clear ha
  go_enter Try.func24, Try.ntmps24
  go_wp2_with fail
  go_loopw [7, 8] (fun v i wr => ∃ k : Nat, k ≤ xs.length ∧ i = .int .i64 k ∧ wr.ownsRow w.heap.size 38 5 v (cut (xs.take k) f t).length (nCells (cut (xs.take k) f t)) ∧ Below w.heap.size w wr) (fun _ i _ => xs.length - (intOf i).toNat)
  case atStart => exact ⟨0, Nat.zero_le _, rfl, World.ownsRow_nil _ _ _ _, Below.refl _ _⟩
  case round =>
    obtain ⟨k, hk, rfl, ho, hb⟩ := hrel
    have hk0 : (0 : Int) ≤ (k : Int) := Int.natCast_nonneg _
    obtain ⟨Av, cv, rfl⟩ := own_shape ho
    by_cases hlt : k < xs.length
    · obtain ⟨b, o, rfl, hN⟩ := HA.out (by omega)
      have hki : (k : Int) < (xs.length : Int) := by omega
      have ek : IntKind.i64.wrap ((k : Int) + 1) = (k : Int) + 1 := by rw [IntKind.wrap_i64]; omega
      have hsz := Nat.lt_of_lt_of_le hN.1 hb.size
      obtain ⟨a0, a1, a2, a3, a4⟩ := (hN.below hb).2 k hlt
      have hct := cut_take hlt f t
      have hcl : (cut (xs.take k) f t).length ≤ 100 := by
        have h1 : (cut (xs.take k) f t).length ≤ (xs.take k).length := List.length_filter_le _ _
        rw [List.length_take] at h1
        omega
      obtain ⟨x, hx⟩ : ∃ x, x = xs[k] := ⟨_, rfl⟩
      obtain ⟨Y, hY⟩ : ∃ Y, Y = cut (xs.take k) f t := ⟨_, rfl⟩
      rw [← hx] at a0 a1 a2 a3 a4 hct
      rw [← hY] at ho hct hcl ⊢
      have HO := Lib.hid ho
      have HB := Lib.hid hb
      clear hx hY ho hb hN
      by_cases hf : x.f = f
      · have e1 : (x.f == f) = true := by simpa using hf
        have e2 : decide (x.f = f) = true := decide_eq_true hf
        have e3 : (x.f != f) = false := by simp [hf]
        by_cases ht : x.t = t
        · have e4 : (x.t == t) = true := by simpa using ht
          have e5 : decide (x.t = t) = true := decide_eq_true ht
          have e6 : (x.t != t) = false := by simp [ht]
          rw [if_pos ⟨hf, ht⟩] at hct
          have HC := Lib.hid hct
          clear hf ht hct
          go_wp2_with fail
          exact ⟨⟨k + 1, hlt, rfl, by rw [HC.out]; exact HO.out, HB.out⟩, by simp only [intOf]; omega⟩
        · have e4 : (x.t == t) = false := by simpa using ht
          have e5 : decide (x.t = t) = false := decide_eq_false ht
          have e6 : (x.t != t) = true := by simp [ht]
          rw [if_neg (fun h => ht h.2)] at hct
          have HC := Lib.hid hct
          clear hf ht hct
          go_wp2_with (at_builtin; refine wpList_append_any _ rfl (.tmp 31) (.tmp 36) _ rfl w.heap.size 38 ix _ 5 40 Try.underlying22 hix hx0 hx1 hx2 rfl (by omega) (.slice Av Y.length cv) Y.length (nCells Y) rfl (own_below HO.out ((Below.refl _ _).alloc (Nat.le_refl _) _)) (wr.heap.size + 1) (some ⟨wr.heap.size, 0, none⟩) 1 1 (encN x) rfl (reads_netN wr _ _) (by simp [encN, Value.oneCell']) (by simp only [maxLen]; omega) (by omega) (by have := HB.out.size; simp; omega) ?_; intro v6 w6 hown6 hg6 hat6)
          exact ⟨⟨k + 1, hlt, rfl, by rw [HC.out, nCells_snoc, List.length_append]; exact hown6, below_own5 HO.out HB.out hg6⟩, by simp only [intOf]; omega⟩
      · have e1 : (x.f == f) = false := by simpa using hf
        have e2 : decide (x.f = f) = false := decide_eq_false hf
        have e3 : (x.f != f) = true := by simp [hf]
        rw [if_neg (fun h => hf h.1)] at hct
        have HC := Lib.hid hct
        clear hf hct
        go_wp2_with (at_builtin; refine wpList_append_any _ rfl (.tmp 31) (.tmp 36) _ rfl w.heap.size 38 ix _ 5 40 Try.underlying22 hix hx0 hx1 hx2 rfl (by omega) (.slice Av Y.length cv) Y.length (nCells Y) rfl (own_below HO.out ((Below.refl _ _).alloc (Nat.le_refl _) _)) (wr.heap.size + 1) (some ⟨wr.heap.size, 0, none⟩) 1 1 (encN x) rfl (reads_netN wr _ _) (by simp [encN, Value.oneCell']) (by simp only [maxLen]; omega) (by omega) (by have := HB.out.size; simp; omega) ?_; intro v6 w6 hown6 hg6 hat6)
        exact ⟨⟨k + 1, hlt, rfl, by rw [HC.out, nCells_snoc, List.length_append]; exact hown6, below_own5 HO.out HB.out hg6⟩, by simp only [intOf]; omega⟩
    · obtain rfl : k = xs.length := by omega
      have hki : ¬ ((xs.length : Int) < (xs.length : Int)) := by omega
      rw [List.take_length] at ho ⊢
      have HO := Lib.hid ho
      have HB := Lib.hid hb
      clear ho hb
      go_wp2_with fail
      go_ret
      exact ⟨_, rfl, HO.out, HB.out⟩
end Go.Proofs.Ythoniedmeeahgaa
