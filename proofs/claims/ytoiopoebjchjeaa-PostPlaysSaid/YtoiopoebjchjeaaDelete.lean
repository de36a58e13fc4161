/-
  slices.Delete of one element, at parcels.
-/
import Derived.Test.YtoiopoebjchjeaaPostB
import Derived.Lib.SliceRun
import Derived.Laws.IdiomCopy
import Derived.IntWalk
namespace Go.Proofs.Ytoiopoebjchjeaa
open Go.RowKit

theorem setCells_blk {g : Nat} {t : TypeId} : ∀ (vs : List Value) (o : Nat) (w : World) (cs : Array Value), Blk w g t cs → o + vs.length ≤ cs.size →
    ∃ cs', Blk (w.setCells g o vs) g t cs' ∧ cs'.toList = cs.toList.take o ++ vs ++ cs.toList.drop (o + vs.length)
  | [], o, w, cs, h, _ => ⟨cs, h, by simp⟩
  | v :: vs, o, w, cs, h, hl => by
    have h1 := h.set_ o v
    obtain ⟨cs', h2, h3⟩ := setCells_blk vs (o + 1) _ _ h1 (by simp at hl ⊢; omega)
    refine ⟨cs', h2, ?_⟩
    rw [h3, Array.toList_setIfInBounds]
    simp only [List.length_cons] at hl ⊢
    have ho : o < cs.toList.length := by simp; omega
    rw [List.take_succ_eq_append_getElem (by simpa using ho), List.take_set_of_le (Nat.le_refl _), List.getElem_set_self, List.drop_set_of_lt (by omega)]
    simp [Nat.add_assoc, Nat.add_comm 1]
theorem setCells_only : ∀ (vs : List Value) (o : Nat) (w : World) (g : Nat), w.grownBy (w.setCells g o vs) (some g)
  | [], _, w, _ => World.grownBy.refl w _
  | v :: vs, o, w, g => grownBy_trans (set_only w g o v) (setCells_only vs (o + 1) _ g)

/-- Parcels without the k-th. -/
theorem pcells_erase (ps : List PD) (k : Nat) : pcells (ps.eraseIdx k) = (pcells ps).take (k * 2) ++ (pcells ps).drop ((k + 1) * 2) := by
  rw [List.eraseIdx_eq_take_drop_succ, pcells_append, pcells_take, pcells_drop]

theorem parcel_info : (Try.prog.info? 37).map (fun i => (i.zero, i.size, i.bytes)) = some (some (.agg #[.int .i64 0, .slice none 0 0]), 2, 32) := by kernel_rfl

theorem run_clear_one {P : Program} (w : World) (t e ty : TypeId) (z a b : Value) (ht : P.underlying t = some (.slice e)) (hv : ∀ w, (zeroValue e).run P w = .ok z w) (hz : z.cells = #[a, b]) (ha : a.oneCell' = true) (hb : b.oneCell' = true) (g o c : Nat)
    (hc : ∀ j, j < 2 → (w.cell? ⟨g, o + j, none⟩).isSome = true) (hf : ∀ j, j < 2 → w.frozen? ⟨g, o + j, none⟩ = false) :
    (Builtin.clear_ #[t] ty #[.slice (some ⟨g, o, none⟩) 1 c]).run P w = .ok (.tuple #[]) (w.setCells g o [a, b]) := by
  have hzc : (Builtin.zeroCells z.cells 1).toList = [a, b] := by
    rw [hz]
    simp [Builtin.zeroCells, Array.range, Array.ofFn]
    rfl
  have hst := run_storeCells_cells (P := P) g o [a, b] 0 w (by simpa using hc) (by simpa using hf) (by intro v hv'; simp at hv'; rcases hv' with rfl | rfl <;> assumption)
  simp only [Nat.add_zero] at hst
  simp [Builtin.clear_, run_underlying ht, hv, hzc, hst]
theorem zero_parcel (w : World) : (zeroValue 37).run Try.prog w = .ok (.agg #[.int .i64 0, .slice none 0 0]) w := by kernel_rfl

def DelR (w : World) (base r c m k : Nat) (ps : List PD) (e : Ending) (w' : World) : Prop :=
  e = .returned (.slice (some ⟨r, 0, none⟩) m c) ∧ w'.ownsRow base 37 2 (.slice (some ⟨r, 0, none⟩) m c) m (pcells (ps.eraseIdx k)) ∧ w.grownBy w' (some r)

set_option maxRecDepth 100000 in
set_option maxHeartbeats 2000000 in
theorem delete_any (base r c m k : Nat) (ps : List PD) (w : World) (hn : ps.length = m + 1) (hk : k ≤ m) (hown : w.ownsRow base 37 2 (.slice (some ⟨r, 0, none⟩) (m + 1) c) (m + 1) (pcells ps)) :
    Calls Try.prog 27 #[.slice (some ⟨r, 0, none⟩) ((m + 1 : Nat) : Nat) c, .int .i64 (k : Int), .int .i64 ((k : Int) + 1)] w (DelR w base r c m k ps) := by
  obtain ⟨i0, hi0, hz0, hz1, hz2⟩ := info_parts parcel_info
  obtain ⟨hl, h⟩ := id hown
  rcases h with ⟨h1, _⟩ | ⟨g', cap, cur, hv, hbg, hh, hnc, hcm, hcs, htake⟩
  · injection h1 with h1
    cases h1
  injection hv with h1 _ h3
  injection h1 with h1
  injection h1 with h1
  subst h1 h3
  unfold maxLen at hcm
  have hB : Blk w r 37 cur := hh
  have hne : ((k : Int) == (k : Int) + 1) = false := by simp; omega
  have b1 : (k : Int) + 1 ≤ (m : Int) + 1 := by omega
  have b2 : (m : Int) + 1 ≤ (c : Int) := by omega
  have Hl := Lib.hid hl
  have Ht := Lib.hid htake
  have Hcs := Lib.hid hcs
  have HB := Lib.hid hB
  have Hn := Lib.hid hn
  clear hl htake hcs hB hh hn hown
  obtain ⟨A, hA, hnews⟩ : ∃ A : Addr, (if c = k + 1 then some (⟨r, 0, none⟩ : Addr) else some ⟨r, (k + 1) * 2, none⟩) = some A ∧ Hid (∀ j u, ((pcells ps).drop ((k + 1) * 2))[j]? = some u → w.drew.cell? (A.add j) = some u) := by
    have hnone : c = k + 1 → (pcells ps).drop ((k + 1) * 2) = [] := fun h => by
      rw [List.drop_eq_nil_iff, Hl.out]; omega
    by_cases h : c = k + 1
    · refine ⟨⟨r, 0, none⟩, by simp [h], fun j u hu => ?_⟩
      rw [hnone h] at hu
      simp at hu
    · refine ⟨⟨r, (k + 1) * 2, none⟩, by simp [h], fun j u hu => ?_⟩
      rw [Addr.add_lit]
      show w.cell? _ = _
      rw [HB.out.cell, ← hu, List.getElem?_drop, ← Ht.out, List.getElem?_take, if_pos]
      · simp
      · have := (List.getElem?_eq_some_iff.1 hu).1
        rw [List.length_drop, Hl.out] at this
        omega
  have s1 : Hid (((pcells ps).drop ((k + 1) * 2)).length = (m + 1 - (k + 1)) * 2) := by
    show _ = _
    rw [List.length_drop, Hl.out]; omega
  have s2 : Hid (∀ u ∈ (pcells ps).drop ((k + 1) * 2), u.oneCell' = true) := fun u hu => pcells_one ps u (List.mem_of_mem_drop hu)
  have s3 : Hid (∀ j, j < ((pcells ps).drop ((k + 1) * 2)).length → (w.drew.cell? ⟨r, 0 + k * 2 + j, none⟩).isSome = true ∧ w.drew.frozen? ⟨r, 0 + k * 2 + j, none⟩ = false) := by
    intro j hj
    rw [s1.out] at hj
    refine ⟨?_, HB.out.frozen _⟩
    show (w.cell? _).isSome = true
    rw [HB.out.cell, Array.getElem?_eq_getElem (by rw [Hcs.out]; omega)]
    rfl
  have hwr : IntKind.i64.wrap ((k : Int) + 1) = (k : Int) + 1 := by rw [IntKind.wrap_i64]; omega
  have hp0 : (0 : Int) ≤ (k : Int) + 1 := by omega
  have hp2 : ((k : Int) + 1).toNat = k + 1 := by omega
  have hp3 : (k : Int) ≤ (c : Int) := by omega
  go_enter Try.func27, Try.ntmps27
  go_wp2_with fail
  go_region_law (refine step_append_room rfl (.tmp 22) (.tmp 25) 44 rfl 37 i0 2 Try.underlying44 hi0 hz1 r 0 k c (by simp [Act.eval, Act.put]) A (m + 1 - (k + 1)) (c - (k + 1)) ((pcells ps).drop ((k + 1) * 2)) (by simp [Act.eval, Act.put]) s1.out hnews.out s2.out (by omega) s3.out ?_)
  obtain ⟨W1, hW1⟩ : ∃ W1, W1 = w.drew.setCells r (k * 2) ((pcells ps).drop ((k + 1) * 2)) := ⟨_, rfl⟩
  obtain ⟨cs1, k1, k2⟩ := setCells_blk ((pcells ps).drop ((k + 1) * 2)) (k * 2) w.drew cur HB.out (by rw [s1.out, Hcs.out]; omega)
  have o1 := setCells_only ((pcells ps).drop ((k + 1) * 2)) (k * 2) w.drew r
  rw [← hW1] at k1 o1 ⊢
  have hlen1 : cs1.size = c * 2 := by
    have := congrArg List.length k2
    simp only [Array.length_toList, List.length_append, List.length_take, List.length_drop, s1.out] at this
    rw [this, Hcs.out]
    omega
  have q0 : W1.cell? ⟨r, m * 2, none⟩ = some (cs1[m * 2]'(by omega)) := by rw [k1.cell]; exact Array.getElem?_eq_getElem _
  have q1 : W1.cell? ⟨r, m * 2 + 1, none⟩ = some (cs1[m * 2 + 1]'(by omega)) := by rw [k1.cell]; exact Array.getElem?_eq_getElem _
  have f0 := k1.frozen (m * 2)
  have f1 := k1.frozen (m * 2 + 1)
  have hcm2 : ¬ c = m := by omega
  have hone : m + 1 - m = 1 := by omega
  have K1 := Lib.hid k1
  have K2 := Lib.hid k2
  have O1 := Lib.hid o1
  have HL1 := Lib.hid hlen1
  generalize cs1[m * 2]'(by omega) = z0 at q0
  generalize cs1[m * 2 + 1]'(by omega) = z1 at q1
  clear hW1 k1 k2 o1 hlen1 hA hwr hp0 hp2 hp3
  have hclr := run_clear_one (P := Try.prog) W1 44 37 0 _ (.int .i64 0) (.slice none 0 0) Try.underlying44 zero_parcel rfl rfl rfl r (m * 2) (c - m) (fun j hj => by rw [K1.out.cell, Array.getElem?_eq_getElem (by rw [HL1.out]; omega)]; rfl) (fun j _ => K1.out.frozen _)
  clear q0 q1 f0 f1
  go_wp2_with fail
  go_ret
  obtain ⟨cs2, k3, k4⟩ := setCells_blk [.int .i64 0, .slice none 0 0] (m * 2) W1 cs1 K1.out (by rw [HL1.out]; simp; omega)
  have o2 := setCells_only [.int .i64 0, .slice none 0 0] (m * 2) W1 r
  have hl2 : cs2.size = c * 2 := by
    have := congrArg List.length k4
    simp only [Array.length_toList, List.length_append, List.length_take, List.length_drop, List.length_cons, List.length_nil] at this
    rw [this, HL1.out]
    omega
  refine ⟨rfl, ⟨?_, .inr ⟨r, c, cs2, rfl, hbg, k3, by omega, by unfold maxLen; omega, hl2, ?_⟩⟩, grownBy_trans (only_drew (World.grownBy.refl w _)) (grownBy_trans O1.out o2)⟩
  · rw [pcells_length, List.length_eraseIdx, if_pos (by rw [Hn.out]; omega), Hn.out]
    omega
  · rw [k4, pcells_erase]
    have hx : (pcells ps).length = (m + 1) * 2 := Hl.out
    rw [List.append_assoc, List.take_append_of_le_length (by simp [HL1.out]; omega), List.take_take, Nat.min_self, K2.out]
    have e1 : cur.toList.take (k * 2) = (pcells ps).take (k * 2) := by rw [← Ht.out, List.take_take]; congr 1; omega
    rw [e1, List.take_left' (by simp [hx]; omega)]
end Go.Proofs.Ytoiopoebjchjeaa
