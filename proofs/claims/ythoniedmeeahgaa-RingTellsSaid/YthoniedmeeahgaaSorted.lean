/-
  The reference's sorted by contract: the numbers that are there, rising, each once.
-/
import Derived.Test.YthoniedmeeahgaaHas
import Derived.Deep.RegionHeld3
import Derived.Deep.DeepMust
namespace Go.Proofs.Ythoniedmeeahgaa
open Go.RowKit Go.Maps

theorem Reads.head {w : World} {B n size : Nat} {A : Option Addr} {xs : List Value} (h : Reads w B size A n xs) {k : Nat} (hk : k ≤ n) : Reads w B size A k (xs.take (k * size)) := by
  refine ⟨by rw [List.length_take, h.1]; exact Nat.min_eq_left (Nat.mul_le_mul_right _ hk), fun hn => ?_⟩
  obtain ⟨ad, e, hb, hc⟩ := h.2 (by omega)
  refine ⟨ad, e, hb, fun j u hu => hc j u ?_⟩
  rw [List.getElem?_take] at hu
  split at hu
  · exact hu
  · cases hu
theorem below_drew {B : Nat} {a w : World} (h : Below B a w) : Below B a w.drew := ⟨h.os, h.tape, h.output, h.size, h.block⟩
theorem own_cap {w : World} {base e size n c : Nat} {A : Option Addr} {xs : List Value} (h : w.ownsRow base e size (.slice A n c) n xs) : n ≤ c ∧ c ≤ 9223372036854775807 := by
  rcases h.2 with ⟨h1, h2⟩ | ⟨g', cap, cur, hv, _, _, hnc, hcm, _⟩
  · injection h1 with _ e1 e2
    omega
  · injection hv with _ _ h3
    subst h3
    unfold maxLen at hcm
    omega
theorem iCells_length (xs : List Int) : (iCells xs).length = xs.length := by simp [iCells]
theorem iCells_one (xs : List Int) (u : Value) (h : u ∈ iCells xs) : u.oneCell' = true := by
  simp [iCells] at h
  obtain ⟨a, _, rfl⟩ := h
  rfl
theorem iCells_take (xs : List Int) (k : Nat) : (iCells xs).take (k * 1) = iCells (xs.take k) := by simp [iCells]
theorem iCells_drop (xs : List Int) (k : Nat) : (iCells xs).drop (k * 1) = iCells (xs.drop k) := by simp [iCells]
theorem int_info : (Try.prog.info? 3).map (fun i => (i.zero, i.size, i.bytes)) = some (some (.int .i64 0), 1, 8) := by kernel_rfl
/-- Rising, each once. -/
def Ris (os : List Int) : Prop := os.Pairwise (· < ·)
theorem ris_put {os : List Int} {x : Int} {k : Nat} (h : Ris os) (h1 : ∀ y ∈ os.take k, y < x) (h2 : ∀ y ∈ os.drop k, x < y) : Ris (os.take k ++ [x] ++ os.drop k) := by
  unfold Ris at h ⊢
  rw [← List.take_append_drop k os, List.pairwise_append] at h
  rw [List.append_assoc, List.pairwise_append]
  refine ⟨h.1, ?_, fun a ha b hb => ?_⟩
  · simp only [List.singleton_append, List.pairwise_cons]
    exact ⟨h2, h.2.1⟩
  · simp at hb
    rcases hb with rfl | hb
    · exact h1 a ha
    · exact h.2.2 a ha b hb
theorem ris_below {os : List Int} (h : Ris os) {k : Nat} (hk : k ≤ os.length) {x : Int} (hx : ∀ hk' : k - 1 < os.length, 0 < k → os[k - 1] < x) : ∀ y ∈ os.take k, y < x := by
  intro y hy
  obtain ⟨i, hi, rfl⟩ := List.getElem_of_mem hy
  rw [List.length_take] at hi
  rw [List.getElem_take]
  have h1 := hx (by omega) (by omega)
  by_cases e : i = k - 1
  · subst e
    exact h1
  · have := List.pairwise_iff_getElem.1 h i (k - 1) (by omega) (by omega) (by omega)
    omega
theorem mem_put {os : List Int} {x y : Int} {k : Nat} : y ∈ os.take k ++ [x] ++ os.drop k ↔ y ∈ os ∨ y = x := by
  have : y ∈ os ↔ y ∈ os.take k ∨ y ∈ os.drop k := by rw [← List.mem_append, List.take_append_drop]
  rw [this]
  simp only [List.mem_append, List.mem_singleton]
  constructor
  · rintro ((h | h) | h)
    · exact .inl (.inl h)
    · exact .inr h
    · exact .inl (.inr h)
  · rintro ((h | h) | h)
    · exact .inl (.inl h)
    · exact .inr h
    · exact .inl (.inr h)
def SoRel (w : World) (xs : List Int) (out i : Value) (wr : World) : Prop :=
  ∃ (j : Nat) (A : Option Addr) (c : Nat) (os : List Int), j ≤ xs.length ∧ i = .int .i64 j ∧ out = .slice A os.length c ∧ wr.ownsRow w.heap.size 3 1 out os.length (iCells os) ∧ Ris os ∧ (∀ y, y ∈ os ↔ y ∈ xs.take j) ∧ os.length ≤ j ∧ Below w.heap.size w wr
def SoIn (w : World) (os : List Int) (x : Int) (i : Value) (wr : World) : Prop :=
  ∃ k : Nat, k ≤ os.length ∧ i = .int .i64 k ∧ (∀ y ∈ os.drop k, x < y) ∧ Below w.heap.size w wr

set_option maxRecDepth 100000 in
set_option maxHeartbeats 8000000 in
theorem refsorted_any (xs : List Int) (A : Option Addr) (c : Nat) (w : World) (ha : Reads w w.heap.size 1 A xs.length (iCells xs)) (hmax : xs.length ≤ 1000000) :
    Calls Try.prog 21 #[.slice A xs.length c] w fun e w' => ∃ v os, e = .returned v ∧ w'.ownsRow w.heap.size 3 1 v os.length (iCells os) ∧ Ris os ∧ (∀ y, y ∈ os ↔ y ∈ xs) ∧ os.length ≤ xs.length ∧ Below w.heap.size w w' := by
  have HA := Lib.hid (reads_int ha)
  clear ha
  obtain ⟨i0, hi0, hz0, hz1, hz2⟩ := info_parts int_info
  go_enter Try.func21, Try.ntmps21
  go_wp2_with fail
  go_loopw [3, 4] (fun out i wr => SoRel w xs out i wr) (fun _ i _ => xs.length - (intOf i).toNat)
  case atStart => exact ⟨0, none, 0, [], Nat.zero_le _, rfl, rfl, World.ownsRow_nil _ _ _ _, List.Pairwise.nil, by simp, by simp, Below.refl _ _⟩
  case round =>
    obtain ⟨j, A1, c1, os, hj, rfl, rfl, hown, hris, hmem, hlen, hb⟩ := hrel
    by_cases hlt : j < xs.length
    · obtain ⟨b, o, rfl, hbo, hc⟩ := HA.out (by omega) -- ARM round
      have hsz := Nat.lt_of_lt_of_le hbo hb.size
      have a0 := (hb.cell (p := ⟨b, o + j, none⟩) hbo).trans (hc j hlt)
      have htk : xs.take (j + 1) = xs.take j ++ [xs[j]] := List.take_succ_eq_append_getElem hlt
      have hji : (j : Int) < (xs.length : Int) := by omega
      have hj0 : (0 : Int) ≤ (j : Int) := Int.natCast_nonneg _
      have hol : os.length ≤ 1000000 := by omega
      clear hc
      generalize xs[j] = x at a0 htk
      have HO := Lib.hid hown
      have HRD := Lib.hid (Reads.of_own hown)
      have HRI := Lib.hid hris
      have HB := Lib.hid hb
      have HM := Lib.hid (fun y => by
        have := hmem y
        rw [htk]
        simp only [List.mem_append, List.mem_singleton]
        rw [← this] : ∀ y, y ∈ xs.take (j + 1) ↔ y ∈ os ∨ y = x)
      clear hown hris hmem hb htk
      go_wp2_with fail
      refine (has_any os A1 c1 x _ HRD.out (by omega)).mono ?_
      rintro e w1 ⟨rfl, rfl⟩
      by_cases hin : x ∈ os
      · have HI := Lib.hid hin -- ARM seen
        rw [decide_eq_true hin]
        clear hin
        go_wp2_with fail
        go_roundw
        case rel => exact ⟨j + 1, A1, c1, os, by omega, by go_num, rfl, HO.out, HRI.out, fun y => by rw [HM.out]; exact ⟨fun h => .inl h, fun h => h.elim id (fun e => e ▸ HI.out)⟩, by omega, HB.out⟩
        case measure => simp [intOf]; omega
      · have HI := Lib.hid hin -- ARM put
        rw [decide_eq_false hin]
        clear hin
        go_wp2_with fail
        go_loopw [5] (fun i wr => SoIn w1 os x i wr) (fun i _ => (intOf i).toNat)
        case atStart => exact ⟨os.length, Nat.le_refl _, rfl, by simp, Below.refl _ _⟩
        case round =>
          obtain ⟨k, hk, rfl, hdr, hb1⟩ := hrel
          have hk0 : (0 : Int) ≤ (k : Int) := Int.natCast_nonneg _
          have hsz1 := Nat.lt_of_lt_of_le hsz hb1.size
          have a1 := (hb1.cell (p := ⟨b, o + j, none⟩) hsz).trans a0
          by_cases hgo : ∃ h : 0 < k, x < os[k - 1]'(by omega)
          · obtain ⟨hk1, hgo⟩ := hgo -- ARM shift
            obtain ⟨r, p, rfl, hrb, hrc⟩ := reads_int HRD.out (by omega)
            have r0 := (hb1.cell (p := ⟨r, p + (k - 1), none⟩) hrb).trans (hrc (k - 1) (by omega))
            have hrs := Nat.lt_of_lt_of_le hrb hb1.size
            have d1 : decide (0 < (k : Int)) = true := decide_eq_true (by omega)
            have hdrop : os.drop (k - 1) = os[k - 1]'(by omega) :: os.drop k := by
              have := List.drop_eq_getElem_cons (l := os) (i := k - 1) (by omega)
              rw [this, show k - 1 + 1 = k by omega]
            generalize os[k - 1]'(by omega) = y at hgo r0 hdrop
            have d2 : decide (x < y) = true := decide_eq_true hgo
            have HD := Lib.hid (show ∀ z ∈ os.drop (k - 1), x < z by
              rw [hdrop]
              intro z hz
              rcases List.mem_cons.1 hz with rfl | hz
              · exact hgo
              · exact hdr z hz)
            have HB1 := Lib.hid hb1
            clear hrc hdrop hgo hdr hb1
            have ek : IntKind.i64.wrap ((k : Int) - 1) = ((k - 1 : Nat) : Int) := by rw [IntKind.wrap_i64]; omega
            have hk2 : ((k - 1 : Nat) : Int) < (os.length : Int) := by omega
            have hk3 : (0 : Int) ≤ ((k - 1 : Nat) : Int) := Int.natCast_nonneg _
            have ek2 : (((k - 1 : Nat) : Int)).toNat = k - 1 := Int.toNat_natCast _
            go_wp2_with fail
            go_quiet (fail)
            go_wp2_with fail
            go_roundw
            case rel => exact ⟨k - 1, by omega, by first | rfl | (rw [← ek]), HD.out, below_drewN HB1.out _⟩
            case measure => first | (simp [intOf]; omega) | (rw [← ek]; simp [intOf]; omega)
          · have hlow := ris_below HRI.out hk (x := x) (fun h1 h2 => by -- ARM ends
              have h3 : ¬ x < os[k - 1] := fun h => hgo ⟨h2, h⟩
              have h4 : os[k - 1] ≠ x := fun e => HI.out (e ▸ List.getElem_mem _)
              omega)
            have HL := Lib.hid hlow
            have HD := Lib.hid hdr
            have HB1 := Lib.hid hb1
            clear hlow
            by_cases hk1 : 0 < k
            · have hgo' : ¬ x < os[k - 1]'(by omega) := fun h => hgo ⟨hk1, h⟩ -- ARM endC
              clear hgo
              obtain ⟨r, p, hA1, hrb, hrc⟩ := reads_int HRD.out (by omega)
              have r0 := (hb1.cell (p := ⟨r, p + (k - 1), none⟩) hrb).trans (hrc (k - 1) (by omega))
              have hrs := Nat.lt_of_lt_of_le hrb hb1.size
              have d1 : decide (0 < (k : Int)) = true := decide_eq_true (by omega)
              generalize os[k - 1]'(by omega) = y at hgo' r0
              have d2 : decide (x < y) = false := decide_eq_false hgo'
              clear hrc hgo' hdr hb1
              have ek : IntKind.i64.wrap ((k : Int) - 1) = ((k - 1 : Nat) : Int) := by rw [IntKind.wrap_i64]; omega
              have hk2 : ((k - 1 : Nat) : Int) < (os.length : Int) := by omega
              have hk3 : (0 : Int) ≤ ((k - 1 : Nat) : Int) := Int.natCast_nonneg _
              have ek2 : (((k - 1 : Nat) : Int)).toNat = k - 1 := Int.toNat_natCast _
              subst hA1
              go_wp2_with fail
              go_quiet (fail)
              clear r0 d1 d2 ek hk2 hk3 ek2 hrs
              obtain ⟨A1, hA1⟩ : ∃ A1, A1 = some (⟨r, p, none⟩ : Addr) := ⟨_, rfl⟩
              rw [← hA1] at HO HRD ⊢
              clear hA1
              obtain ⟨W, hW⟩ : ∃ W, W = wr.drewN nq := ⟨_, rfl⟩
              rw [← hW]
              have bW : Below w1.heap.size w1 W := by rw [hW]; exact below_drewN HB1.out _
              have aW := (bW.cell (p := ⟨b, o + j, none⟩) hsz).trans a0
              have hszW := Nat.lt_of_lt_of_le hsz bW.size
              have hcap := own_cap HO.out
              have hr1 := ((HRD.out.below bW).more bW.size).head (k := k) hk
              have hr2 := ((HRD.out.below bW).more bW.size).cut (k := k) (cap := c1) hk hcap.1
              rw [iCells_take] at hr1
              rw [iCells_drop] at hr2
              have HR1 := Lib.hid hr1
              have HBW := Lib.hid bW
              have hp1 : (k : Int) ≤ (c1 : Int) := by omega
              have hp2 : (k : Int) ≤ (os.length : Int) := by omega
              have hp3 : (os.length : Int) ≤ (c1 : Int) := by omega
              have hc1m := hcap.2
              have hSS : W.drew.cell? ⟨b, o + j, none⟩ = some (.int .i64 x) := aW
              obtain ⟨A2, hA2⟩ : ∃ A2, (if c1 = k then A1 else A1.map (·.add k)) = A2 := ⟨_, rfl⟩
              rw [Nat.mul_one, hA2] at hr2
              have HR2 := Lib.hid hr2
              clear hW hr1 hr2 bW hcap a0 a1 hsz1
              go_wp2_with fail
              go_region_held3 (fun w' => w'.cell? ⟨b, o + j, none⟩ = some (.int .i64 x)) (first | exact s4 | exact s3 | exact s2 | go_keep) (first
                | (refine step_append_any _ rfl (.tmp 36) (.tmp 39) 29 rfl W.heap.size 3 i0 _ 1 8 Try.underlying29 hi0 hz0 hz1 hz2 rfl (by omega) (.slice (some ⟨W.heap.size, 0, none⟩) 0 0) (0) ([]) (by simp [Act.eval, Act.put]) (World.ownsRow_made (base := W.heap.size) (e := 3) (size := 1) W #[] 0 (Nat.le_refl _) (by decide) rfl).drew W.heap.size (A1) (k) (c1) (iCells (os.take k)) (by simp [Act.eval, Act.put]) (HR1.out.alloc (Nat.le_refl _) (.cells #[] 3)).drew (iCells_one _) (by simp only [maxLen]; omega) (by omega) (by first | exact Nat.le_refl _ | exact bw3.size | exact bw2.size | (simp; done) | (simp; omega) | (have := bw2.size; simp; omega)) ?_; intro v2 w2 hown2 hg2 hat2; obtain ⟨A12, c12, rfl⟩ := own_shape hown2; have bw2 : Below W.heap.size W w2 := Below.grown (below_drew ((Below.refl W.heap.size W).alloc (Nat.le_refl _) (.cells #[] 3))) hg2 (by first | (simp; done) | (simp; omega)) (fun j hj => by simp [Value.ownBlock] at hj; omega); have s2 := (bw2.cell (p := ⟨b, o + j, none⟩) hszW).trans aW)
                | (refine step_append_any _ rfl (.tmp 36) (.tmp 39) 29 rfl W.heap.size 3 i0 _ 1 8 Try.underlying29 hi0 hz0 hz1 hz2 rfl (by omega) (.slice (some ⟨W.heap.size, 0, none⟩) 0 0) (0) ([]) (by simp [Act.eval, Act.put]) (((World.ownsRow_made (base := W.heap.size) (e := 3) (size := 1) W #[] 0 (Nat.le_refl _) (by decide) rfl).alloc (.cells #[.int .i64 x] 3)).drew) W.heap.size (A1) (k) (c1) (iCells (os.take k)) (by simp [Act.eval, Act.put]) ((HR1.out.alloc (Nat.le_refl _) (.cells #[] 3)).alloc (by simp) (.cells #[.int .i64 x] 3)).drew (iCells_one _) (by simp only [maxLen]; omega) (by omega) (by first | exact Nat.le_refl _ | exact bw3.size | exact bw2.size | (simp; done) | (simp; omega) | (have := bw2.size; simp; omega)) ?_; intro v2 w2 hown2 hg2 hat2; obtain ⟨A12, c12, rfl⟩ := own_shape hown2; have bw2 : Below W.heap.size W w2 := Below.grown (below_drew (((Below.refl W.heap.size W).alloc (Nat.le_refl _) (.cells #[] 3)).alloc (by simp) (.cells #[.int .i64 x] 3))) hg2 (by first | (simp; done) | (simp; omega)) (fun j hj => by simp [Value.ownBlock] at hj; omega); have s2 := (bw2.cell (p := ⟨b, o + j, none⟩) hszW).trans aW)
                | (refine step_append_any _ rfl (.tmp 36) (.tmp 39) 29 rfl W.heap.size 3 i0 _ 1 8 Try.underlying29 hi0 hz0 hz1 hz2 rfl (by omega) (.slice (some ⟨W.heap.size + 1, 0, none⟩) 0 0) (0) ([]) (by simp [Act.eval, Act.put]) (by have := (World.ownsRow_made (base := W.heap.size) (e := 3) (size := 1) (W.alloc (.cells #[.int .i64 x] 3)) #[] 0 (by simp) (by decide) rfl).drew; simp only [World.size_alloc] at this; exact this) W.heap.size (A1) (k) (c1) (iCells (os.take k)) (by simp [Act.eval, Act.put]) ((HR1.out.alloc (Nat.le_refl _) (.cells #[.int .i64 x] 3)).alloc (by simp) (.cells #[] 3)).drew (iCells_one _) (by simp only [maxLen]; omega) (by omega) (by first | exact Nat.le_refl _ | exact bw3.size | exact bw2.size | (simp; done) | (simp; omega) | (have := bw2.size; simp; omega)) ?_; intro v2 w2 hown2 hg2 hat2; obtain ⟨A12, c12, rfl⟩ := own_shape hown2; have bw2 : Below W.heap.size W w2 := Below.grown (below_drew (((Below.refl W.heap.size W).alloc (Nat.le_refl _) (.cells #[.int .i64 x] 3)).alloc (by simp) (.cells #[] 3))) hg2 (by first | (simp; done) | (simp; omega)) (fun j hj => by simp [Value.ownBlock] at hj; omega); have s2 := (bw2.cell (p := ⟨b, o + j, none⟩) hszW).trans aW)
                | (refine step_append_any _ rfl (.tmp 40) (.tmp 45) 29 rfl W.heap.size 3 i0 _ 1 8 Try.underlying29 hi0 hz0 hz1 hz2 rfl (by omega) (.slice A12 (0 + k) c12) (0 + k) ([] ++ iCells (os.take k)) (by simp [Act.eval, Act.put]) (hown2.alloc (.cells #[.int .i64 x] 3)) (w2.heap.size + 1) (some ⟨w2.heap.size, 0, none⟩) (1) (1) (iCells [x]) (by simp [Act.eval, Act.put]) (reads_one w2 3 (.int .i64 x)) (iCells_one _) (by simp only [maxLen]; omega) (by omega) (by first | exact Nat.le_refl _ | exact bw3.size | exact bw2.size | (simp; done) | (simp; omega) | (have := bw2.size; simp; omega)) ?_; intro v3 w3 hown3 hg3 hat3; obtain ⟨A13, c13, rfl⟩ := own_shape hown3; have bw3 : Below W.heap.size W w3 := Below.grown (bw2.alloc bw2.size (.cells #[.int .i64 x] 3)) hg3 (by have := bw2.size; simp; omega) (fun j hj => (own_block hown2 hj).1); have s3 := (bw3.cell (p := ⟨b, o + j, none⟩) hszW).trans aW)
                | (refine step_append_any _ rfl (.tmp 40) (.tmp 45) 29 rfl W.heap.size 3 i0 _ 1 8 Try.underlying29 hi0 hz0 hz1 hz2 rfl (by omega) (.slice A12 (0 + k) c12) (0 + k) ([] ++ iCells (os.take k)) (by simp [Act.eval, Act.put]) hown2 (W.heap.size + 2) (some ⟨W.heap.size + 1, 0, none⟩) (1) (1) (iCells [x]) (by simp [Act.eval, Act.put]) (((by have := reads_one (W.alloc (.cells #[] 3)) 3 (.int .i64 x); simpa using this : Reads ((W.alloc (.cells #[] 3)).alloc (.cells #[.int .i64 x] 3)) (W.heap.size + 2) 1 (some ⟨W.heap.size + 1, 0, none⟩) 1 [.int .i64 x]).drew).only (fun _ ad h => by injection h with h; subst h; simp) (g := W.heap.size) hg2 (by simp)) (iCells_one _) (by simp only [maxLen]; omega) (by omega) (by first | exact Nat.le_refl _ | exact bw3.size | exact bw2.size | (simp; done) | (simp; omega) | (have := bw2.size; simp; omega)) ?_; intro v3 w3 hown3 hg3 hat3; obtain ⟨A13, c13, rfl⟩ := own_shape hown3; have bw3 : Below W.heap.size W w3 := Below.grown bw2 hg3 bw2.size (fun j hj => (own_block hown2 hj).1); have s3 := (bw3.cell (p := ⟨b, o + j, none⟩) hszW).trans aW)
                | (refine step_append_any _ rfl (.tmp 40) (.tmp 45) 29 rfl W.heap.size 3 i0 _ 1 8 Try.underlying29 hi0 hz0 hz1 hz2 rfl (by omega) (.slice A12 (0 + k) c12) (0 + k) ([] ++ iCells (os.take k)) (by simp [Act.eval, Act.put]) hown2 (W.heap.size + 1) (some ⟨W.heap.size, 0, none⟩) (1) (1) (iCells [x]) (by simp [Act.eval, Act.put]) ((((reads_one W 3 (.int .i64 x)).alloc (by simp) (.cells #[] 3)).drew).only (fun _ ad h => by injection h with h; subst h; simp) (g := W.heap.size + 1) hg2 (by simp)) (iCells_one _) (by simp only [maxLen]; omega) (by omega) (by first | exact Nat.le_refl _ | exact bw3.size | exact bw2.size | (simp; done) | (simp; omega) | (have := bw2.size; simp; omega)) ?_; intro v3 w3 hown3 hg3 hat3; obtain ⟨A13, c13, rfl⟩ := own_shape hown3; have bw3 : Below W.heap.size W w3 := Below.grown bw2 hg3 bw2.size (fun j hj => (own_block hown2 hj).1); have s3 := (bw3.cell (p := ⟨b, o + j, none⟩) hszW).trans aW)
                | (refine step_append_any _ rfl (.tmp 46) (.tmp 49) 29 rfl W.heap.size 3 i0 _ 1 8 Try.underlying29 hi0 hz0 hz1 hz2 rfl (by omega) (.slice A13 (0 + k + 1) c13) (0 + k + 1) ([] ++ iCells (os.take k) ++ iCells [x]) (by simp [Act.eval, Act.put]) hown3 W.heap.size (A2) (os.length - k) (c1 - k) (iCells (os.drop k)) (by simp [Act.eval, Act.put, hA2]) (HR2.out.below bw3) (iCells_one _) (by simp only [maxLen]; omega) (by omega) (by first | exact Nat.le_refl _ | exact bw3.size | exact bw2.size | (simp; done) | (simp; omega) | (have := bw2.size; simp; omega)) ?_; intro v4 w4 hown4 hg4 hat4; obtain ⟨A14, c14, rfl⟩ := own_shape hown4; have bw4 : Below W.heap.size W w4 := Below.grown bw3 hg4 bw3.size (fun j hj => (own_block hown3 hj).1); have s4 := (bw4.cell (p := ⟨b, o + j, none⟩) hszW).trans aW))
              all_goals
                have e5 : k + 1 + (os.length - k) = (os.take k ++ [x] ++ os.drop k).length := by simp; omega
                have e6 : [] ++ iCells (os.take k) ++ iCells [x] ++ iCells (os.drop k) = iCells (os.take k ++ [x] ++ os.drop k) := by simp [iCells]
                rw [Nat.zero_add, e5, e6] at hown4
                rw [e5]
                have hris2 := Lib.hid (ris_put HRI.out HL.out HD.out)
                have hmem2 := Lib.hid (fun y => by rw [HM.out]; exact mem_put.symm : ∀ y, y ∈ xs.take (j + 1) ↔ y ∈ os.take k ++ [x] ++ os.drop k)
                have hlen2 : (os.take k ++ [x] ++ os.drop k).length ≤ j + 1 := by rw [← e5]; omega
                have hbw := HBW.out
                have hsW : w.heap.size ≤ W.heap.size := Nat.le_trans HB.out.size hbw.size
                have HO4 := Lib.hid (own_mono hown4 hsW)
                have HB4 := Lib.hid ((HB.out.trans (hbw.mono HB.out.size)).trans (bw4.mono hsW))
                generalize os.take k ++ [x] ++ os.drop k = os2 at hris2 hmem2 hlen2 HO4 ⊢
                clear hown2 hown3 hown4 hg2 hg3 hg4 hat2 hat3 hat4 bw2 bw3 bw4 s2 s3 s4 e5 e6 hSS aW HR1 HR2 hbw HBW
                go_wp2_with fail
                go_roundw
                case rel => exact ⟨j + 1, A14, c14, os2, by omega, by go_num, rfl, HO4.out, hris2.out, fun y => (hmem2.out y).symm, hlen2, HB4.out⟩
                case measure => simp [intOf]; omega
            · have d1 : decide (0 < (k : Int)) = false := decide_eq_false (by omega) -- ARM endB
              clear hgo hdr hb1
              go_wp2_with fail
              go_quiet (fail)
              obtain ⟨W, hW⟩ : ∃ W, W = wr.drewN nq := ⟨_, rfl⟩
              rw [← hW]
              have bW : Below w1.heap.size w1 W := by rw [hW]; exact below_drewN HB1.out _
              have aW := (bW.cell (p := ⟨b, o + j, none⟩) hsz).trans a0
              have hszW := Nat.lt_of_lt_of_le hsz bW.size
              have hcap := own_cap HO.out
              have hr1 := ((HRD.out.below bW).more bW.size).head (k := k) hk
              have hr2 := ((HRD.out.below bW).more bW.size).cut (k := k) (cap := c1) hk hcap.1
              rw [iCells_take] at hr1
              rw [iCells_drop] at hr2
              have HR1 := Lib.hid hr1
              have HBW := Lib.hid bW
              have hp1 : (k : Int) ≤ (c1 : Int) := by omega
              have hp2 : (k : Int) ≤ (os.length : Int) := by omega
              have hp3 : (os.length : Int) ≤ (c1 : Int) := by omega
              have hc1m := hcap.2
              have hSS : W.drew.cell? ⟨b, o + j, none⟩ = some (.int .i64 x) := aW
              obtain ⟨A2, hA2⟩ : ∃ A2, (if c1 = k then A1 else A1.map (·.add k)) = A2 := ⟨_, rfl⟩
              rw [Nat.mul_one, hA2] at hr2
              have HR2 := Lib.hid hr2
              clear hW hr1 hr2 bW hcap a0 a1 hsz1
              go_wp2_with fail
              go_region_held3 (fun w' => w'.cell? ⟨b, o + j, none⟩ = some (.int .i64 x)) (first | exact s4 | exact s3 | exact s2 | go_keep) (first
                | (refine step_append_any _ rfl (.tmp 36) (.tmp 39) 29 rfl W.heap.size 3 i0 _ 1 8 Try.underlying29 hi0 hz0 hz1 hz2 rfl (by omega) (.slice (some ⟨W.heap.size, 0, none⟩) 0 0) (0) ([]) (by simp [Act.eval, Act.put]) (World.ownsRow_made (base := W.heap.size) (e := 3) (size := 1) W #[] 0 (Nat.le_refl _) (by decide) rfl).drew W.heap.size (A1) (k) (c1) (iCells (os.take k)) (by simp [Act.eval, Act.put]) (HR1.out.alloc (Nat.le_refl _) (.cells #[] 3)).drew (iCells_one _) (by simp only [maxLen]; omega) (by omega) (by first | exact Nat.le_refl _ | exact bw3.size | exact bw2.size | (simp; done) | (simp; omega) | (have := bw2.size; simp; omega)) ?_; intro v2 w2 hown2 hg2 hat2; obtain ⟨A12, c12, rfl⟩ := own_shape hown2; have bw2 : Below W.heap.size W w2 := Below.grown (below_drew ((Below.refl W.heap.size W).alloc (Nat.le_refl _) (.cells #[] 3))) hg2 (by first | (simp; done) | (simp; omega)) (fun j hj => by simp [Value.ownBlock] at hj; omega); have s2 := (bw2.cell (p := ⟨b, o + j, none⟩) hszW).trans aW)
                | (refine step_append_any _ rfl (.tmp 36) (.tmp 39) 29 rfl W.heap.size 3 i0 _ 1 8 Try.underlying29 hi0 hz0 hz1 hz2 rfl (by omega) (.slice (some ⟨W.heap.size, 0, none⟩) 0 0) (0) ([]) (by simp [Act.eval, Act.put]) (((World.ownsRow_made (base := W.heap.size) (e := 3) (size := 1) W #[] 0 (Nat.le_refl _) (by decide) rfl).alloc (.cells #[.int .i64 x] 3)).drew) W.heap.size (A1) (k) (c1) (iCells (os.take k)) (by simp [Act.eval, Act.put]) ((HR1.out.alloc (Nat.le_refl _) (.cells #[] 3)).alloc (by simp) (.cells #[.int .i64 x] 3)).drew (iCells_one _) (by simp only [maxLen]; omega) (by omega) (by first | exact Nat.le_refl _ | exact bw3.size | exact bw2.size | (simp; done) | (simp; omega) | (have := bw2.size; simp; omega)) ?_; intro v2 w2 hown2 hg2 hat2; obtain ⟨A12, c12, rfl⟩ := own_shape hown2; have bw2 : Below W.heap.size W w2 := Below.grown (below_drew (((Below.refl W.heap.size W).alloc (Nat.le_refl _) (.cells #[] 3)).alloc (by simp) (.cells #[.int .i64 x] 3))) hg2 (by first | (simp; done) | (simp; omega)) (fun j hj => by simp [Value.ownBlock] at hj; omega); have s2 := (bw2.cell (p := ⟨b, o + j, none⟩) hszW).trans aW)
                | (refine step_append_any _ rfl (.tmp 36) (.tmp 39) 29 rfl W.heap.size 3 i0 _ 1 8 Try.underlying29 hi0 hz0 hz1 hz2 rfl (by omega) (.slice (some ⟨W.heap.size + 1, 0, none⟩) 0 0) (0) ([]) (by simp [Act.eval, Act.put]) (by have := (World.ownsRow_made (base := W.heap.size) (e := 3) (size := 1) (W.alloc (.cells #[.int .i64 x] 3)) #[] 0 (by simp) (by decide) rfl).drew; simp only [World.size_alloc] at this; exact this) W.heap.size (A1) (k) (c1) (iCells (os.take k)) (by simp [Act.eval, Act.put]) ((HR1.out.alloc (Nat.le_refl _) (.cells #[.int .i64 x] 3)).alloc (by simp) (.cells #[] 3)).drew (iCells_one _) (by simp only [maxLen]; omega) (by omega) (by first | exact Nat.le_refl _ | exact bw3.size | exact bw2.size | (simp; done) | (simp; omega) | (have := bw2.size; simp; omega)) ?_; intro v2 w2 hown2 hg2 hat2; obtain ⟨A12, c12, rfl⟩ := own_shape hown2; have bw2 : Below W.heap.size W w2 := Below.grown (below_drew (((Below.refl W.heap.size W).alloc (Nat.le_refl _) (.cells #[.int .i64 x] 3)).alloc (by simp) (.cells #[] 3))) hg2 (by first | (simp; done) | (simp; omega)) (fun j hj => by simp [Value.ownBlock] at hj; omega); have s2 := (bw2.cell (p := ⟨b, o + j, none⟩) hszW).trans aW)
                | (refine step_append_any _ rfl (.tmp 40) (.tmp 45) 29 rfl W.heap.size 3 i0 _ 1 8 Try.underlying29 hi0 hz0 hz1 hz2 rfl (by omega) (.slice A12 (0 + k) c12) (0 + k) ([] ++ iCells (os.take k)) (by simp [Act.eval, Act.put]) (hown2.alloc (.cells #[.int .i64 x] 3)) (w2.heap.size + 1) (some ⟨w2.heap.size, 0, none⟩) (1) (1) (iCells [x]) (by simp [Act.eval, Act.put]) (reads_one w2 3 (.int .i64 x)) (iCells_one _) (by simp only [maxLen]; omega) (by omega) (by first | exact Nat.le_refl _ | exact bw3.size | exact bw2.size | (simp; done) | (simp; omega) | (have := bw2.size; simp; omega)) ?_; intro v3 w3 hown3 hg3 hat3; obtain ⟨A13, c13, rfl⟩ := own_shape hown3; have bw3 : Below W.heap.size W w3 := Below.grown (bw2.alloc bw2.size (.cells #[.int .i64 x] 3)) hg3 (by have := bw2.size; simp; omega) (fun j hj => (own_block hown2 hj).1); have s3 := (bw3.cell (p := ⟨b, o + j, none⟩) hszW).trans aW)
                | (refine step_append_any _ rfl (.tmp 40) (.tmp 45) 29 rfl W.heap.size 3 i0 _ 1 8 Try.underlying29 hi0 hz0 hz1 hz2 rfl (by omega) (.slice A12 (0 + k) c12) (0 + k) ([] ++ iCells (os.take k)) (by simp [Act.eval, Act.put]) hown2 (W.heap.size + 2) (some ⟨W.heap.size + 1, 0, none⟩) (1) (1) (iCells [x]) (by simp [Act.eval, Act.put]) (((by have := reads_one (W.alloc (.cells #[] 3)) 3 (.int .i64 x); simpa using this : Reads ((W.alloc (.cells #[] 3)).alloc (.cells #[.int .i64 x] 3)) (W.heap.size + 2) 1 (some ⟨W.heap.size + 1, 0, none⟩) 1 [.int .i64 x]).drew).only (fun _ ad h => by injection h with h; subst h; simp) (g := W.heap.size) hg2 (by simp)) (iCells_one _) (by simp only [maxLen]; omega) (by omega) (by first | exact Nat.le_refl _ | exact bw3.size | exact bw2.size | (simp; done) | (simp; omega) | (have := bw2.size; simp; omega)) ?_; intro v3 w3 hown3 hg3 hat3; obtain ⟨A13, c13, rfl⟩ := own_shape hown3; have bw3 : Below W.heap.size W w3 := Below.grown bw2 hg3 bw2.size (fun j hj => (own_block hown2 hj).1); have s3 := (bw3.cell (p := ⟨b, o + j, none⟩) hszW).trans aW)
                | (refine step_append_any _ rfl (.tmp 40) (.tmp 45) 29 rfl W.heap.size 3 i0 _ 1 8 Try.underlying29 hi0 hz0 hz1 hz2 rfl (by omega) (.slice A12 (0 + k) c12) (0 + k) ([] ++ iCells (os.take k)) (by simp [Act.eval, Act.put]) hown2 (W.heap.size + 1) (some ⟨W.heap.size, 0, none⟩) (1) (1) (iCells [x]) (by simp [Act.eval, Act.put]) ((((reads_one W 3 (.int .i64 x)).alloc (by simp) (.cells #[] 3)).drew).only (fun _ ad h => by injection h with h; subst h; simp) (g := W.heap.size + 1) hg2 (by simp)) (iCells_one _) (by simp only [maxLen]; omega) (by omega) (by first | exact Nat.le_refl _ | exact bw3.size | exact bw2.size | (simp; done) | (simp; omega) | (have := bw2.size; simp; omega)) ?_; intro v3 w3 hown3 hg3 hat3; obtain ⟨A13, c13, rfl⟩ := own_shape hown3; have bw3 : Below W.heap.size W w3 := Below.grown bw2 hg3 bw2.size (fun j hj => (own_block hown2 hj).1); have s3 := (bw3.cell (p := ⟨b, o + j, none⟩) hszW).trans aW)
                | (refine step_append_any _ rfl (.tmp 46) (.tmp 49) 29 rfl W.heap.size 3 i0 _ 1 8 Try.underlying29 hi0 hz0 hz1 hz2 rfl (by omega) (.slice A13 (0 + k + 1) c13) (0 + k + 1) ([] ++ iCells (os.take k) ++ iCells [x]) (by simp [Act.eval, Act.put]) hown3 W.heap.size (A2) (os.length - k) (c1 - k) (iCells (os.drop k)) (by simp [Act.eval, Act.put, hA2]) (HR2.out.below bw3) (iCells_one _) (by simp only [maxLen]; omega) (by omega) (by first | exact Nat.le_refl _ | exact bw3.size | exact bw2.size | (simp; done) | (simp; omega) | (have := bw2.size; simp; omega)) ?_; intro v4 w4 hown4 hg4 hat4; obtain ⟨A14, c14, rfl⟩ := own_shape hown4; have bw4 : Below W.heap.size W w4 := Below.grown bw3 hg4 bw3.size (fun j hj => (own_block hown3 hj).1); have s4 := (bw4.cell (p := ⟨b, o + j, none⟩) hszW).trans aW))
              all_goals
                have e5 : k + 1 + (os.length - k) = (os.take k ++ [x] ++ os.drop k).length := by simp; omega
                have e6 : [] ++ iCells (os.take k) ++ iCells [x] ++ iCells (os.drop k) = iCells (os.take k ++ [x] ++ os.drop k) := by simp [iCells]
                rw [Nat.zero_add, e5, e6] at hown4
                rw [e5]
                have hris2 := Lib.hid (ris_put HRI.out HL.out HD.out)
                have hmem2 := Lib.hid (fun y => by rw [HM.out]; exact mem_put.symm : ∀ y, y ∈ xs.take (j + 1) ↔ y ∈ os.take k ++ [x] ++ os.drop k)
                have hlen2 : (os.take k ++ [x] ++ os.drop k).length ≤ j + 1 := by rw [← e5]; omega
                have hbw := HBW.out
                have hsW : w.heap.size ≤ W.heap.size := Nat.le_trans HB.out.size hbw.size
                have HO4 := Lib.hid (own_mono hown4 hsW)
                have HB4 := Lib.hid ((HB.out.trans (hbw.mono HB.out.size)).trans (bw4.mono hsW))
                generalize os.take k ++ [x] ++ os.drop k = os2 at hris2 hmem2 hlen2 HO4 ⊢
                clear hown2 hown3 hown4 hg2 hg3 hg4 hat2 hat3 hat4 bw2 bw3 bw4 s2 s3 s4 e5 e6 hSS aW HR1 HR2 hbw HBW
                go_wp2_with fail
                go_roundw
                case rel => exact ⟨j + 1, A14, c14, os2, by omega, by go_num, rfl, HO4.out, hris2.out, fun y => (hmem2.out y).symm, hlen2, HB4.out⟩
                case measure => simp [intOf]; omega
    · obtain rfl : j = xs.length := by omega -- ARM done
      rw [List.take_length] at hmem
      have HO := Lib.hid hown
      have HRI := Lib.hid hris
      have HB := Lib.hid hb
      have HM := Lib.hid hmem
      clear hown hris hmem hb
      go_wp2_with fail
      go_ret
      exact ⟨_, os, rfl, HO.out, HRI.out, HM.out, hlen, HB.out⟩
end Go.Proofs.Ythoniedmeeahgaa
