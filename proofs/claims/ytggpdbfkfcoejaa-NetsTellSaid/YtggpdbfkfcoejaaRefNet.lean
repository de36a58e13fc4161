/-
  The reference's net, Has by contract.
-/
import Derived.Test.YtggpdbfkfcoejaaGiven
import Derived.Test.YtggpdbfkfcoejaaNetOf
namespace Go.Proofs.Ytggpdbfkfcoejaa
open Go.RowKit

theorem given_ok (t : TrsD) (f u l a : Int) (hl01 : l = 0 ∨ l = 1) (w : World) (ht : t.ok w) (hmay : ∀ x ∈ t.ts, mayT x) (T : Int) (hT : tot (msOf t.ts) ⟨f, u, l, a⟩ = T) (h : T ≤ 4611686018427387904) :
    Calls Try.prog 34 #[.slice t.A t.n t.c, .int .i64 f, .int .i64 u, .int .i64 l, .int .i64 a] w fun e w' => e = .returned (.tuple #[.int .i64 T, .int .i64 0]) ∧ Below w.heap.size w w' :=
  (given_any t f u l a hl01 w ht hmay).mono fun _ _ ⟨h1, _, h3⟩ => ⟨by rw [h1 (by omega), hT], h3⟩
theorem given_no (t : TrsD) (f u l a : Int) (hl01 : l = 0 ∨ l = 1) (w : World) (ht : t.ok w) (hmay : ∀ x ∈ t.ts, mayT x) (h : 4611686018427387904 < tot (msOf t.ts) ⟨f, u, l, a⟩) :
    Calls Try.prog 34 #[.slice t.A t.n t.c, .int .i64 f, .int .i64 u, .int .i64 l, .int .i64 a] w fun e w' => e = .returned (.tuple #[.int .i64 0, .int .i64 1]) ∧ Below w.heap.size w w' :=
  (given_any t f u l a hl01 w ht hmay).mono fun e w' ⟨_, h2, h3⟩ => ⟨h2 h, h3⟩
/-- The net of two. -/
def netAt (T : KeyD → Int) (k : KeyD) : NetD := if T k.back ≤ T k then netOf T k else netOf T k.back

set_option maxRecDepth 100000 in
set_option maxHeartbeats 4000000 in
theorem net_ok (t : TrsD) (k : KeyD) (hl01 : k.l = 0 ∨ k.l = 1) (w : World) (ht : t.ok w) (hmay : ∀ x ∈ t.ts, mayT x) (h1 : tot (msOf t.ts) k ≤ 4611686018427387904) (h2 : tot (msOf t.ts) k.back ≤ 4611686018427387904) :
    Calls Try.prog 24 #[.slice t.A t.n t.c, .int .i64 k.f, .int .i64 k.t, .int .i64 k.l, .int .i64 k.a] w fun e w' => e = .returned (.tuple #[.agg #[.int .i64 (netAt (tot (msOf t.ts)) k).f, .int .i64 (netAt (tot (msOf t.ts)) k).t, .int .i64 (netAt (tot (msOf t.ts)) k).l, .int .i64 (netAt (tot (msOf t.ts)) k).a, .int .i64 (netAt (tot (msOf t.ts)) k).n], .int .i64 0]) ∧ Below w.heap.size w w' := by
  obtain ⟨f, u, l, a⟩ := k
  simp only [KeyD.back] at hl01 h1 h2 ⊢
  have hn1 := tot_nonneg (may_nonneg hmay) ⟨f, u, l, a⟩
  have hn2 := tot_nonneg (may_nonneg hmay) ⟨u, f, l, a⟩
  have g1 := fun w' h => given_ok t f u l a hl01 w' h hmay _ rfl h1
  have g2 := fun w' h => given_ok t u f l a hl01 w' h hmay _ rfl h2
  have eN : netAt (tot (msOf t.ts)) ⟨f, u, l, a⟩ = if tot (msOf t.ts) ⟨u, f, l, a⟩ ≤ tot (msOf t.ts) ⟨f, u, l, a⟩ then ⟨f, u, l, a, tot (msOf t.ts) ⟨f, u, l, a⟩ - tot (msOf t.ts) ⟨u, f, l, a⟩⟩ else ⟨u, f, l, a, tot (msOf t.ts) ⟨u, f, l, a⟩ - tot (msOf t.ts) ⟨f, u, l, a⟩⟩ := rfl
  rw [eN]
  generalize tot (msOf t.ts) ⟨f, u, l, a⟩ = X at h1 hn1 g1 eN ⊢
  generalize tot (msOf t.ts) ⟨u, f, l, a⟩ = Y at h2 hn2 g2 eN ⊢
  clear eN
  have HT := Lib.hid ht
  have G1 := Lib.hid g1
  have G2 := Lib.hid g2
  clear ht hmay g1 g2 hl01
  by_cases hxy : Y ≤ X
  · rw [if_pos hxy]
    have d3 : decide (Y ≤ X) = true := decide_eq_true hxy
    have ew : IntKind.i64.wrap (X - Y) = X - Y := by rw [IntKind.wrap_i64]; omega
    clear h1 h2 hn1 hn2 hxy
    go_enter Try.func24, Try.ntmps24
    go_wp2_with fail
    have b1 := (Below.refl w.heap.size w).alloc (Nat.le_refl _) (.cells #[.int .i64 0, .int .i64 0, .int .i64 0, .int .i64 0, .int .i64 0] 34)
    refine (G1.out _ (HT.out.below b1)).mono ?_
    rintro e w1 ⟨rfl, hb1⟩
    have k1 := (Blk.new w 34 #[.int .i64 0, .int .i64 0, .int .i64 0, .int .i64 0, .int .i64 0]).below hb1 (by simp)
    have B1 := b1.trans (hb1.mono b1.size)
    go_wp2_with fail
    refine (G2.out _ (HT.out.below B1)).mono ?_
    rintro e w2 ⟨rfl, hb2⟩
    have k2 := k1.below hb2 k1.lt
    have B2 := B1.trans (hb2.mono B1.size)
    obtain ⟨⟨c0, c1, c2, c3, c4⟩, f0, f1, f2, f3, f4⟩ := Blk.five k2
    have K2 := Lib.hid k2
    have HB2 := Lib.hid B2
    clear b1 k1 B1 hb1 hb2 k2 B2 HT G1 G2
    go_wp2_with fail
    refine bodyPost_ret (results_row_tmp Try.results24 _ _ w.heap.size _ _ _ rfl (set5_blk K2.out (.int .i64 f) (.int .i64 u) (.int .i64 l) (.int .i64 a) (.int .i64 (X - Y))) Try.underlying34 rfl (by kernel_rfl)) rfl ?_
    exact ⟨rfl, HB2.out.grown (set5_only _ _ _ _ _ _ _) HB2.out.size (fun j hj => by injection hj with hj; omega)⟩
  · rw [if_neg hxy]
    have d3 : decide (Y ≤ X) = false := decide_eq_false hxy
    have ew : IntKind.i64.wrap (Y - X) = Y - X := by rw [IntKind.wrap_i64]; omega
    clear h1 h2 hn1 hn2 hxy
    go_enter Try.func24, Try.ntmps24
    go_wp2_with fail
    have b1 := (Below.refl w.heap.size w).alloc (Nat.le_refl _) (.cells #[.int .i64 0, .int .i64 0, .int .i64 0, .int .i64 0, .int .i64 0] 34)
    refine (G1.out _ (HT.out.below b1)).mono ?_
    rintro e w1 ⟨rfl, hb1⟩
    have k1 := (Blk.new w 34 #[.int .i64 0, .int .i64 0, .int .i64 0, .int .i64 0, .int .i64 0]).below hb1 (by simp)
    have B1 := b1.trans (hb1.mono b1.size)
    go_wp2_with fail
    refine (G2.out _ (HT.out.below B1)).mono ?_
    rintro e w2 ⟨rfl, hb2⟩
    have k2 := k1.below hb2 k1.lt
    have B2 := B1.trans (hb2.mono B1.size)
    obtain ⟨⟨c0, c1, c2, c3, c4⟩, f0, f1, f2, f3, f4⟩ := Blk.five k2
    have K2 := Lib.hid k2
    have HB2 := Lib.hid B2
    clear b1 k1 B1 hb1 hb2 k2 B2 HT G1 G2
    go_wp2_with fail
    refine bodyPost_ret (results_row_tmp Try.results24 _ _ w.heap.size _ _ _ rfl (set5_blk K2.out (.int .i64 u) (.int .i64 f) (.int .i64 l) (.int .i64 a) (.int .i64 (Y - X))) Try.underlying34 rfl (by kernel_rfl)) rfl ?_
    exact ⟨rfl, HB2.out.grown (set5_only _ _ _ _ _ _ _) HB2.out.size (fun j hj => by injection hj with hj; omega)⟩

set_option maxRecDepth 100000 in
set_option maxHeartbeats 4000000 in
theorem net_no (t : TrsD) (k : KeyD) (hl01 : k.l = 0 ∨ k.l = 1) (w : World) (ht : t.ok w) (hmay : ∀ x ∈ t.ts, mayT x) (hno : 4611686018427387904 < tot (msOf t.ts) k ∨ 4611686018427387904 < tot (msOf t.ts) k.back) :
    Calls Try.prog 24 #[.slice t.A t.n t.c, .int .i64 k.f, .int .i64 k.t, .int .i64 k.l, .int .i64 k.a] w fun e w' => e = .returned (.tuple #[.agg #[.int .i64 0, .int .i64 0, .int .i64 0, .int .i64 0, .int .i64 0], .int .i64 1]) ∧ Below w.heap.size w w' := by
  obtain ⟨f, u, l, a⟩ := k
  simp only [KeyD.back] at hl01 hno ⊢
  have g1 : ∃ X E : Int, (4611686018427387904 < tot (msOf t.ts) ⟨f, u, l, a⟩ → E = 1) ∧ (E = 0 ∨ E = 1) ∧ ∀ w', t.ok w' → Calls Try.prog 34 #[.slice t.A t.n t.c, .int .i64 f, .int .i64 u, .int .i64 l, .int .i64 a] w' fun e w'' => e = .returned (.tuple #[.int .i64 X, .int .i64 E]) ∧ Below w'.heap.size w' w'' := by
    by_cases h : 4611686018427387904 < tot (msOf t.ts) ⟨f, u, l, a⟩
    · exact ⟨0, 1, fun _ => rfl, .inr rfl, fun w' h' => given_no t f u l a hl01 w' h' hmay h⟩
    · exact ⟨_, 0, fun h' => absurd h' h, .inl rfl, fun w' h' => given_ok t f u l a hl01 w' h' hmay _ rfl (by omega)⟩
  have g2 : ∃ X E : Int, (4611686018427387904 < tot (msOf t.ts) ⟨u, f, l, a⟩ → E = 1) ∧ (E = 0 ∨ E = 1) ∧ ∀ w', t.ok w' → Calls Try.prog 34 #[.slice t.A t.n t.c, .int .i64 u, .int .i64 f, .int .i64 l, .int .i64 a] w' fun e w'' => e = .returned (.tuple #[.int .i64 X, .int .i64 E]) ∧ Below w'.heap.size w' w'' := by
    by_cases h : 4611686018427387904 < tot (msOf t.ts) ⟨u, f, l, a⟩
    · exact ⟨0, 1, fun _ => rfl, .inr rfl, fun w' h' => given_no t u f l a hl01 w' h' hmay h⟩
    · exact ⟨_, 0, fun h' => absurd h' h, .inl rfl, fun w' h' => given_ok t u f l a hl01 w' h' hmay _ rfl (by omega)⟩
  obtain ⟨X, E, hE, hE01, g1⟩ := g1
  obtain ⟨Y, F, hF, hF01, g2⟩ := g2
  have HT := Lib.hid ht
  have G1 := Lib.hid g1
  have G2 := Lib.hid g2
  have hEF : E = 1 ∨ (E = 0 ∧ F = 1) := by
    rcases hE01 with e | e
    · rcases hno with h | h
      · exact .inl (hE h)
      · exact .inr ⟨e, hF h⟩
    · exact .inl e
  clear ht hmay g1 g2 hl01 hno hE hF hE01 hF01
  rcases hEF with rfl | ⟨rfl, rfl⟩
  all_goals
    go_enter Try.func24, Try.ntmps24
    go_wp2_with fail
    have b1 := (Below.refl w.heap.size w).alloc (Nat.le_refl _) (.cells #[.int .i64 0, .int .i64 0, .int .i64 0, .int .i64 0, .int .i64 0] 34)
    refine (G1.out _ (HT.out.below b1)).mono ?_
    rintro e w1 ⟨rfl, hb1⟩
    have k1 := (Blk.new w 34 #[.int .i64 0, .int .i64 0, .int .i64 0, .int .i64 0, .int .i64 0]).below hb1 (by simp)
    have B1 := b1.trans (hb1.mono b1.size)
    go_wp2_with fail
    refine (G2.out _ (HT.out.below B1)).mono ?_
    rintro e w2 ⟨rfl, hb2⟩
    have k2 := k1.below hb2 k1.lt
    have B2 := B1.trans (hb2.mono B1.size)
    obtain ⟨⟨c0, c1, c2, c3, c4⟩, f0, f1, f2, f3, f4⟩ := Blk.five k2
    have K2 := Lib.hid k2
    have HB2 := Lib.hid B2
    clear b1 k1 B1 hb1 hb2 k2 B2 HT G1 G2
    go_wp2_with fail
    refine bodyPost_ret (results_row_tmp Try.results24 _ _ w.heap.size _ _ _ rfl (set5_blk K2.out (.int .i64 0) (.int .i64 0) (.int .i64 0) (.int .i64 0) (.int .i64 0)) Try.underlying34 rfl (by kernel_rfl)) rfl ?_
    exact ⟨rfl, HB2.out.grown (set5_only _ _ _ _ _ _ _) HB2.out.size (fun j hj => by injection hj with hj; omega)⟩

/-- Numbers in a row. -/
def iCells (xs : List Int) : List Value := xs.map fun x => .int .i64 x
def HasRel (w : World) (xs : List Int) (n : Int) (i : Value) (wr : World) : Prop := ∃ k : Nat, k ≤ xs.length ∧ i = .int .i64 k ∧ wr = w ∧ n ∉ xs.take k
theorem reads_int {w : World} {B : Nat} {A : Option Addr} {xs : List Int} (h : Reads w B 1 A xs.length (iCells xs)) (hn : 0 < xs.length) : ∃ b o, A = some ⟨b, o, none⟩ ∧ b < B ∧ ∀ k (hk : k < xs.length), w.cell? ⟨b, o + k, none⟩ = some (.int .i64 xs[k]) := by
  obtain ⟨ad, hA, hb, hc⟩ := h.2 hn
  have hat : ∀ k (hk : k < xs.length), (iCells xs)[k]? = some (.int .i64 xs[k]) := fun k hk => by simp [iCells, hk]
  have h0 := hc 0 _ (hat 0 hn)
  have hsp := World.cell?_spot h0
  obtain ⟨b, o, s⟩ := ad
  have hs' : s = none := by simpa [Addr.add] using hsp
  subst hs'
  refine ⟨b, o, hA, hb, fun k hk => ?_⟩
  have := hc k _ (hat k hk)
  rwa [Addr.add_lit] at this
set_option maxHeartbeats 2000000 in
theorem has_any (xs : List Int) (A : Option Addr) (c : Nat) (n : Int) (w : World) (ha : Reads w w.heap.size 1 A xs.length (iCells xs)) (hmax : xs.length ≤ 9223372036854775807) :
    Calls Try.prog 33 #[.slice A xs.length c, .int .i64 n] w fun e w' => e = .returned (.bool (decide (n ∈ xs))) ∧ w' = w := by
  have HA := Lib.hid (reads_int ha)
  clear ha
  go_enter Try.func33, Try.ntmps33
  go_wp2_with fail
  go_loopw [5] (fun i wr => HasRel w xs n i wr) (fun i _ => xs.length - (intOf i).toNat)
  case atStart => exact ⟨0, Nat.zero_le _, rfl, rfl, by simp⟩
  case round =>
    obtain ⟨k, hk, rfl, rfl, hno⟩ := hrel
    by_cases hlt : k < xs.length
    · obtain ⟨b, o, rfl, hbo, hc⟩ := HA.out (by omega)
      have a0 := hc k hlt
      have hki : (k : Int) < (xs.length : Int) := by omega
      have hk0 : (0 : Int) ≤ (k : Int) := Int.natCast_nonneg _
      have htk : xs.take (k + 1) = xs.take k ++ [xs[k]] := List.take_succ_eq_append_getElem hlt
      have hmem : xs[k] ∈ xs := List.getElem_mem hlt
      clear hc
      generalize xs[k] = x at a0 htk hmem
      have HTK := Lib.hid htk
      have HM := Lib.hid hmem
      have HNO := Lib.hid hno
      clear htk hmem hno
      by_cases hx : x = n
      · subst hx
        have q : (x == x) = true := by simp
        go_wp2_with fail
        go_ret
        exact ⟨by rw [decide_eq_true HM.out]; rfl, rfl⟩
      · have q : (x == n) = false := by simpa using hx
        have HX := Lib.hid hx
        clear hx
        go_wp2_with fail
        go_roundw
        case rel => exact ⟨k + 1, by omega, by go_num, rfl, by rw [HTK.out]; simp [HNO.out, Ne.symm HX.out]⟩
        case measure => simp [intOf]; omega
    · obtain rfl : k = xs.length := by omega
      rw [List.take_length] at hno
      have HNO := Lib.hid hno
      clear hno
      go_wp2_with fail
      go_ret
      exact ⟨by rw [decide_eq_false HNO.out]; rfl, rfl⟩
end Go.Proofs.Ytggpdbfkfcoejaa
