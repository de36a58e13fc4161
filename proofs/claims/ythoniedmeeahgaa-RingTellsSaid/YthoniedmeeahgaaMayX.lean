/-
  The law's May by contract: are they such nets?
-/
import Derived.Test.YthoniedmeeahgaaRead
namespace Go.Proofs.Ythoniedmeeahgaa
open Go.RowKit Go.Maps

/-- The first k are such nets. -/
structure MayK (xs : List NetD) (k : Nat) : Prop where
  each : ∀ x ∈ xs.take k, MayN x
  two : (xs.take k).Pairwise (fun x y => ¬ clash x y)
theorem MayX.upto {xs : List NetD} (h : MayX xs) {x : NetD} (hx : x ∈ xs) : MayN x := h.each x hx
theorem MayK.start (xs : List NetD) : MayK xs 0 := ⟨by simp, by simp⟩
theorem MayK.step {xs : List NetD} {k : Nat} (h : MayK xs k) (hk : k < xs.length) (hx : MayN xs[k]) (hc : ∀ j (hj : j < k), ¬ clash (xs[j]'(by omega)) xs[k]) : MayK xs (k + 1) := by
  refine ⟨fun x hx' => ?_, ?_⟩
  · rw [List.take_succ_eq_append_getElem hk] at hx'
    rcases List.mem_append.1 hx' with h1 | h1
    · exact h.each x h1
    · rw [List.mem_singleton.1 h1]
      exact hx
  · rw [List.take_succ_eq_append_getElem hk, List.pairwise_append]
    refine ⟨h.two, by simp, fun a ha b hb => ?_⟩
    rw [List.mem_singleton.1 hb]
    obtain ⟨j, hj, rfl⟩ := List.getElem_of_mem ha
    rw [List.length_take] at hj
    rw [List.getElem_take]
    exact hc j (by omega)
theorem MayK.done {xs : List NetD} (h : MayK xs xs.length) : MayX xs ↔ xs.length ≤ 100 := by
  have h1 := h.each
  have h2 := h.two
  rw [List.take_length] at h1 h2
  exact ⟨fun h => h.len, fun hl => ⟨h1, h2, hl⟩⟩
theorem no_clash {xs : List NetD} {j k : Nat} (hjk : j < k) (hk : k < xs.length) (h : clash (xs[j]'(by omega)) xs[k]) : ¬ MayX xs := fun hm => List.pairwise_iff_getElem.1 hm.two j k (by omega) hk hjk h
theorem no_net {xs : List NetD} {x : NetD} (hx : x ∈ xs) (h : ¬ MayN x) : ¬ MayX xs := fun hm => h (hm.each x hx)
/-- The rows of the nets, read in whatever world is later. -/
def NetAt (w : World) (xs : List NetD) (b o : Nat) : Prop := b < w.heap.size ∧ ∀ k (hk : k < xs.length), w.cell? ⟨b, o + k * 5, none⟩ = some (.int .i64 xs[k].f) ∧ w.cell? ⟨b, o + k * 5 + 1, none⟩ = some (.int .i64 xs[k].t) ∧ w.cell? ⟨b, o + k * 5 + 2, none⟩ = some (.int .i64 xs[k].l) ∧ w.cell? ⟨b, o + k * 5 + 3, none⟩ = some (.int .i64 xs[k].a) ∧ w.cell? ⟨b, o + k * 5 + 4, none⟩ = some (.int .i64 xs[k].n)
theorem NetAt.below {w w' : World} {xs : List NetD} {b o : Nat} (h : NetAt w xs b o) (hb : Below w.heap.size w w') : NetAt w' xs b o := by
  refine ⟨Nat.lt_of_lt_of_le h.1 hb.size, fun k hk => ?_⟩
  obtain ⟨h0, h1, h2, h3, h4⟩ := h.2 k hk
  exact ⟨(hb.cell (p := ⟨b, _, none⟩) h.1).trans h0, (hb.cell (p := ⟨b, _, none⟩) h.1).trans h1, (hb.cell (p := ⟨b, _, none⟩) h.1).trans h2, (hb.cell (p := ⟨b, _, none⟩) h.1).trans h3, (hb.cell (p := ⟨b, _, none⟩) h.1).trans h4⟩
theorem NsD.ok.at_ {A : Option Addr} {n c : Nat} {xs : List NetD} {w : World} (h : NsD.ok ⟨A, n, c, xs⟩ w) (hn : 0 < n) : ∃ b o, A = some ⟨b, o, none⟩ ∧ NetAt w xs b o := by
  obtain ⟨b, o, hA, hb, hc⟩ := h.form hn
  exact ⟨b, o, hA, hb, fun k hk => ⟨hc k hk 0 _ rfl, hc k hk 1 _ rfl, hc k hk 2 _ rfl, hc k hk 3 _ rfl, hc k hk 4 _ rfl⟩⟩
def MayP (w : World) (xs : List NetD) (e : Ending) (w' : World) : Prop := ∃ r : Bool, e = .returned (.bool r) ∧ (r = true ↔ MayX xs) ∧ Below w.heap.size w w'
theorem MayP.no {w w' : World} {xs : List NetD} (h : ¬ MayX xs) (hb : Below w.heap.size w w') : MayP w xs (.returned (.bool false)) w' := ⟨false, rfl, ⟨fun h' => (by cases h'), fun h' => absurd h' h⟩, hb⟩
set_option maxRecDepth 100000 in
set_option maxHeartbeats 16000000 in
theorem may_any (t : NsD) (w : World) (ht : t.ok w) (hsz : t.n ≤ 9223372036854775807) : Calls Try.prog 9 #[.slice t.A t.n t.c] w (MayP w t.xs) := by
  obtain ⟨A, n, c, xs⟩ := t
  have hat := ht.at_
  obtain ⟨hl, _⟩ := ht
  simp only at hl hat hsz ⊢
  obtain rfl := hl
  have HAT := Lib.hid hat
  clear hat
  go_enter Try.func9, Try.ntmps9
  go_wp2_with fail
  go_loopw [3] (fun i wr => ∃ k, k ≤ xs.length ∧ i = .int .i64 (k : Nat) ∧ MayK xs k ∧ Below w.heap.size w wr) (fun i _ => xs.length - (intOf i).toNat)
  case atStart => exact ⟨0, Nat.zero_le _, rfl, MayK.start xs, Below.refl _ _⟩
  case round =>
    obtain ⟨k, hk, rfl, hM, hb⟩ := hrel
    have hk0 : (0 : Int) ≤ (k : Int) := Int.natCast_nonneg _
    have HM := Lib.hid hM
    have HB := Lib.hid hb
    clear hM
    by_cases hlt : k < xs.length
    · obtain ⟨b, o, rfl, hN0⟩ := HAT.out (by omega) -- ARM round
      have hN := hN0.2
      have hbo := hN0.1
      have HN0 := Lib.hid hN0
      have hki : (k : Int) < (xs.length : Int) := by omega
      have ek : IntKind.i64.wrap ((k : Int) + 1) = (k : Int) + 1 := by rw [IntKind.wrap_i64]; omega
      have hsz2 := Nat.lt_of_lt_of_le hbo hb.size
      obtain ⟨h0, h1, h2, h3, h4⟩ := hN k hlt
      have c0 := (hb.cell (p := ⟨b, o + k * 5, none⟩) hbo).trans h0
      have c1 := (hb.cell (p := ⟨b, o + k * 5 + 1, none⟩) hbo).trans h1
      have c2 := (hb.cell (p := ⟨b, o + k * 5 + 2, none⟩) hbo).trans h2
      have c3 := (hb.cell (p := ⟨b, o + k * 5 + 3, none⟩) hbo).trans h3
      have c4 := (hb.cell (p := ⟨b, o + k * 5 + 4, none⟩) hbo).trans h4
      obtain ⟨x, hx⟩ : ∃ x, x = xs[k] := ⟨_, rfl⟩
      have hmem : x ∈ xs := by rw [hx]; exact List.getElem_mem hlt
      rw [← hx] at c0 c1 c2 c3 c4
      have HX := Lib.hid hx
      have HBW := Lib.hid (hb.alloc hb.size (.cells #[.int .i64 x.f, .int .i64 x.t, .int .i64 x.l, .int .i64 x.a, .int .i64 x.n] 38))
      have HMEM := Lib.hid hmem
      clear h0 h1 h2 h3 h4 hN hN0 hx hb hmem
      by_cases m0 : x.f < 0
      case pos =>
        have HNO := Lib.hid (no_net HMEM.out (fun h => by have := h.f; omega))
        have d0 : decide (x.f < 0) = true := decide_eq_true m0
        clear m0
        go_wp2_with fail
        go_ret
        exact MayP.no HNO.out HBW.out
      by_cases m1 : 15 < x.f
      case pos =>
        have HNO := Lib.hid (no_net HMEM.out (fun h => by have := h.f; omega))
        have d0 : decide (x.f < 0) = false := decide_eq_false m0
        have d1 : decide (15 < x.f) = true := decide_eq_true m1
        clear m0
        clear m1
        go_wp2_with fail
        go_ret
        exact MayP.no HNO.out HBW.out
      by_cases m2 : x.t < 0
      case pos =>
        have HNO := Lib.hid (no_net HMEM.out (fun h => by have := h.t; omega))
        have d0 : decide (x.f < 0) = false := decide_eq_false m0
        have d1 : decide (15 < x.f) = false := decide_eq_false m1
        have d2 : decide (x.t < 0) = true := decide_eq_true m2
        clear m0
        clear m1
        clear m2
        go_wp2_with fail
        go_ret
        exact MayP.no HNO.out HBW.out
      by_cases m3 : 15 < x.t
      case pos =>
        have HNO := Lib.hid (no_net HMEM.out (fun h => by have := h.t; omega))
        have d0 : decide (x.f < 0) = false := decide_eq_false m0
        have d1 : decide (15 < x.f) = false := decide_eq_false m1
        have d2 : decide (x.t < 0) = false := decide_eq_false m2
        have d3 : decide (15 < x.t) = true := decide_eq_true m3
        clear m0
        clear m1
        clear m2
        clear m3
        go_wp2_with fail
        go_ret
        exact MayP.no HNO.out HBW.out
      by_cases m4 : x.f = x.t
      case pos =>
        have HNO := Lib.hid (no_net HMEM.out (fun h => h.ne (by assumption)))
        have d0 : decide (x.f < 0) = false := decide_eq_false m0
        have d1 : decide (15 < x.f) = false := decide_eq_false m1
        have d2 : decide (x.t < 0) = false := decide_eq_false m2
        have d3 : decide (15 < x.t) = false := decide_eq_false m3
        have d4 : decide (x.f = x.t) = true := decide_eq_true m4
        have e4 : (x.f == x.t) = true := by simpa using m4
        clear m0
        clear m1
        clear m2
        clear m3
        clear m4
        go_wp2_with fail
        go_ret
        exact MayP.no HNO.out HBW.out
      by_cases m5 : x.l < 0
      case pos =>
        have HNO := Lib.hid (no_net HMEM.out (fun h => by have := h.l; omega))
        have d0 : decide (x.f < 0) = false := decide_eq_false m0
        have d1 : decide (15 < x.f) = false := decide_eq_false m1
        have d2 : decide (x.t < 0) = false := decide_eq_false m2
        have d3 : decide (15 < x.t) = false := decide_eq_false m3
        have d4 : decide (x.f = x.t) = false := decide_eq_false m4
        have e4 : (x.f == x.t) = false := by simpa using m4
        have d5 : decide (x.l < 0) = true := decide_eq_true m5
        clear m0
        clear m1
        clear m2
        clear m3
        clear m4
        clear m5
        go_wp2_with fail
        go_ret
        exact MayP.no HNO.out HBW.out
      by_cases m6 : 1 < x.l
      case pos =>
        have HNO := Lib.hid (no_net HMEM.out (fun h => by have := h.l; omega))
        have d0 : decide (x.f < 0) = false := decide_eq_false m0
        have d1 : decide (15 < x.f) = false := decide_eq_false m1
        have d2 : decide (x.t < 0) = false := decide_eq_false m2
        have d3 : decide (15 < x.t) = false := decide_eq_false m3
        have d4 : decide (x.f = x.t) = false := decide_eq_false m4
        have e4 : (x.f == x.t) = false := by simpa using m4
        have d5 : decide (x.l < 0) = false := decide_eq_false m5
        have d6 : decide (1 < x.l) = true := decide_eq_true m6
        clear m0
        clear m1
        clear m2
        clear m3
        clear m4
        clear m5
        clear m6
        go_wp2_with fail
        go_ret
        exact MayP.no HNO.out HBW.out
      by_cases m7 : x.a < 0
      case pos =>
        have HNO := Lib.hid (no_net HMEM.out (fun h => by have := h.a; omega))
        have d0 : decide (x.f < 0) = false := decide_eq_false m0
        have d1 : decide (15 < x.f) = false := decide_eq_false m1
        have d2 : decide (x.t < 0) = false := decide_eq_false m2
        have d3 : decide (15 < x.t) = false := decide_eq_false m3
        have d4 : decide (x.f = x.t) = false := decide_eq_false m4
        have e4 : (x.f == x.t) = false := by simpa using m4
        have d5 : decide (x.l < 0) = false := decide_eq_false m5
        have d6 : decide (1 < x.l) = false := decide_eq_false m6
        have d7 : decide (x.a < 0) = true := decide_eq_true m7
        clear m0
        clear m1
        clear m2
        clear m3
        clear m4
        clear m5
        clear m6
        clear m7
        go_wp2_with fail
        go_ret
        exact MayP.no HNO.out HBW.out
      by_cases m8 : 3 < x.a
      case pos =>
        have HNO := Lib.hid (no_net HMEM.out (fun h => by have := h.a; omega))
        have d0 : decide (x.f < 0) = false := decide_eq_false m0
        have d1 : decide (15 < x.f) = false := decide_eq_false m1
        have d2 : decide (x.t < 0) = false := decide_eq_false m2
        have d3 : decide (15 < x.t) = false := decide_eq_false m3
        have d4 : decide (x.f = x.t) = false := decide_eq_false m4
        have e4 : (x.f == x.t) = false := by simpa using m4
        have d5 : decide (x.l < 0) = false := decide_eq_false m5
        have d6 : decide (1 < x.l) = false := decide_eq_false m6
        have d7 : decide (x.a < 0) = false := decide_eq_false m7
        have d8 : decide (3 < x.a) = true := decide_eq_true m8
        clear m0
        clear m1
        clear m2
        clear m3
        clear m4
        clear m5
        clear m6
        clear m7
        clear m8
        go_wp2_with fail
        go_ret
        exact MayP.no HNO.out HBW.out
      by_cases m9 : x.n < 1
      case pos =>
        have HNO := Lib.hid (no_net HMEM.out (fun h => by have := h.n; omega))
        have d0 : decide (x.f < 0) = false := decide_eq_false m0
        have d1 : decide (15 < x.f) = false := decide_eq_false m1
        have d2 : decide (x.t < 0) = false := decide_eq_false m2
        have d3 : decide (15 < x.t) = false := decide_eq_false m3
        have d4 : decide (x.f = x.t) = false := decide_eq_false m4
        have e4 : (x.f == x.t) = false := by simpa using m4
        have d5 : decide (x.l < 0) = false := decide_eq_false m5
        have d6 : decide (1 < x.l) = false := decide_eq_false m6
        have d7 : decide (x.a < 0) = false := decide_eq_false m7
        have d8 : decide (3 < x.a) = false := decide_eq_false m8
        have d9 : decide (x.n < 1) = true := decide_eq_true m9
        clear m0
        clear m1
        clear m2
        clear m3
        clear m4
        clear m5
        clear m6
        clear m7
        clear m8
        clear m9
        go_wp2_with fail
        go_ret
        exact MayP.no HNO.out HBW.out
      by_cases m10 : 1099511627776 < x.n
      case pos =>
        have HNO := Lib.hid (no_net HMEM.out (fun h => by have := h.n; omega))
        have d0 : decide (x.f < 0) = false := decide_eq_false m0
        have d1 : decide (15 < x.f) = false := decide_eq_false m1
        have d2 : decide (x.t < 0) = false := decide_eq_false m2
        have d3 : decide (15 < x.t) = false := decide_eq_false m3
        have d4 : decide (x.f = x.t) = false := decide_eq_false m4
        have e4 : (x.f == x.t) = false := by simpa using m4
        have d5 : decide (x.l < 0) = false := decide_eq_false m5
        have d6 : decide (1 < x.l) = false := decide_eq_false m6
        have d7 : decide (x.a < 0) = false := decide_eq_false m7
        have d8 : decide (3 < x.a) = false := decide_eq_false m8
        have d9 : decide (x.n < 1) = false := decide_eq_false m9
        have d10 : decide (1099511627776 < x.n) = true := decide_eq_true m10
        clear m0
        clear m1
        clear m2
        clear m3
        clear m4
        clear m5
        clear m6
        clear m7
        clear m8
        clear m9
        clear m10
        go_wp2_with fail
        go_ret
        exact MayP.no HNO.out HBW.out
      have m4x := Lib.hid m4
      have hmx : MayN x := ⟨by omega, by omega, m4, by omega, by omega, by omega⟩
      have HMX := Lib.hid hmx
      have d0 : decide (x.f < 0) = false := decide_eq_false m0
      have d1 : decide (15 < x.f) = false := decide_eq_false m1
      have d2 : decide (x.t < 0) = false := decide_eq_false m2
      have d3 : decide (15 < x.t) = false := decide_eq_false m3
      have d4 : decide (x.f = x.t) = false := decide_eq_false m4
      have e4 : (x.f == x.t) = false := by simpa using m4
      have d5 : decide (x.l < 0) = false := decide_eq_false m5
      have d6 : decide (1 < x.l) = false := decide_eq_false m6
      have d7 : decide (x.a < 0) = false := decide_eq_false m7
      have d8 : decide (3 < x.a) = false := decide_eq_false m8
      have d9 : decide (x.n < 1) = false := decide_eq_false m9
      have d10 : decide (1099511627776 < x.n) = false := decide_eq_false m10
      clear hmx
      clear m0
      clear m1
      clear m2
      clear m3
      clear m4
      clear m5
      clear m6
      clear m7
      clear m8
      clear m9
      clear m10
      go_wp2_with fail
      clear c0 c1 c2 c3 c4 d0 d1 d2 d3 d5 d6 d7 d8 d9 d10
      have HBL := Lib.hid (Blk.new wr 38 #[.int .i64 x.f, .int .i64 x.t, .int .i64 x.l, .int .i64 x.a, .int .i64 x.n])
      generalize wr.heap.size = g at HBL ⊢
      go_loopw [5] (fun i wq => ∃ j, j ≤ k ∧ i = .int .i64 (j : Nat) ∧ (∀ m (hm : m < j), ∀ (hm' : m < xs.length), ¬ clash xs[m] x) ∧ Below w.heap.size w wq ∧ Blk wq g 38 #[.int .i64 x.f, .int .i64 x.t, .int .i64 x.l, .int .i64 x.a, .int .i64 x.n]) (fun i _ => k - (intOf i).toNat)
      case atStart => exact ⟨0, Nat.zero_le _, rfl, fun m hm => absurd hm (Nat.not_lt_zero _), HBW.out, HBL.out⟩
      case round =>
        obtain ⟨j, hj, rfl, hC, hbq, hgq⟩ := hrel
        have hj0 : (0 : Int) ≤ (j : Int) := Int.natCast_nonneg _
        by_cases hltj : j < k
        · obtain ⟨y, hy⟩ : ∃ y, y = xs[j]'(by omega) := ⟨_, rfl⟩ -- ARM inner
          have hji : (j : Int) < (k : Int) := by omega
          have hjn : (j : Int) < (xs.length : Int) := by omega
          have ej : IntKind.i64.wrap ((j : Int) + 1) = (j : Int) + 1 := by rw [IntKind.wrap_i64]; omega
          obtain ⟨h0, h1, h2, h3, _⟩ := HN0.out.2 j (by omega)
          have hszq := Nat.lt_of_lt_of_le hbo hbq.size
          have q0 := (hbq.cell (p := ⟨b, o + j * 5, none⟩) hbo).trans h0
          have q1 := (hbq.cell (p := ⟨b, o + j * 5 + 1, none⟩) hbo).trans h1
          have q2 := (hbq.cell (p := ⟨b, o + j * 5 + 2, none⟩) hbo).trans h2
          have q3 := (hbq.cell (p := ⟨b, o + j * 5 + 3, none⟩) hbo).trans h3
          rw [← hy] at q0 q1 q2 q3
          have x0 := hgq.cell 0
          have x1 := hgq.cell 1
          have x2 := hgq.cell 2
          have x3 := hgq.cell 3
          have hgl := hgq.lt
          simp at x0 x1 x2 x3
          have HY := Lib.hid hy
          have HBQ := Lib.hid hbq
          have HGQ := Lib.hid hgq
          have HC := Lib.hid hC
          clear hy hbq hgq hC h0 h1 h2 h3
          by_cases yl : y.l = x.l
          case neg =>
            have ayl : (y.l == x.l) = false := by simpa using yl
            have byl : decide (y.l = x.l) = false := decide_eq_false yl
            have HCL := Lib.hid (show ¬ clash y x from by unfold clash; omega)
            clear yl
            go_wp2_with fail
            go_quiet (fail)
            go_wp2_with fail
            refine ⟨⟨j + 1, hltj, rfl, fun m hm hm' => ?_, below_drewN HBQ.out _, HGQ.out.drewN _⟩, by simp only [intOf]; omega⟩
            by_cases e : m = j
            · subst e
              rw [← HY.out]
              exact HCL.out
            · exact HC.out m (by omega) hm'
          by_cases ya : y.a = x.a
          case neg =>
            have ayl : (y.l == x.l) = true := by simpa using yl
            have byl : decide (y.l = x.l) = true := decide_eq_true yl
            have aya : (y.a == x.a) = false := by simpa using ya
            have bya : decide (y.a = x.a) = false := decide_eq_false ya
            have HCL := Lib.hid (show ¬ clash y x from by unfold clash; omega)
            clear yl ya
            go_wp2_with fail
            go_quiet (fail)
            go_wp2_with fail
            refine ⟨⟨j + 1, hltj, rfl, fun m hm hm' => ?_, below_drewN HBQ.out _, HGQ.out.drewN _⟩, by simp only [intOf]; omega⟩
            by_cases e : m = j
            · subst e
              rw [← HY.out]
              exact HCL.out
            · exact HC.out m (by omega) hm'
          by_cases yf : y.f = x.f
          · by_cases yt : y.t = x.t
            · have := m4x.out
              have ayl : (y.l == x.l) = true := by simpa using yl
              have byl : decide (y.l = x.l) = true := decide_eq_true yl
              have aya : (y.a == x.a) = true := by simpa using ya
              have bya : decide (y.a = x.a) = true := decide_eq_true ya
              have ayf : (y.f == x.f) = true := by simpa using yf
              have byf : decide (y.f = x.f) = true := decide_eq_true yf
              have ayt : (y.t == x.t) = true := by simpa using yt
              have byt : decide (y.t = x.t) = true := decide_eq_true yt
              have HCL := Lib.hid (show clash y x from by unfold clash; omega)
              clear yl ya yf yt
              go_wp2_with fail
              go_quiet (fail)
              go_wp2_with fail
              go_ret
              exact MayP.no (no_clash hltj hlt (by rw [← HY.out, ← HX.out]; exact HCL.out)) (below_drewN HBQ.out _)
            · have yft : ¬ y.f = x.t := fun e => m4x.out (by rw [← e, yf])
              have ayl : (y.l == x.l) = true := by simpa using yl
              have byl : decide (y.l = x.l) = true := decide_eq_true yl
              have aya : (y.a == x.a) = true := by simpa using ya
              have bya : decide (y.a = x.a) = true := decide_eq_true ya
              have ayf : (y.f == x.f) = true := by simpa using yf
              have byf : decide (y.f = x.f) = true := decide_eq_true yf
              have ayt : (y.t == x.t) = false := by simpa using yt
              have byt : decide (y.t = x.t) = false := decide_eq_false yt
              have ayft : (y.f == x.t) = false := by simpa using yft
              have byft : decide (y.f = x.t) = false := decide_eq_false yft
              have HCL := Lib.hid (show ¬ clash y x from by unfold clash; omega)
              clear yl ya yf yt yft
              go_wp2_with fail
              go_quiet (fail)
              go_wp2_with fail
              refine ⟨⟨j + 1, hltj, rfl, fun m hm hm' => ?_, below_drewN HBQ.out _, HGQ.out.drewN _⟩, by simp only [intOf]; omega⟩
              by_cases e : m = j
              · subst e
                rw [← HY.out]
                exact HCL.out
              · exact HC.out m (by omega) hm'
          · by_cases yft : y.f = x.t
            · by_cases ytf : y.t = x.f
              · skip
                have ayl : (y.l == x.l) = true := by simpa using yl
                have byl : decide (y.l = x.l) = true := decide_eq_true yl
                have aya : (y.a == x.a) = true := by simpa using ya
                have bya : decide (y.a = x.a) = true := decide_eq_true ya
                have ayf : (y.f == x.f) = false := by simpa using yf
                have byf : decide (y.f = x.f) = false := decide_eq_false yf
                have ayft : (y.f == x.t) = true := by simpa using yft
                have byft : decide (y.f = x.t) = true := decide_eq_true yft
                have aytf : (y.t == x.f) = true := by simpa using ytf
                have bytf : decide (y.t = x.f) = true := decide_eq_true ytf
                have HCL := Lib.hid (show clash y x from by unfold clash; omega)
                clear yl ya yf yft ytf
                go_wp2_with fail
                go_quiet (fail)
                go_wp2_with fail
                go_ret
                exact MayP.no (no_clash hltj hlt (by rw [← HY.out, ← HX.out]; exact HCL.out)) (below_drewN HBQ.out _)
              · skip
                have ayl : (y.l == x.l) = true := by simpa using yl
                have byl : decide (y.l = x.l) = true := decide_eq_true yl
                have aya : (y.a == x.a) = true := by simpa using ya
                have bya : decide (y.a = x.a) = true := decide_eq_true ya
                have ayf : (y.f == x.f) = false := by simpa using yf
                have byf : decide (y.f = x.f) = false := decide_eq_false yf
                have ayft : (y.f == x.t) = true := by simpa using yft
                have byft : decide (y.f = x.t) = true := decide_eq_true yft
                have aytf : (y.t == x.f) = false := by simpa using ytf
                have bytf : decide (y.t = x.f) = false := decide_eq_false ytf
                have HCL := Lib.hid (show ¬ clash y x from by unfold clash; omega)
                clear yl ya yf yft ytf
                go_wp2_with fail
                go_quiet (fail)
                go_wp2_with fail
                refine ⟨⟨j + 1, hltj, rfl, fun m hm hm' => ?_, below_drewN HBQ.out _, HGQ.out.drewN _⟩, by simp only [intOf]; omega⟩
                by_cases e : m = j
                · subst e
                  rw [← HY.out]
                  exact HCL.out
                · exact HC.out m (by omega) hm'
            · skip
              have ayl : (y.l == x.l) = true := by simpa using yl
              have byl : decide (y.l = x.l) = true := decide_eq_true yl
              have aya : (y.a == x.a) = true := by simpa using ya
              have bya : decide (y.a = x.a) = true := decide_eq_true ya
              have ayf : (y.f == x.f) = false := by simpa using yf
              have byf : decide (y.f = x.f) = false := decide_eq_false yf
              have ayft : (y.f == x.t) = false := by simpa using yft
              have byft : decide (y.f = x.t) = false := decide_eq_false yft
              have HCL := Lib.hid (show ¬ clash y x from by unfold clash; omega)
              clear yl ya yf yft
              go_wp2_with fail
              go_quiet (fail)
              go_wp2_with fail
              refine ⟨⟨j + 1, hltj, rfl, fun m hm hm' => ?_, below_drewN HBQ.out _, HGQ.out.drewN _⟩, by simp only [intOf]; omega⟩
              by_cases e : m = j
              · subst e
                rw [← HY.out]
                exact HCL.out
              · exact HC.out m (by omega) hm'
        · obtain rfl : j = k := by omega -- ARM idone
          have hji : ¬ ((j : Int) < (j : Int)) := by omega
          have HBQ := Lib.hid hbq
          have HC := Lib.hid hC
          clear hbq hgq hC
          go_wp2_with fail
          exact ⟨⟨j + 1, hlt, rfl, HM.out.step hlt (by rw [← HX.out]; exact HMX.out) (fun m hm => by rw [← HX.out]; exact HC.out m hm (by omega)), HBQ.out⟩, by simp only [intOf]; omega⟩
    · obtain rfl : k = xs.length := by omega -- ARM done
      have hki : ¬ ((xs.length : Int) < (xs.length : Int)) := by omega
      by_cases hle : xs.length ≤ 100
      · have d1 : decide ((xs.length : Int) ≤ 100) = true := decide_eq_true (by omega) -- ARM le
        have hli : (xs.length : Int) ≤ 100 := by omega
        go_wp2_with fail
        go_ret
        exact ⟨true, rfl, ⟨fun _ => HM.out.done.2 hle, fun _ => rfl⟩, HB.out⟩
      · have d1 : decide ((xs.length : Int) ≤ 100) = false := decide_eq_false (by omega) -- ARM gt
        have hli : ¬ (xs.length : Int) ≤ 100 := by omega
        go_wp2_with fail
        go_ret
        exact MayP.no (fun h => hle (HM.out.done.1 h)) HB.out
end Go.Proofs.Ythoniedmeeahgaa
