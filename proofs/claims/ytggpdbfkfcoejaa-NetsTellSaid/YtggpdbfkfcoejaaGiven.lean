/-
  The reference's Add, given, net by contract.
-/
import Derived.Test.YtggpdbfkfcoejaaMay
namespace Go.Proofs.Ytggpdbfkfcoejaa
open Go.RowKit

set_option maxHeartbeats 1000000 in
theorem refamount_yes (n : Int) (w : World) (h : 0 ≤ n ∧ n ≤ 4611686018427387904) : Calls Try.prog 52 #[.int .i64 n] w fun e w' => e = .returned (.bool true) ∧ w' = w := by
  have d1 : decide (0 ≤ n) = true := decide_eq_true h.1
  have d2 : decide (n ≤ 4611686018427387904) = true := decide_eq_true h.2
  clear h
  go_enter Try.func52, Try.ntmps52
  go_wp2
  go_ret
  exact ⟨rfl, rfl⟩
set_option maxHeartbeats 2000000 in
theorem refadd_yes (n x : Int) (w : World) (h : 0 ≤ n ∧ 0 ≤ x ∧ n + x ≤ 4611686018427387904) : Calls Try.prog 46 #[.int .i64 n, .int .i64 x] w fun e w' => e = .returned (.tuple #[.int .i64 (n + x), .int .i64 0]) ∧ w' = w := by
  obtain ⟨h1, h2, h3⟩ := h
  have ew : IntKind.i64.wrap (4611686018427387904 - n) = 4611686018427387904 - n := by rw [IntKind.wrap_i64]; omega
  have ev : IntKind.i64.wrap (n + x) = n + x := by rw [IntKind.wrap_i64]; omega
  have d3 : decide (4611686018427387904 - n < x) = false := decide_eq_false (by omega)
  have HN := Lib.hid (show 0 ≤ n ∧ n ≤ 4611686018427387904 by omega)
  have HX := Lib.hid (show 0 ≤ x ∧ x ≤ 4611686018427387904 by omega)
  clear h1 h2 h3
  go_enter Try.func46, Try.ntmps46
  go_wp2_with fail
  refine (refamount_yes n _ HN.out).mono ?_
  rintro e _ ⟨rfl, rfl⟩
  go_wp2_with fail
  refine (refamount_yes x _ HX.out).mono ?_
  rintro e _ ⟨rfl, rfl⟩
  go_wp2_with fail
  go_ret2
  exact ⟨rfl, rfl⟩
set_option maxHeartbeats 2000000 in
theorem refadd_no (n x : Int) (w : World) (h : (0 ≤ n ∧ n ≤ 4611686018427387904) ∧ (0 ≤ x ∧ x ≤ 4611686018427387904) ∧ 4611686018427387904 < n + x) : Calls Try.prog 46 #[.int .i64 n, .int .i64 x] w fun e w' => e = .returned (.tuple #[.int .i64 0, .int .i64 1]) ∧ w' = w := by
  obtain ⟨h1, h2, h3⟩ := h
  have ew : IntKind.i64.wrap (4611686018427387904 - n) = 4611686018427387904 - n := by rw [IntKind.wrap_i64]; omega
  have d3 : decide (4611686018427387904 - n < x) = true := decide_eq_true (by omega)
  have HN := Lib.hid h1
  have HX := Lib.hid h2
  clear h1 h2 h3
  go_enter Try.func46, Try.ntmps46
  go_wp2_with fail
  refine (refamount_yes n _ HN.out).mono ?_
  rintro e _ ⟨rfl, rfl⟩
  go_wp2_with fail
  refine (refamount_yes x _ HX.out).mono ?_
  rintro e _ ⟨rfl, rfl⟩
  go_wp2_with fail
  go_ret2
  exact ⟨rfl, rfl⟩

theorem mayT.ne {x : TrD} (h : mayT x) : x.b ≠ x.s := h.2.2.2.2.2.2.2
theorem mayT.p {x : TrD} (h : mayT x) : 0 ≤ x.p ∧ x.p ≤ 4611686018427387904 := by have := h.2.2.2.2.2.1; omega
theorem mayT.q {x : TrD} (h : mayT x) : 0 ≤ x.q ∧ x.q ≤ 4611686018427387904 := by have := h.2.2.2.2.2.2.1; omega
theorem may_nonneg {ts : List TrD} (h : ∀ x ∈ ts, mayT x) : ∀ m ∈ msOf ts, 0 ≤ m.2 := by
  intro m hm
  unfold msOf at hm
  rw [List.mem_flatMap] at hm
  obtain ⟨x, hx, hm⟩ := hm
  have h1 := (h x hx).p
  have h2 := (h x hx).q
  unfold mvs at hm
  split at hm
  · simp at hm
  · unfold mv at hm
    simp at hm
    rcases hm with rfl | rfl
    · exact h1.1
    · exact h2.1
theorem tot_take_le {ts : List TrD} (h : ∀ x ∈ ts, mayT x) (k : Nat) (hk : k < ts.length) (K : KeyD) : tot (msOf (ts.take (k + 1))) K ≤ tot (msOf ts) K := by
  have e := msOf_split ts k hk
  rw [e, msOf_take ts k hk, tot_append, tot_append, tot_append]
  have hn : ∀ m ∈ msOf (ts.drop (k + 1)), 0 ≤ m.2 := fun m hm => may_nonneg h m (by rw [e]; simp [hm])
  have := tot_nonneg hn K
  omega
/-- A trade's share in what goes one way. -/
def shareG (x : TrD) (f u l a : Int) : Int := if l = 0 then (if x.b = f ∧ x.s = u ∧ x.c = a then x.p else 0) else (if x.s = f ∧ x.b = u ∧ x.a = a then x.q else 0)
theorem same_eq (k k' : KeyD) : (same k k' = true) = (k.f = k'.f ∧ k.t = k'.t ∧ k.l = k'.l ∧ k.a = k'.a) := by
  simp [same, and_assoc]
theorem shareG_eq (x : TrD) (f u l a : Int) (hl : l = 0 ∨ l = 1) (hbs : x.b ≠ x.s) : tot (mvs x) ⟨f, u, l, a⟩ = shareG x f u l a := by
  unfold mvs
  rw [if_neg hbs]
  unfold mv tot tot tot at1 shareG
  simp only [same_eq]
  rcases hl with rfl | rfl <;> simp
theorem given_take {ts : List TrD} (h : ∀ x ∈ ts, mayT x) (k : Nat) (hk : k < ts.length) (f u l a : Int) (hl : l = 0 ∨ l = 1) : tot (msOf (ts.take (k + 1))) ⟨f, u, l, a⟩ = tot (msOf (ts.take k)) ⟨f, u, l, a⟩ + shareG ts[k] f u l a := by
  rw [msOf_take ts k hk, tot_append, shareG_eq _ _ _ _ _ hl (h _ (List.getElem_mem hk)).ne]
def GvRel (w : World) (ts : List TrD) (K : KeyD) (n e i : Value) (wr : World) : Prop :=
  ∃ (k : Nat) (E N : Int), k ≤ ts.length ∧ i = .int .i64 k ∧ n = .int .i64 N ∧ e = .int .i64 E ∧ Below w.heap.size w wr ∧
    ((E = 0 ∧ N = tot (msOf (ts.take k)) K ∧ 0 ≤ N ∧ N ≤ 4611686018427387904) ∨ (E = 1 ∧ N = 0 ∧ 4611686018427387904 < tot (msOf ts) K))

set_option maxRecDepth 100000 in
set_option maxHeartbeats 8000000 in
theorem given_any (t : TrsD) (f u l a : Int) (hl01 : l = 0 ∨ l = 1) (w : World) (ht : t.ok w) (hmay : ∀ x ∈ t.ts, mayT x) :
    Calls Try.prog 34 #[.slice t.A t.n t.c, .int .i64 f, .int .i64 u, .int .i64 l, .int .i64 a] w fun e w' => (tot (msOf t.ts) ⟨f, u, l, a⟩ ≤ 4611686018427387904 → e = .returned (.tuple #[.int .i64 (tot (msOf t.ts) ⟨f, u, l, a⟩), .int .i64 0])) ∧ (4611686018427387904 < tot (msOf t.ts) ⟨f, u, l, a⟩ → e = .returned (.tuple #[.int .i64 0, .int .i64 1])) ∧ Below w.heap.size w w' := by
  have hform := ht.form
  obtain ⟨A, n, c, ts⟩ := t
  obtain ⟨hl, hmax, hread, hwf⟩ := ht
  simp only at hl hmax hform hwf hmay ⊢
  obtain rfl := hl
  unfold maxLen at hmax
  have Hf := Lib.hid hform
  have HA := Lib.hid hmay
  have HL := Lib.hid hl01
  clear hform hread hwf hmay hl01
  go_enter Try.func34, Try.ntmps34
  go_wp2_with fail
  go_loopw [12, 13, 14] (fun n e i wr => GvRel w ts ⟨f, u, l, a⟩ n e i wr) (fun _ _ i _ => ts.length - (intOf i).toNat)
  case atStart => exact ⟨0, 0, 0, Nat.zero_le _, rfl, rfl, rfl, Below.refl _ _, .inl ⟨rfl, by simp [msOf, tot], by omega, by omega⟩⟩
  case round =>
    obtain ⟨k, E, N, hk, rfl, rfl, rfl, hb, hor⟩ := hrel
    have HB := Lib.hid hb
    clear hb
    by_cases hlt : k < ts.length
    · rcases hor with ⟨rfl, hN, hN0, hN1⟩ | ⟨rfl, rfl, hbig⟩ -- ARM round
      · obtain ⟨b, o, rfl, hbo, hcell⟩ := Hf.out (by omega) -- ARM go
        have hsz := Nat.lt_of_lt_of_le hbo HB.out.size
        have hc0 := (HB.out.cell (p := ⟨b, o + k * 7, none⟩) hbo).trans (hcell k hlt 0 _ rfl)
        have hc1 := (HB.out.cell (p := ⟨b, o + k * 7 + 1, none⟩) hbo).trans (hcell k hlt 1 _ rfl)
        have hc2 := (HB.out.cell (p := ⟨b, o + k * 7 + 2, none⟩) hbo).trans (hcell k hlt 2 _ rfl)
        have hc3 := (HB.out.cell (p := ⟨b, o + k * 7 + 3, none⟩) hbo).trans (hcell k hlt 3 _ rfl)
        have hc4 := (HB.out.cell (p := ⟨b, o + k * 7 + 4, none⟩) hbo).trans (hcell k hlt 4 _ rfl)
        have hc5 := (HB.out.cell (p := ⟨b, o + k * 7 + 5, none⟩) hbo).trans (hcell k hlt 5 _ rfl)
        have hc6 := (HB.out.cell (p := ⟨b, o + k * 7 + 6, none⟩) hbo).trans (hcell k hlt 6 _ rfl)
        have hx := HA.out ts[k] (List.getElem_mem hlt)
        have hst := given_take HA.out k hlt f u l a HL.out
        have hle := tot_take_le HA.out k hlt ⟨f, u, l, a⟩
        clear hcell
        generalize ts[k] = x at hc0 hc1 hc2 hc3 hc4 hc5 hc6 hx hst
        have hki : (k : Int) < (ts.length : Int) := by omega
        have hk0 : (0 : Int) ≤ (k : Int) := Int.natCast_nonneg _
        have hxp := hx.p
        have hxq := hx.q
        rw [← hN] at hst
        have HST := Lib.hid hst
        have HLE := Lib.hid hle
        have HN := Lib.hid hN
        have HR := Lib.hid (show 0 ≤ N ∧ N ≤ 4611686018427387904 from ⟨hN0, hN1⟩)
        have HXP := Lib.hid hxp
        have HXQ := Lib.hid hxq
        clear hst hle hN hx hxp hxq hN0 hN1
        rcases HL.out with rfl | rfl
        · rcases (show x.b ≠ f ∨ (x.b = f ∧ x.s ≠ u) ∨ (x.b = f ∧ x.s = u ∧ x.c ≠ a) ∨ (x.b = f ∧ x.s = u ∧ x.c = a ∧ N + x.p ≤ 4611686018427387904) ∨ (x.b = f ∧ x.s = u ∧ x.c = a ∧ 4611686018427387904 < N + x.p) by omega) with m1 | ⟨m1, m2⟩ | ⟨m1, m2, m3⟩ | ⟨m1, m2, m3, m4⟩ | ⟨m1, m2, m3, m4⟩
          · have q1 : (x.b == f) = false := by rw [beq_eq_false_iff_ne]; exact m1
            have hval := HST.out
            unfold shareG at hval
            rw [if_pos rfl] at hval
            rw [if_neg (fun h => m1 h.1), Int.add_zero] at hval
            have HV := Lib.hid hval
            clear m1 hval
            go_wp2_with fail
            go_roundw
            case rel => exact ⟨k + 1, 0, N, by omega, by go_num, rfl, rfl, HB.out.alloc HB.out.size _, .inl ⟨rfl, HV.out.symm, HR.out⟩⟩
            case measure => simp [intOf]; omega
          · have q1 : (x.b == f) = true := by rw [beq_iff_eq]; exact m1
            have q2 : (x.s == u) = false := by rw [beq_eq_false_iff_ne]; exact m2
            have hval := HST.out
            unfold shareG at hval
            rw [if_pos rfl] at hval
            rw [if_neg (fun h => m2 h.2.1), Int.add_zero] at hval
            have HV := Lib.hid hval
            clear m1 m2 hval
            go_wp2_with fail
            go_roundw
            case rel => exact ⟨k + 1, 0, N, by omega, by go_num, rfl, rfl, HB.out.alloc HB.out.size _, .inl ⟨rfl, HV.out.symm, HR.out⟩⟩
            case measure => simp [intOf]; omega
          · have q1 : (x.b == f) = true := by rw [beq_iff_eq]; exact m1
            have q2 : (x.s == u) = true := by rw [beq_iff_eq]; exact m2
            have q3 : (x.c == a) = false := by rw [beq_eq_false_iff_ne]; exact m3
            have hval := HST.out
            unfold shareG at hval
            rw [if_pos rfl] at hval
            rw [if_neg (fun h => m3 h.2.2), Int.add_zero] at hval
            have HV := Lib.hid hval
            clear m1 m2 m3 hval
            go_wp2_with fail
            go_roundw
            case rel => exact ⟨k + 1, 0, N, by omega, by go_num, rfl, rfl, HB.out.alloc HB.out.size _, .inl ⟨rfl, HV.out.symm, HR.out⟩⟩
            case measure => simp [intOf]; omega
          · have q1 : (x.b == f) = true := by rw [beq_iff_eq]; exact m1
            have q2 : (x.s == u) = true := by rw [beq_iff_eq]; exact m2
            have q3 : (x.c == a) = true := by rw [beq_iff_eq]; exact m3
            have hval := HST.out
            unfold shareG at hval
            rw [if_pos rfl] at hval
            rw [if_pos ⟨m1, m2, m3⟩] at hval
            have HV := Lib.hid hval
            have HF := Lib.hid (show 0 ≤ N ∧ 0 ≤ x.p ∧ N + x.p ≤ 4611686018427387904 from ⟨HR.out.1, HXP.out.1, m4⟩)
            clear m1 m2 m3 m4 hval
            go_wp2_with fail
            refine (refadd_yes N x.p _ HF.out).mono ?_
            rintro e _ ⟨rfl, rfl⟩
            go_wp2_with fail
            go_roundw
            case rel => exact ⟨k + 1, 0, N + x.p, by omega, by go_num, rfl, rfl, HB.out.alloc HB.out.size _, .inl ⟨rfl, HV.out.symm, by have := HF.out; omega, HF.out.2.2⟩⟩
            case measure => simp [intOf]; omega
          · have q1 : (x.b == f) = true := by rw [beq_iff_eq]; exact m1
            have q2 : (x.s == u) = true := by rw [beq_iff_eq]; exact m2
            have q3 : (x.c == a) = true := by rw [beq_iff_eq]; exact m3
            have hval := HST.out
            unfold shareG at hval
            rw [if_pos rfl] at hval
            rw [if_pos ⟨m1, m2, m3⟩] at hval
            have HV := Lib.hid hval
            have HF := Lib.hid (show (0 ≤ N ∧ N ≤ 4611686018427387904) ∧ (0 ≤ x.p ∧ x.p ≤ 4611686018427387904) ∧ 4611686018427387904 < N + x.p from ⟨HR.out, HXP.out, m4⟩)
            clear m1 m2 m3 m4 hval
            go_wp2_with fail
            refine (refadd_no N x.p _ HF.out).mono ?_
            rintro e _ ⟨rfl, rfl⟩
            go_wp2_with fail
            go_roundw
            case rel => exact ⟨k + 1, 1, 0, by omega, by go_num, rfl, rfl, HB.out.alloc HB.out.size _, .inr ⟨rfl, rfl, by have := HF.out.2.2; have := HV.out; have := HLE.out; omega⟩⟩
            case measure => simp [intOf]; omega
        · rcases (show x.s ≠ f ∨ (x.s = f ∧ x.b ≠ u) ∨ (x.s = f ∧ x.b = u ∧ x.a ≠ a) ∨ (x.s = f ∧ x.b = u ∧ x.a = a ∧ N + x.q ≤ 4611686018427387904) ∨ (x.s = f ∧ x.b = u ∧ x.a = a ∧ 4611686018427387904 < N + x.q) by omega) with m1 | ⟨m1, m2⟩ | ⟨m1, m2, m3⟩ | ⟨m1, m2, m3, m4⟩ | ⟨m1, m2, m3, m4⟩
          · have q1 : (x.s == f) = false := by rw [beq_eq_false_iff_ne]; exact m1
            have hval := HST.out
            unfold shareG at hval
            rw [if_neg (show ¬ (1 : Int) = 0 by decide)] at hval
            rw [if_neg (fun h => m1 h.1), Int.add_zero] at hval
            have HV := Lib.hid hval
            clear m1 hval
            go_wp2_with fail
            go_roundw
            case rel => exact ⟨k + 1, 0, N, by omega, by go_num, rfl, rfl, HB.out.alloc HB.out.size _, .inl ⟨rfl, HV.out.symm, HR.out⟩⟩
            case measure => simp [intOf]; omega
          · have q1 : (x.s == f) = true := by rw [beq_iff_eq]; exact m1
            have q2 : (x.b == u) = false := by rw [beq_eq_false_iff_ne]; exact m2
            have hval := HST.out
            unfold shareG at hval
            rw [if_neg (show ¬ (1 : Int) = 0 by decide)] at hval
            rw [if_neg (fun h => m2 h.2.1), Int.add_zero] at hval
            have HV := Lib.hid hval
            clear m1 m2 hval
            go_wp2_with fail
            go_roundw
            case rel => exact ⟨k + 1, 0, N, by omega, by go_num, rfl, rfl, HB.out.alloc HB.out.size _, .inl ⟨rfl, HV.out.symm, HR.out⟩⟩
            case measure => simp [intOf]; omega
          · have q1 : (x.s == f) = true := by rw [beq_iff_eq]; exact m1
            have q2 : (x.b == u) = true := by rw [beq_iff_eq]; exact m2
            have q3 : (x.a == a) = false := by rw [beq_eq_false_iff_ne]; exact m3
            have hval := HST.out
            unfold shareG at hval
            rw [if_neg (show ¬ (1 : Int) = 0 by decide)] at hval
            rw [if_neg (fun h => m3 h.2.2), Int.add_zero] at hval
            have HV := Lib.hid hval
            clear m1 m2 m3 hval
            go_wp2_with fail
            go_roundw
            case rel => exact ⟨k + 1, 0, N, by omega, by go_num, rfl, rfl, HB.out.alloc HB.out.size _, .inl ⟨rfl, HV.out.symm, HR.out⟩⟩
            case measure => simp [intOf]; omega
          · have q1 : (x.s == f) = true := by rw [beq_iff_eq]; exact m1
            have q2 : (x.b == u) = true := by rw [beq_iff_eq]; exact m2
            have q3 : (x.a == a) = true := by rw [beq_iff_eq]; exact m3
            have hval := HST.out
            unfold shareG at hval
            rw [if_neg (show ¬ (1 : Int) = 0 by decide)] at hval
            rw [if_pos ⟨m1, m2, m3⟩] at hval
            have HV := Lib.hid hval
            have HF := Lib.hid (show 0 ≤ N ∧ 0 ≤ x.q ∧ N + x.q ≤ 4611686018427387904 from ⟨HR.out.1, HXQ.out.1, m4⟩)
            clear m1 m2 m3 m4 hval
            go_wp2_with fail
            refine (refadd_yes N x.q _ HF.out).mono ?_
            rintro e _ ⟨rfl, rfl⟩
            go_wp2_with fail
            go_roundw
            case rel => exact ⟨k + 1, 0, N + x.q, by omega, by go_num, rfl, rfl, HB.out.alloc HB.out.size _, .inl ⟨rfl, HV.out.symm, by have := HF.out; omega, HF.out.2.2⟩⟩
            case measure => simp [intOf]; omega
          · have q1 : (x.s == f) = true := by rw [beq_iff_eq]; exact m1
            have q2 : (x.b == u) = true := by rw [beq_iff_eq]; exact m2
            have q3 : (x.a == a) = true := by rw [beq_iff_eq]; exact m3
            have hval := HST.out
            unfold shareG at hval
            rw [if_neg (show ¬ (1 : Int) = 0 by decide)] at hval
            rw [if_pos ⟨m1, m2, m3⟩] at hval
            have HV := Lib.hid hval
            have HF := Lib.hid (show (0 ≤ N ∧ N ≤ 4611686018427387904) ∧ (0 ≤ x.q ∧ x.q ≤ 4611686018427387904) ∧ 4611686018427387904 < N + x.q from ⟨HR.out, HXQ.out, m4⟩)
            clear m1 m2 m3 m4 hval
            go_wp2_with fail
            refine (refadd_no N x.q _ HF.out).mono ?_
            rintro e _ ⟨rfl, rfl⟩
            go_wp2_with fail
            go_roundw
            case rel => exact ⟨k + 1, 1, 0, by omega, by go_num, rfl, rfl, HB.out.alloc HB.out.size _, .inr ⟨rfl, rfl, by have := HF.out.2.2; have := HV.out; have := HLE.out; omega⟩⟩
            case measure => simp [intOf]; omega
      · have HBG := Lib.hid hbig -- ARM stop
        have hki : (k : Int) < (ts.length : Int) := by omega
        have dk : decide ((k : Int) < (ts.length : Int)) = true := decide_eq_true hki
        clear hbig
        go_wp2_with fail
        go_ret2
        exact ⟨fun h => absurd HBG.out (by omega), fun _ => rfl, HB.out⟩
    · obtain rfl : k = ts.length := by omega -- ARM done
      rw [List.take_length] at hor
      have HO := Lib.hid hor
      clear hor
      go_wp2_with fail
      go_ret2
      refine ⟨fun h => ?_, fun h => ?_, HB.out⟩
      · rcases HO.out with ⟨rfl, rfl, _⟩ | ⟨_, _, h2⟩
        · rfl
        · omega
      · rcases HO.out with ⟨_, rfl, _, h2⟩ | ⟨rfl, rfl, _⟩
        · omega
        · rfl
end Go.Proofs.Ytggpdbfkfcoejaa
