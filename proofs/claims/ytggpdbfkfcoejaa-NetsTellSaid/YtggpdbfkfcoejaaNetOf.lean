/-
  nets.Of by contract.
-/
import Derived.Test.YtggpdbfkfcoejaaMoves
import Derived.Test.YtggpdbfkfcoejaaIdx
import Derived.Test.YtggpdbfkfcoejaaSortAny
import Derived.BigRegion
import Derived.Deep.DeepMust
import Derived.RegionTactic
import Derived.Deep.RegionHeld3
import Derived.Deep.RegionWith
namespace Go.Proofs.Ytggpdbfkfcoejaa
open Go.RowKit Go.Maps

def OfRel (w : World) (ts : List TrD) (i : Value) (wr : World) : Prop :=
  ∃ k : Nat, k ≤ ts.length ∧ i = .int .i64 k ∧ MapT wr w.heap.size (2 * k) (tot (msOf (ts.take k))) ∧ Below w.heap.size w wr
def OfRel2 (w : World) (ms : List (KeyD × Int)) (t : TrD) (n : Nat) (i : Value) (wr : World) : Prop :=
  ∃ j : Nat, j ≤ 2 ∧ i = .int .i64 j ∧ MapT wr w.heap.size (n + j) (tot (ms ++ (mv t).take j)) ∧ Below w.heap.size w wr

theorem net_info : (Try.prog.info? 34).map (fun i => (i.zero, i.size, i.bytes)) = some (some (.agg #[.int .i64 0, .int .i64 0, .int .i64 0, .int .i64 0, .int .i64 0]), 5, 40) := by kernel_rfl
/-- The net of a key. -/
def netOf (T : KeyD → Int) (k : KeyD) : NetD := ⟨k.f, k.t, k.l, k.a, T k - T k.back⟩
theorem netOf_inj {T : KeyD → Int} {k k' : KeyD} (h : netOf T k = netOf T k') : k = k' := by
  cases k
  cases k'
  simp [netOf] at h
  simp [h]
theorem owns_size {w : World} {b n : Nat} {D : DataW Unit} (h : w.ownsMap Try.prog 44 (plainElem Try.prog 3) b n D) : Maps.size D ≤ n := by
  obtain ⟨es, clock, hb, F, hs, rfl⟩ := h
  rw [Maps.size_eq, length_sorted]
  simpa using hs
/-- What holds at every round's head of the range over the map. -/
structure RanRel (w : World) (b r n : Nat) (D : DataW Unit) (T : KeyD → Int) (out : Value) (wr : World) (left : Lit → Bool) (cnt : Nat) (xs : List NetD) : Prop where
  ran : wr.ranges Try.prog 44 (plainElem Try.prog 3) b r n D left cnt
  own : wr.ownsRow w.heap.size 34 5 out xs.length (nCells xs)
  nb : out.ownBlock ≠ some b
  nr : out.ownBlock ≠ some r
  b : Below w.heap.size w wr
  len : xs.length + cnt ≤ Maps.size D
  mem : ∀ x ∈ xs, ∃ k : KeyD, k.wf ∧ T k.back < T k ∧ x = netOf T k ∧ left k.lit = false
  all : ∀ k : KeyD, k.wf → Maps.has D k.lit = true → left k.lit = false → T k.back < T k → netOf T k ∈ xs
  nd : xs.Nodup
def OfRel3 (w : World) (b r n : Nat) (D : DataW Unit) (T : KeyD → Int) (out : Value) (wr : World) : Prop := ∃ left cnt xs, RanRel w b r n D T out wr left cnt xs
/-- The nets: each once, in order. -/
def NetsR (T : KeyD → Int) (ys : List NetD) : Prop := ys.Pairwise keyLt ∧ ∀ x, x ∈ ys ↔ ∃ k : KeyD, k.wf ∧ T k.back < T k ∧ x = netOf T k

theorem netsR_done {w wr : World} {b r n cnt : Nat} {D : DataW Unit} {T : KeyD → Int} {out : Value} {left : Lit → Bool} {xs ys : List NetD} (h : RanRel w b r n D T out wr left cnt xs) (hl : ∀ kl, left kl = false)
    (hat : ∀ k : KeyD, k.wf → D.atKey k.lit (.lit (.int .i64 0)) = .lit (.int .i64 (T k))) (hnn : ∀ k, 0 ≤ T k) (hp : ys.Perm xs) (hs : ys.Pairwise fun x y => lessN y x = false) : NetsR T ys := by
  have hmem : ∀ x, x ∈ ys ↔ ∃ k : KeyD, k.wf ∧ T k.back < T k ∧ x = netOf T k := by
    intro x
    rw [hp.mem_iff]
    constructor
    · intro hx
      obtain ⟨k, h1, h2, h3, _⟩ := h.mem x hx
      exact ⟨k, h1, h2, h3⟩
    · rintro ⟨k, h1, h2, rfl⟩
      cases hh : Maps.has D k.lit with
      | true => exact h.all k h1 hh (hl _) h2
      | false =>
        have e := atKey_of_not_has hh (.lit (.int .i64 0))
        rw [hat k h1] at e
        injection e with e
        injection e with _ e
        have := hnn k.back
        omega
  refine ⟨?_, hmem⟩
  have hnd : ys.Nodup := hp.nodup_iff.2 h.nd
  rw [List.pairwise_iff_getElem] at hs ⊢
  intro i j hi hj hij
  have h1 := hs i j hi hj hij
  have hne : ys[i] ≠ ys[j] := (List.pairwise_iff_getElem.1 hnd) i j hi hj hij
  obtain ⟨k, _, hk, ek⟩ := (hmem _).1 (List.getElem_mem hi)
  obtain ⟨k', _, hk', ek'⟩ := (hmem _).1 (List.getElem_mem hj)
  have h2 : ¬ keyLt ys[j] ys[i] := fun h => by rw [(lessN_iff _ _).2 h] at h1; cases h1
  rw [ek, ek'] at h2 hne ⊢
  have hkk : k ≠ k' := fun e => hne (by rw [e])
  have hkb : k ≠ k'.back := fun e => by
    subst e
    have : k'.back.back = k' := rfl
    rw [this] at hk
    omega
  obtain ⟨f, t, l, a⟩ := k
  obtain ⟨f', t', l', a'⟩ := k'
  simp only [keyLt, netOf] at h2 ⊢
  have c1 : ¬ (f = f' ∧ t = t' ∧ l = l' ∧ a = a') := fun ⟨e1, e2, e3, e4⟩ => hkk (by rw [e1, e2, e3, e4])
  have c2 : ¬ (f = t' ∧ t = f' ∧ l = l' ∧ a = a') := fun ⟨e1, e2, e3, e4⟩ => hkb (by rw [e1, e2, e3, e4]; rfl)
  omega
theorem left_of {left : Lit → Bool} {k k' : KeyD} (hk : k.wf) (hk' : k'.wf) (h : (left k'.lit && !k'.lit.sameKey k.lit) = false) : left k'.lit = false ∨ k' = k := by
  cases e : left k'.lit with
  | false => exact .inl rfl
  | true =>
    rw [e] at h
    simp at h
    exact .inr (lit_inj hk' hk (WideAt.sameKey_eq h))
/-- A round in which nothing is laid. -/
theorem RanRel.no {w wr w1 : World} {b r n cnt cnt1 : Nat} {D : DataW Unit} {T : KeyD → Int} {out : Value} {left : Lit → Bool} {xs : List NetD} (h : RanRel w b r n D T out wr left cnt xs) {k : KeyD} (hk : k.wf)
    (hran1 : w1.ranges Try.prog 44 (plainElem Try.prog 3) b r n D (fun z => left z && !z.sameKey k.lit) cnt1) (hg1 : wr.grownBy w1 (some r)) (hlt1 : cnt1 < cnt) (hr : w.heap.size ≤ r) (hno : ¬ T k.back < T k) (o : Obj) :
    RanRel w b r n D T out (w1.alloc o) (fun z => left z && !z.sameKey k.lit) cnt1 xs := by
  refine ⟨hran1.alloc o, (own_fr h.own (Fr.of_grown (S := fun j => j = r) hg1 (fun j hj => by injection hj with hj; exact hj.symm)) (fun j hj e => h.nr (by rw [hj, e]))).alloc o, h.nb, h.nr, (below_only h.b hg1 h.b.size hr).alloc (by have := hg1.size; have := h.b.size; omega) o, by have := h.len; omega, fun x hx => ?_, fun k' hk' hh hl hT => ?_, h.nd⟩
  · obtain ⟨k', h1, h2, h3, h4⟩ := h.mem x hx
    exact ⟨k', h1, h2, h3, by simp [h4]⟩
  · rcases left_of hk hk' hl with e | e
    · exact h.all k' hk' hh e hT
    · subst e
      exact absurd hT hno
/-- A round in which the net is laid. -/
theorem RanRel.yes {w wr w1 w2 : World} {b r n cnt cnt1 : Nat} {D : DataW Unit} {T : KeyD → Int} {out v2 : Value} {left : Lit → Bool} {xs : List NetD} (h : RanRel w b r n D T out wr left cnt xs) {k : KeyD} (hk : k.wf) (hlk : left k.lit = true)
    (hran1 : w1.ranges Try.prog 44 (plainElem Try.prog 3) b r n D (fun z => left z && !z.sameKey k.lit) cnt1) (hg1 : wr.grownBy w1 (some r)) (hlt1 : cnt1 < cnt) (hr : w.heap.size ≤ r) (hyes : T k.back < T k) (o o' : Obj)
    (hown2 : w2.ownsRow w.heap.size 34 5 v2 (xs.length + 1) (nCells xs ++ encN (netOf T k))) (hg2 : ((w1.alloc o).alloc o').grownBy w2 out.ownBlock) (hat2 : v2.ownBlock = out.ownBlock ∨ v2.ownBlock = some ((w1.alloc o).alloc o').heap.size) :
    RanRel w b r n D T v2 w2 (fun z => left z && !z.sameKey k.lit) cnt1 (xs ++ [netOf T k]) := by
  have hbl := hran1.owns.lt
  have hrl := hran1.lt
  have hnew : ∀ j, j < w1.heap.size → out.ownBlock ≠ some j → v2.ownBlock ≠ some j := fun j hj hne e => by
    rcases hat2 with e' | e'
    · exact hne (e'.symm.trans e)
    · rw [e] at e'
      injection e' with e'
      simp at e'
      omega
  have hb1 : Below w.heap.size w ((w1.alloc o).alloc o') := ((below_only h.b hg1 h.b.size hr).alloc (by have := hg1.size; have := h.b.size; omega) o).alloc (by have := hg1.size; have := h.b.size; simp; omega) o'
  refine ⟨((hran1.alloc o).alloc o').kept hg2 (Ne.symm h.nb) (Ne.symm h.nr), ?_, hnew b hbl h.nb, hnew r hrl h.nr, hb1.grown hg2 hb1.size (fun j hj => (own_block h.own hj).1), by have := h.len; simp; omega, fun x hx => ?_, fun k' hk' hh hl hT => ?_, ?_⟩
  · rw [nCells_append, List.length_append]
    simpa [nCells] using hown2
  · rcases List.mem_append.1 hx with hx | hx
    · obtain ⟨k', h1, h2, h3, h4⟩ := h.mem x hx
      exact ⟨k', h1, h2, h3, by simp [h4]⟩
    · simp at hx
      subst hx
      exact ⟨k, hk, hyes, rfl, by simp [WideAt.sameKey_self (keyLaw.key (lit_of hk))]⟩
  · rcases left_of hk hk' hl with e | e
    · exact List.mem_append.2 (.inl (h.all k' hk' hh e hT))
    · subst e
      simp
  · rw [List.nodup_append]
    refine ⟨h.nd, by simp, fun x hx y hy e => ?_⟩
    simp at hy
    subst hy
    subst e
    obtain ⟨k', h1, h2, h3, h4⟩ := h.mem _ hx
    rw [← netOf_inj h3, hlk] at h4
    cases h4
theorem reads_net (w : World) (t : TypeId) (x : NetD) : Reads (w.alloc (.cells #[.int .i64 x.f, .int .i64 x.t, .int .i64 x.l, .int .i64 x.a, .int .i64 x.n] t)) (w.heap.size + 1) 5 (some ⟨w.heap.size, 0, none⟩) 1 (encN x) := by
  refine ⟨rfl, fun _ => ⟨_, rfl, by simp, fun j u hu => ?_⟩⟩
  have hb := Blk.new w t #[.int .i64 x.f, .int .i64 x.t, .int .i64 x.l, .int .i64 x.a, .int .i64 x.n]
  rw [Addr.add_lit, Nat.zero_add, hb.cell, ← hu]
  simp [encN]
/-- The key that has come. -/
theorem ranRel_key {k : KeyD} {c : Int} {kl : Lit} {y : DataW Unit} {ps : List MemPlace} {D : DataW Unit} {T : KeyD → Int} (hkey : keyOf Try.prog 44 k.v = some kl) (hR : plainElem Try.prog 3 (.int .i64 c) = some (y, ps)) (hatx : ∀ zd, D.atKey kl zd = y)
    (hat : ∀ k : KeyD, k.wf → D.atKey k.lit (.lit (.int .i64 0)) = .lit (.int .i64 (T k))) : k.wf ∧ kl = k.lit ∧ c = T k ∧ wf64 c := by
  obtain ⟨k', hk', hw⟩ := key_shape hkey
  have := key_inj hk'
  subst this
  have hl := lit_of hw
  rw [hkey] at hl
  injection hl with hl
  obtain ⟨a, ha, hy, hwa⟩ := plainElem_int_inv Try.underlying3 hR
  injection ha with _ ha
  subst ha
  injection hy with hy _
  have e := hat k hw
  rw [← hl, hatx, hy] at e
  injection e with e
  injection e with _ e
  exact ⟨hw, hl, e, hwa⟩

set_option maxRecDepth 100000 in
set_option maxHeartbeats 8000000 in
theorem of_ok (t : TrsD) (w : World) (ht : t.ok w) (hn : t.n ≤ 1000000) (hsm : SmallM (msOf t.ts)) : Calls Try.prog 9 #[.slice t.A t.n t.c] w fun e w' => ∃ v ys, e = .returned (.tuple #[v, .int .i64 0]) ∧ NetsR (tot (msOf t.ts)) ys ∧ w'.ownsRow w.heap.size 34 5 v ys.length (nCells ys) ∧ Below w.heap.size w w' := by
  have hform := ht.form
  obtain ⟨A, n, c, ts⟩ := t
  obtain ⟨hl, hmax, hread, hwf⟩ := ht
  simp only at hl hmax hform hwf hn hsm ⊢
  obtain rfl := hl
  unfold maxLen at hmax
  have Hf := Lib.hid hform
  have Hwf := Lib.hid hwf
  have Hsm := Lib.hid hsm
  have hmm := @run_makeMap Try.prog
  clear hform hwf hsm hread
  go_enter Try.func9, Try.ntmps9
  go_wp2_with fail
  clear hmm
  go_loopw [19] (fun i wr => OfRel w ts i wr) (fun i _ => ts.length - (intOf i).toNat)
  case atStart => exact ⟨0, Nat.zero_le _, rfl, by simpa [msOf, tot] using MapT.made w, (Below.refl _ _).alloc (Nat.le_refl _) _⟩
  case round =>
    obtain ⟨k, hk, rfl, hm, hb⟩ := hrel
    have HM := Lib.hid hm
    have HB := Lib.hid hb
    clear hm hb
    by_cases hlt : k < ts.length
    · obtain ⟨b, o, rfl, hbo, hcell⟩ := Hf.out (by omega) -- ARM round
      have hsz := Nat.lt_of_lt_of_le hbo HB.out.size
      have hc0 := (HB.out.cell (p := ⟨b, o + k * 7, none⟩) hbo).trans (hcell k hlt 0 _ rfl)
      have hc1 := (HB.out.cell (p := ⟨b, o + k * 7 + 1, none⟩) hbo).trans (hcell k hlt 1 _ rfl)
      have hc2 := (HB.out.cell (p := ⟨b, o + k * 7 + 2, none⟩) hbo).trans (hcell k hlt 2 _ rfl)
      have hc3 := (HB.out.cell (p := ⟨b, o + k * 7 + 3, none⟩) hbo).trans (hcell k hlt 3 _ rfl)
      have hc4 := (HB.out.cell (p := ⟨b, o + k * 7 + 4, none⟩) hbo).trans (hcell k hlt 4 _ rfl)
      have hc5 := (HB.out.cell (p := ⟨b, o + k * 7 + 5, none⟩) hbo).trans (hcell k hlt 5 _ rfl)
      have hc6 := (HB.out.cell (p := ⟨b, o + k * 7 + 6, none⟩) hbo).trans (hcell k hlt 6 _ rfl)
      have hwk := Hwf.out ts[k] (List.getElem_mem hlt)
      have htake := msOf_take ts k hlt
      have hsplit := msOf_split ts k hlt
      have hsm' := Hsm.out
      rw [hsplit] at hsm'
      clear hcell hsplit
      generalize hop : ts[k] = tr at hc0 hc1 hc2 hc3 hc4 hc5 hc6 hwk htake hsm'
      have hki : (k : Int) < (ts.length : Int) := by omega
      have hk0 : (0 : Int) ≤ (k : Int) := Int.natCast_nonneg _
      have Htake := Lib.hid htake
      have Hsm' := Lib.hid hsm'
      have Hwk := Lib.hid hwk
      clear hop htake hsm' hwk
      by_cases hbs : tr.b = tr.s
      · have hd : (tr.b == tr.s) = true := by simp [hbs] -- ARM eq
        have Hbs := Lib.hid hbs
        clear hbs
        go_wp2_with fail
        go_roundw
        case rel =>
          refine ⟨k + 1, by omega, by go_num, ?_, HB.out.alloc HB.out.size _⟩
          rw [Htake.out, show mvs tr = [] from by unfold mvs; rw [if_pos Hbs.out], List.append_nil]
          exact (HM.out.alloc (.cells #[.int .i64 tr.id, .int .i64 tr.b, .int .i64 tr.s, .int .i64 tr.c, .int .i64 tr.p, .int .i64 tr.a, .int .i64 tr.q] 30)).mono (by omega)
        case measure => simp [intOf]; omega
      · have hd : (tr.b == tr.s) = false := by simp [hbs] -- ARM ne
        go_wp2_with fail
        refine (moves_any tr _).mono ?_
        rintro e w1 ⟨rfl, hb1⟩
        have hmv : mvs tr = mv tr := by unfold mvs; rw [if_neg hbs]
        have B1 := (HB.out.alloc HB.out.size (.cells #[.int .i64 tr.id, .int .i64 tr.b, .int .i64 tr.s, .int .i64 tr.c, .int .i64 tr.p, .int .i64 tr.a, .int .i64 tr.q] 30)).trans (hb1.mono (by have := HB.out.size; simp; omega))
        have M1 := Lib.hid ((HM.out.alloc (.cells #[.int .i64 tr.id, .int .i64 tr.b, .int .i64 tr.s, .int .i64 tr.c, .int .i64 tr.p, .int .i64 tr.a, .int .i64 tr.q] 30)).below hb1)
        have B1 := Lib.hid B1
        have Hmv := Lib.hid hmv
        have Hms := Lib.hid (rfl : msOf (ts.take k) = msOf (ts.take k))
        clear hb1 hmv HM
        rw [Hmv.out] at Htake Hsm'
        unfold mvCells
        go_wp2_with fail
        go_loopw [30] (fun i wr => OfRel2 w (msOf (ts.take k)) tr (2 * k) i wr) (fun i _ => 2 - (intOf i).toNat)
        case atStart => exact ⟨0, by omega, rfl, by simpa using M1.out, B1.out⟩
        case round =>
          obtain ⟨j, hj, rfl, hm2, hb2⟩ := hrel
          have Hsm0 : Hid (SmallM (msOf (ts.take k) ++ ((⟨tr.b, tr.s, 0, tr.c⟩ : KeyD), tr.p) :: ((⟨tr.s, tr.b, 1, tr.a⟩, tr.q) :: msOf (ts.drop (k + 1))))) := Hsm'.out
          have Hsm1 : Hid (SmallM ((msOf (ts.take k) ++ [((⟨tr.b, tr.s, 0, tr.c⟩ : KeyD), tr.p)]) ++ ((⟨tr.s, tr.b, 1, tr.a⟩, tr.q) :: msOf (ts.drop (k + 1))))) := by
            show SmallM _
            simpa using Hsm0.out
          rcases (show j = 0 ∨ j = 1 ∨ j = 2 by omega) with hj0 | hj1 | hj2
          · subst hj0 -- ARM j0
            have hix := @index_net0
            have M2 := Lib.hid hm2
            have B2 := Lib.hid hb2
            have hz2 := hm2.lt
            clear hm2 hb2
            have hkw : KeyD.wf ⟨tr.b, tr.s, 0, tr.c⟩ := ⟨Hwk.out.2.1, Hwk.out.2.2.1, rfl, Hwk.out.2.2.2.1⟩
            have hfit := SmallM.fits (k := ⟨tr.b, tr.s, 0, tr.c⟩) (x := tr.p) Hsm0.out
            have M2' : Hid (MapT wr w.heap.size (2 * k + 0) (tot (msOf (ts.take k)))) := by show MapT _ _ _ _; first | exact M2.out | simpa using M2.out
            have M3 := Lib.hid ((M2'.out.alloc (.cells #[.int .i64 tr.b, .int .i64 tr.s, .int .i64 0, .int .i64 tr.c, .int .i64 tr.p] 34)).alloc (.cells #[.int .i64 tr.b, .int .i64 tr.s, .int .i64 0, .int .i64 tr.c] 44))
            have hlk : ∀ m, (Instr.lookup 40 (.map (some w.heap.size)) (.agg #[.int .i64 tr.b, .int .i64 tr.s, .int .i64 0, .int .i64 tr.c]) false).run Try.prog (((wr.alloc (.cells #[.int .i64 tr.b, .int .i64 tr.s, .int .i64 0, .int .i64 tr.c, .int .i64 tr.p] 34)).alloc (.cells #[.int .i64 tr.b, .int .i64 tr.s, .int .i64 0, .int .i64 tr.c] 44)).drewN m) = .ok (.int .i64 (tot (msOf (ts.take k)) (⟨tr.b, tr.s, 0, tr.c⟩ : KeyD))) (((wr.alloc (.cells #[.int .i64 tr.b, .int .i64 tr.s, .int .i64 0, .int .i64 tr.c, .int .i64 tr.p] 34)).alloc (.cells #[.int .i64 tr.b, .int .i64 tr.s, .int .i64 0, .int .i64 tr.c] 44)).drewN m) := fun m => (M3.out.drewN m).look hkw
            have HT1 := Lib.hid (tot_snoc_self (msOf (ts.take k)) (⟨tr.b, tr.s, 0, tr.c⟩ : KeyD) tr.p)
            have HT2 := Lib.hid (fun k' (h : k' ≠ (⟨tr.b, tr.s, 0, tr.c⟩ : KeyD)) => tot_snoc_other (msOf (ts.take k)) (k := (⟨tr.b, tr.s, 0, tr.c⟩ : KeyD)) tr.p h)
            have Hkw := Lib.hid hkw
            clear hkw M2
            go_wp2_with fail
            generalize tot (msOf (ts.take k)) (⟨tr.b, tr.s, 0, tr.c⟩ : KeyD) = T0 at hlk hfit HT1
            go_quiet (first | (go_at_call 18; exact quiet_left (add_ok T0 tr.p _ hfit)))
            have hw64 : wf64 (T0 + tr.p) := by unfold wf64; exact WalkArith.wf_i64 (by omega)
            go_wp2_with (at_mapUpdate; refine wpList_update (M3.out.drewN nq) rfl _ _ _ rfl (⟨tr.b, tr.s, 0, tr.c⟩ : KeyD) (T0 + tr.p) Hkw.out hw64 (by unfold maxLen; omega) rfl rfl rfl HT1.out HT2.out ?_; intro w5 hm5 hg5)
            go_roundw
            case rel => exact ⟨1, by omega, by go_num, by exact hm5, below_only (below_drewN ((B2.out.alloc B2.out.size (.cells #[.int .i64 tr.b, .int .i64 tr.s, .int .i64 0, .int .i64 tr.c, .int .i64 tr.p] 34)).alloc (by have := B2.out.size; simp; omega) (.cells #[.int .i64 tr.b, .int .i64 tr.s, .int .i64 0, .int .i64 tr.c] 44)) nq) hg5 (by have := B2.out.size; simp; omega) (Nat.le_refl _)⟩
            case measure => simp [intOf]
          · subst hj1 -- ARM j1
            have hix := @index_net1
            have M2 := Lib.hid hm2
            have B2 := Lib.hid hb2
            have hz2 := hm2.lt
            clear hm2 hb2
            have hkw : KeyD.wf ⟨tr.s, tr.b, 1, tr.a⟩ := ⟨Hwk.out.2.2.1, Hwk.out.2.1, rfl, Hwk.out.2.2.2.2.2.1⟩
            have hfit := SmallM.fits (k := ⟨tr.s, tr.b, 1, tr.a⟩) (x := tr.q) Hsm1.out
            have M2' : Hid (MapT wr w.heap.size (2 * k + 1) (tot (msOf (ts.take k) ++ [((⟨tr.b, tr.s, 0, tr.c⟩ : KeyD), tr.p)]))) := by show MapT _ _ _ _; first | exact M2.out | simpa using M2.out
            have M3 := Lib.hid ((M2'.out.alloc (.cells #[.int .i64 tr.s, .int .i64 tr.b, .int .i64 1, .int .i64 tr.a, .int .i64 tr.q] 34)).alloc (.cells #[.int .i64 tr.s, .int .i64 tr.b, .int .i64 1, .int .i64 tr.a] 44))
            have hlk : ∀ m, (Instr.lookup 40 (.map (some w.heap.size)) (.agg #[.int .i64 tr.s, .int .i64 tr.b, .int .i64 1, .int .i64 tr.a]) false).run Try.prog (((wr.alloc (.cells #[.int .i64 tr.s, .int .i64 tr.b, .int .i64 1, .int .i64 tr.a, .int .i64 tr.q] 34)).alloc (.cells #[.int .i64 tr.s, .int .i64 tr.b, .int .i64 1, .int .i64 tr.a] 44)).drewN m) = .ok (.int .i64 (tot (msOf (ts.take k) ++ [((⟨tr.b, tr.s, 0, tr.c⟩ : KeyD), tr.p)]) (⟨tr.s, tr.b, 1, tr.a⟩ : KeyD))) (((wr.alloc (.cells #[.int .i64 tr.s, .int .i64 tr.b, .int .i64 1, .int .i64 tr.a, .int .i64 tr.q] 34)).alloc (.cells #[.int .i64 tr.s, .int .i64 tr.b, .int .i64 1, .int .i64 tr.a] 44)).drewN m) := fun m => (M3.out.drewN m).look hkw
            have HT1 := Lib.hid (tot_snoc_self (msOf (ts.take k) ++ [((⟨tr.b, tr.s, 0, tr.c⟩ : KeyD), tr.p)]) (⟨tr.s, tr.b, 1, tr.a⟩ : KeyD) tr.q)
            have HT2 := Lib.hid (fun k' (h : k' ≠ (⟨tr.s, tr.b, 1, tr.a⟩ : KeyD)) => tot_snoc_other (msOf (ts.take k) ++ [((⟨tr.b, tr.s, 0, tr.c⟩ : KeyD), tr.p)]) (k := (⟨tr.s, tr.b, 1, tr.a⟩ : KeyD)) tr.q h)
            have Hkw := Lib.hid hkw
            clear hkw M2
            go_wp2_with fail
            generalize tot (msOf (ts.take k) ++ [((⟨tr.b, tr.s, 0, tr.c⟩ : KeyD), tr.p)]) (⟨tr.s, tr.b, 1, tr.a⟩ : KeyD) = T0 at hlk hfit HT1
            go_quiet (first | (go_at_call 18; exact quiet_left (add_ok T0 tr.q _ hfit)))
            have hw64 : wf64 (T0 + tr.q) := by unfold wf64; exact WalkArith.wf_i64 (by omega)
            go_wp2_with (at_mapUpdate; refine wpList_update (M3.out.drewN nq) rfl _ _ _ rfl (⟨tr.s, tr.b, 1, tr.a⟩ : KeyD) (T0 + tr.q) Hkw.out hw64 (by unfold maxLen; omega) rfl rfl rfl HT1.out HT2.out ?_; intro w5 hm5 hg5)
            go_roundw
            case rel => exact ⟨2, by omega, by go_num, by have := hm5; rw [List.append_assoc] at this; exact this, below_only (below_drewN ((B2.out.alloc B2.out.size (.cells #[.int .i64 tr.s, .int .i64 tr.b, .int .i64 1, .int .i64 tr.a, .int .i64 tr.q] 34)).alloc (by have := B2.out.size; simp; omega) (.cells #[.int .i64 tr.s, .int .i64 tr.b, .int .i64 1, .int .i64 tr.a] 44)) nq) hg5 (by have := B2.out.size; simp; omega) (Nat.le_refl _)⟩
            case measure => simp [intOf]
          · subst hj2 -- ARM j2
            have M2 := Lib.hid hm2
            have B2 := Lib.hid hb2
            clear hm2 hb2
            go_wp2_with fail
            go_roundw
            case rel =>
              refine ⟨k + 1, by omega, by go_num, ?_, B2.out⟩
              rw [Htake.out]
              exact M2.out
            case measure => simp [intOf]; omega
    · obtain rfl : k = ts.length := by omega -- ARM rest
      have hm := HM.out
      rw [List.take_length] at hm
      have hnn : ∀ k, 0 ≤ tot (msOf ts) k := tot_nonneg Hsm.out.1
      obtain ⟨D, hown, hat⟩ := hm
      have hmb := HB.out.size
      have hbl := hown.lt
      have Hat := Lib.hid hat
      have hnx : ∀ k, tot (msOf ts) k ≤ 4611686018427387904 := Hsm.out.2
      have Hnn := Lib.hid hnn
      have Hnx := Lib.hid hnx
      clear HM hat hnn hnx
      obtain ⟨T, hT⟩ : ∃ T, T = tot (msOf ts) := ⟨_, rfl⟩
      rw [← hT] at Hat Hnn Hnx
      have HT := Lib.hid hT
      clear hT
      have hsz := owns_size hown
      obtain ⟨i0, hi0, hz0, hz1, hz2⟩ := info_parts net_info
      go_wp2_with (at_range; refine wpList_range_own _ rfl _ 40 rfl 44 3 keyLaw Try.underlying40 _ w.heap.size (2 * ts.length) D rfl hown ?_; intro w0 hrg0 hg0 hs0)
      go_frame
      have R0 : RanRel w w.heap.size wr.heap.size (2 * ts.length) D T (.slice none 0 0) w0 (Maps.has D) (Maps.size D) [] :=
        ⟨hrg0, World.ownsRow_nil _ _ _ _, by simp [Value.ownBlock], by simp [Value.ownBlock], HB.out.trans ⟨hg0.os, hg0.tape, hg0.output, hg0.size, fun i hi => hg0.block i (by omega) (by simp)⟩, by simp, by simp, (fun k _ h1 h2 => by rw [h1] at h2; cases h2), List.nodup_nil⟩
      have R0 := Lib.hid R0
      clear hown hrg0 hg0 hs0 HB
      generalize wr.heap.size = rb at R0 hbl hmb ⊢
      go_loopw [12] (fun out wx => OfRel3 w w.heap.size rb (2 * ts.length) D T out wx) (fun _ wx => wx.rangeLeft w.heap.size rb)
      case atStart => exact ⟨_, _, _, R0.out⟩
      case round =>
        obtain ⟨left, cnt, xs, hrel⟩ := hrel
        have hown := hrel.own
        obtain ⟨A2, c2, rfl⟩ := own_shape hown
        have RR := Lib.hid hrel
        have hran := hrel.ran
        have hle := hran.left_eq
        clear hrel R0 hown
        go_wp2_with (at_next; go_must (refine wpList_next_ranges _ rfl _ rfl 44 keyLaw (plainElem Try.prog 3) KeyD.v (Value.int .i64) (fun key kl h => (key_shape h).imp fun _ h => h.1) (fun v y h => (plainElem_int_inv Try.underlying3 h).imp fun _ h => h.1) w.heap.size rb (2 * ts.length) D left cnt rfl hran ?_ ?_))
        · intro hc0 hl0 -- ARM done
          have hown := RR.out.own
          have hbw := RR.out.b
          have hxl : xs.length ≤ 2000000 := by have := RR.out.len; omega
          clear hran hle
          have HSo := Lib.hid (sort_any w.heap.size (.slice A2 xs.length c2) xs _ hown (by omega))
          clear hown
          go_wp2_with fail
          refine HSo.out.mono ?_
          rintro e w7 ⟨rfl, ys, hperm, hpw, hown7, hg7⟩
          have hlen7 := hperm.length_eq
          go_wp2_with fail
          go_ret2
          refine ⟨_, ys, rfl, ?_, hown7, ?_⟩
          · rw [← HT.out]
            exact netsR_done RR.out hl0 Hat.out Hnn.out hperm hpw
          · exact hbw.grown hg7 hbw.size (fun j hj => (own_block RR.out.own hj).1)
        · intro x c1 kl y ps w1 cnt1 hkey hlk hR hatx hran1 hlt1 hg1 hs1 hen -- ARM more
          obtain ⟨hxw, rfl, rfl, hcw⟩ := ranRel_key hkey hR hatx Hat.out
          obtain ⟨kf, kt, kl, ka⟩ := x
          simp only [KeyD.v] at hen
          have hkb : KeyD.wf ⟨kt, kf, kl, ka⟩ := ⟨hxw.2.1, hxw.1, hxw.2.2.1, hxw.2.2.2⟩
          have hlk2 : (Instr.lookup 40 (.map (some w.heap.size)) (.agg #[.int .i64 kt, .int .i64 kf, .int .i64 kl, .int .i64 ka]) false).run Try.prog (w1.alloc (.cells #[.int .i64 kf, .int .i64 kt, .int .i64 kl, .int .i64 ka] 44)) = .ok (.int .i64 (T ⟨kt, kf, kl, ka⟩)) (w1.alloc (.cells #[.int .i64 kf, .int .i64 kt, .int .i64 kl, .int .i64 ka] 44)) :=
            MapT.look (k := ⟨kt, kf, kl, ka⟩) ⟨D, (hran1.alloc _).owns, Hat.out⟩ hkb
          have hn1 := Hnn.out ⟨kf, kt, kl, ka⟩
          have hn2 := Hnn.out ⟨kt, kf, kl, ka⟩
          have hm1 := Hnx.out ⟨kf, kt, kl, ka⟩
          have hm2 := Hnx.out ⟨kt, kf, kl, ka⟩
          have HK := Lib.hid hxw
          have HL := Lib.hid hlk
          have HR1 := Lib.hid hran1
          have HG1 := Lib.hid hg1
          have HLT := Lib.hid hlt1
          have hxl : xs.length ≤ 2000000 := by have := RR.out.len; omega
          clear hkey hR hatx hkb hxw hlk hran1 hg1 hran hcw hs1
          obtain ⟨tn, htn⟩ : ∃ tn, tn = T ⟨kf, kt, kl, ka⟩ := ⟨_, rfl⟩
          obtain ⟨tb, htb⟩ : ∃ tb, tb = T ⟨kt, kf, kl, ka⟩ := ⟨_, rfl⟩
          rw [← htn] at hn1 hm1 hen
          rw [← htb] at hn2 hm2 hlk2
          have HTN := Lib.hid htn
          have HTB := Lib.hid htb
          clear htn htb
          by_cases hgt : tb < tn
          · have hd : decide (tb < tn) = true := decide_eq_true hgt -- ARM yes
            have hown1 := own_fr RR.out.own (Fr.of_grown (S := fun j => j = rb) HG1.out (fun j hj => by injection hj with hj; exact hj.symm)) (fun j hj e => RR.out.nr (by rw [hj, e]))
            have HO := Lib.hid ((hown1.alloc (.cells #[.int .i64 kf, .int .i64 kt, .int .i64 kl, .int .i64 ka] 44)).alloc (.cells #[.int .i64 kf, .int .i64 kt, .int .i64 kl, .int .i64 ka, .int .i64 (tn - tb)] 34))
            have hbs := RR.out.b.size
            have hgs := HG1.out.size
            clear hown1
            go_wp2_with (at_builtin; refine wpList_append_any _ rfl (.tmp 80) (.tmp 93) _ rfl w.heap.size 34 i0 _ 5 40 Try.underlying25 hi0 hz0 hz1 hz2 rfl (by omega) (.slice A2 xs.length c2) xs.length (nCells xs) rfl HO.out ((w1.alloc (.cells #[.int .i64 kf, .int .i64 kt, .int .i64 kl, .int .i64 ka] 44)).heap.size + 1) (some ⟨w1.heap.size + 1, 0, none⟩) 1 1 (encN ⟨kf, kt, kl, ka, tn - tb⟩) rfl (by have := reads_net (w1.alloc (.cells #[.int .i64 kf, .int .i64 kt, .int .i64 kl, .int .i64 ka] 44)) 34 ⟨kf, kt, kl, ka, tn - tb⟩; simpa using this) (by simp [encN, Value.oneCell']) (by simp only [maxLen]; omega) (by omega) (by simp; omega) ?_; intro v2 w2 hown2 hg2 hat2)
            have hy : T (KeyD.back ⟨kf, kt, kl, ka⟩) < T ⟨kf, kt, kl, ka⟩ := by show T ⟨kt, kf, kl, ka⟩ < T ⟨kf, kt, kl, ka⟩; rw [← HTN.out, ← HTB.out]; exact hgt
            have hnet : netOf T ⟨kf, kt, kl, ka⟩ = ⟨kf, kt, kl, ka, tn - tb⟩ := by show NetD.mk kf kt kl ka (T ⟨kf, kt, kl, ka⟩ - T ⟨kt, kf, kl, ka⟩) = _; rw [← HTN.out, ← HTB.out]
            have RN := RR.out.yes HK.out HL.out HR1.out HG1.out HLT.out hmb hy _ _ (by rw [hnet]; exact hown2) hg2 hat2
            go_roundw
            case rel => exact ⟨_, _, _, RN⟩
            case measure =>
              rw [RN.ran.left_eq, hle]
              exact HLT.out
          · have hd : decide (tb < tn) = false := decide_eq_false hgt -- ARM no
            go_wp2_with fail
            go_roundw
            case rel => exact ⟨_, _, _, RR.out.no HK.out HR1.out HG1.out HLT.out hmb (by show ¬ T ⟨kt, kf, kl, ka⟩ < T ⟨kf, kt, kl, ka⟩; rw [← HTN.out, ← HTB.out]; exact hgt) _⟩
            case measure =>
              rw [(HR1.out.alloc _).left_eq, hle]
              exact HLT.out
end Go.Proofs.Ytggpdbfkfcoejaa
