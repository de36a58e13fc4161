/-
  (web).next by contract: the first circle, taken away; or there is none.
-/
import Derived.Test.YthoniedmeeahgaaCirc
namespace Go.Proofs.Ythoniedmeeahgaa
open Go.RowKit Go.Maps

theorem firstC_weak {xs : List NetD} {all : List Int} : ∀ {ss : List Int}, ss.Pairwise (· ≤ ·) → firstC xs all ss ≠ [] → ∃ s ∈ ss, firstC xs all ss = circleL xs all s ∧ circleL xs all s ≠ [] ∧ ∀ q ∈ ss, q < s → circleL xs all q = [] := by
  intro ss
  induction ss with
  | nil => intro _ h; exact absurd rfl h
  | cons a ss ih =>
    intro hp h
    rw [List.pairwise_cons] at hp
    unfold firstC at h ⊢
    simp only at h ⊢
    by_cases hc : (circleL xs all a).isEmpty = true
    · rw [if_pos hc] at h ⊢
      obtain ⟨s, h1, h2, h3, h4⟩ := ih hp.2 h
      refine ⟨s, by simp [h1], h2, h3, fun q hq hlt => ?_⟩
      rcases List.mem_cons.1 hq with rfl | hq
      · simpa using hc
      · exact h4 q hq hlt
    · rw [if_neg hc] at h ⊢
      refine ⟨a, by simp, rfl, h, fun q hq hlt => ?_⟩
      rcases List.mem_cons.1 hq with rfl | hq
      · omega
      · have := hp.1 q hq
        omega
/-- Who is in a circle gives to someone. -/
theorem circle_gives {xs : List NetD} {all : List Int} {s : Int} (h : circleL xs all s ≠ []) : ∃ t, hasE xs s t = true := by
  obtain ⟨hC, h0, _⟩ := circleL_some h
  have := hC.gives 0 (List.length_pos_iff.2 hC.ne)
  rw [h0] at this
  exact ⟨_, this⟩
theorem firstC_edges {xs : List NetD} {all : List Int} {es : List EdD} (h : EdgesT (TOf xs) es) (hp : all.Pairwise (· < ·)) (hall : ∀ x ∈ xs, x.f ∈ all) : firstC xs all (es.map fun e => e.f) = firstC xs all all := by
  have hw : (es.map fun e => e.f).Pairwise (· ≤ ·) := by
    rw [List.pairwise_map]
    refine h.1.imp ?_
    intro a b hab
    unfold edLt at hab
    omega
  have hin : ∀ s, circleL xs all s ≠ [] → s ∈ (es.map fun e => e.f) ∧ s ∈ all := fun s hs => by
    obtain ⟨t, ht⟩ := circle_gives hs
    refine ⟨List.mem_map.2 ⟨⟨s, t⟩, (edges_has h).2 ht, rfl⟩, ?_⟩
    obtain ⟨x, hx, e1, _⟩ := hasE_iff.1 ht
    rw [← e1]
    exact hall x hx
  by_cases h1 : firstC xs all (es.map fun e => e.f) = []
  · by_cases h2 : firstC xs all all = []
    · rw [h1, h2]
    · obtain ⟨s, _, _, h3, _⟩ := firstC_some hp h2
      exact absurd (firstC_none h1 s (hin s h3).1) h3
  · obtain ⟨s, _, e1, h3, h4⟩ := firstC_weak hw h1
    by_cases h2 : firstC xs all all = []
    · exact absurd (firstC_none h2 s (hin s h3).2) h3
    · obtain ⟨s', _, e1', h3', h4'⟩ := firstC_some hp h2
      have : s = s' := by
        rcases Int.lt_trichotomy s s' with hlt | e | hlt
        · exact absurd (h4' s (hin s h3).2 hlt) h3
        · exact e
        · exact absurd (h4 s' (hin s' h3').1 hlt) h3'
      rw [e1, e1', this]
theorem firstC_skip {xs : List NetD} {all : List Int} : ∀ (pre post : List Int), (∀ s ∈ pre, circleL xs all s = []) → firstC xs all (pre ++ post) = firstC xs all post := by
  intro pre
  induction pre with
  | nil => intro post _; rfl
  | cons a pre ih =>
    intro post h
    rw [List.cons_append]
    unfold firstC
    simp only
    rw [h a (by simp)]
    simp only [List.isEmpty_nil, if_true]
    rw [ih post (fun s hs => h s (by simp [hs]))]
    cases post <;> rfl
theorem firstC_at {xs : List NetD} {all : List Int} {ss : List Int} {m : Nat} (hm : m < ss.length) (h : ∀ k, k < m → circleL xs all (ss.getD k 0) = []) (hs : circleL xs all (ss.getD m 0) ≠ []) : firstC xs all ss = circleL xs all (ss.getD m 0) := by
  have e : ss = ss.take m ++ ss[m] :: ss.drop (m + 1) := by simp
  conv => lhs; rw [e]
  rw [firstC_skip]
  · rw [getD_eq hm] at hs ⊢
    unfold firstC
    simp only
    rw [if_neg (by simpa using hs)]
  · intro s hs'
    obtain ⟨k, hk, rfl⟩ := List.getElem_of_mem hs'
    rw [List.length_take] at hk
    have := h k (by omega)
    rw [getD_eq (by omega)] at this
    rw [List.getElem_take]
    exact this
theorem firstC_over {xs : List NetD} {all : List Int} {ss : List Int} (h : ∀ k, k < ss.length → circleL xs all (ss.getD k 0) = []) : firstC xs all ss = [] := by
  have := firstC_skip (xs := xs) (all := all) ss [] (fun s hs => by
    obtain ⟨k, hk, rfl⟩ := List.getElem_of_mem hs
    have := h k hk
    rwa [getD_eq hk] at this)
  rw [List.append_nil] at this
  exact this
theorem neq_some2 (a : Addr) (m c : Nat) (w : World) : (binOp BinOp.neq 29 (.slice (some a) m c) (.slice none 0 0)).run Try.prog w = .ok (.bool true) w := by kernel_rfl
theorem neq_none2 (w : World) : (binOp BinOp.neq 29 (.slice none 0 0) (.slice none 0 0)).run Try.prog w = .ok (.bool false) w := by kernel_rfl
/-- The circles are taken one after the other. -/
structure NxAt (w : World) (b n : Nat) (xs : List NetD) (all : List Int) (es : List EdD) (vE : Value) (m : Nat) (wr : World) : Prop where
  no : ∀ k, k < m → circleL xs all ((es.map fun e => e.f).getD k 0) = []
  web : WebAt wr b n (TOf xs)
  blk : Blk wr w.heap.size 32 #[.slice none 0 0, .slice none 0 0]
  ed : wr.ownsRow w.heap.size 47 2 vE es.length (eCells es)
  bel : Below w.heap.size w wr
theorem NxAt.below {w wr w' : World} {b n m : Nat} {xs : List NetD} {all : List Int} {es : List EdD} {vE : Value} (h : NxAt w b n xs all es vE m wr) (hb : Below wr.heap.size wr w') : NxAt w b n xs all es vE m w' :=
  ⟨h.no, h.web.below hb, h.blk.below hb h.blk.lt, own_below h.ed hb, h.bel.trans (hb.mono h.bel.size)⟩
def NextP (w : World) (b n : Nat) (xs : List NetD) (all : List Int) (e : Ending) (w' : World) : Prop :=
  ∃ vp vl ok, e = .returned (.tuple #[.agg #[vp, vl], .bool ok]) ∧ (firstC xs all all = [] → ok = false ∧ vp = .slice none 0 0 ∧ vl = .slice none 0 0 ∧ WebAt w' b n (TOf xs)) ∧ (firstC xs all all ≠ [] → ok = true ∧ RingAt w' vp vl (ringOf xs (firstC xs all all)) ∧ WebAt w' b n (TOf (cutAll xs (firstC xs all all)))) ∧ Fr (OffB b) w w'
/-- Two cells of a ring are written. -/
theorem ring_stored {w wr : World} {b n : Nat} {T : EdD → List ItD} (hw : WebAt wr b n T) (hg : Blk wr w.heap.size 32 #[.slice none 0 0, .slice none 0 0]) (hf : Fr (OffB b) w wr) (x y : Value) :
    Blk ((wr.setCell ⟨w.heap.size, 0, none⟩ x).setCell ⟨w.heap.size, 1, none⟩ y) w.heap.size 32 #[x, y] ∧ WebAt ((wr.setCell ⟨w.heap.size, 0, none⟩ x).setCell ⟨w.heap.size, 1, none⟩ y) b n T ∧ Fr (OffB b) w ((wr.setCell ⟨w.heap.size, 0, none⟩ x).setCell ⟨w.heap.size, 1, none⟩ y) ∧ TK3 wr ((wr.setCell ⟨w.heap.size, 0, none⟩ x).setCell ⟨w.heap.size, 1, none⟩ y) := by
  have hf5 : Fr (fun i => i = w.heap.size) wr ((wr.setCell ⟨w.heap.size, 0, none⟩ x).setCell ⟨w.heap.size, 1, none⟩ y) := ((Fr.refl (fun i => i = w.heap.size) wr).set _ _ _ (fun _ => rfl)).set _ _ _ (fun _ => rfl)
  have tk : ∀ e : TypeId, 32 ≠ e → TK e wr ((wr.setCell ⟨w.heap.size, 0, none⟩ x).setCell ⟨w.heap.size, 1, none⟩ y) := fun e he => TK.of_fr hf5 (fun i hi => by subst hi; exact TK.ne_blk hg he)
  exact ⟨by simpa using (hg.set_ 0 x).set_ 1 y, hw.fr hf5 (hw.ne_blk hg) (tk _ (by decide)), hf.new hf5 (fun i hi h => by omega), ⟨tk _ (by decide), tk _ (by decide), tk _ (by decide)⟩⟩
def NxRel (w : World) (b n : Nat) (xs : List NetD) (all : List Int) (es : List EdD) (vE i : Value) (wr : World) : Prop := ∃ m, m ≤ es.length ∧ i = .int .i64 m ∧ NxAt w b n xs all es vE m wr
set_option maxRecDepth 100000 in
set_option maxHeartbeats 4000000 in
theorem next_any (b n : Nat) (xs : List NetD) (all : List Int) (w : World) (hw : WebAt w b n (TOf xs)) (hwf : ∀ x ∈ xs, wf64 x.f ∧ wf64 x.t) (hp : all.Pairwise (· < ·)) (hall : ∀ x ∈ xs, x.f ∈ all ∧ x.t ∈ all) (hal : ∀ q ∈ all, wf64 q) (hlen : all.length ≤ 900) :
    Calls Try.prog 20 #[.map (some b)] w (NextP w b n xs all) := by
  have hn := hw.small
  have HWF := Lib.hid hwf
  have HP := Lib.hid hp
  have HA := Lib.hid hall
  have HL := Lib.hid hal
  have HW := Lib.hid hw
  clear hwf hp hall hal hw
  go_enter Try.func20, Try.ntmps20
  go_wp2_with fail
  have hb0 : Below w.heap.size w (w.alloc (.cells #[.slice none 0 0, .slice none 0 0] 32)) := (Below.refl _ _).alloc (Nat.le_refl _) _
  refine (sorted_any b n (TOf xs) _ (HW.out.below hb0)).mono ?_
  rintro e w1 ⟨vE, es, rfl, hE, hel, hoE, hb1⟩
  obtain ⟨AE, cE, rfl⟩ := own_shape hoE
  have HE := Lib.hid hE
  have HN0 := Lib.hid (show NxAt w b n xs all es (.slice AE es.length cE) 0 w1 from ⟨fun k hk => absurd hk (Nat.not_lt_zero _), (HW.out.below hb0).below hb1, (Blk.new w _ _).below hb1 (by simp), own_mono hoE hb0.size, hb0.trans (hb1.mono hb0.size)⟩)
  clear hE hoE hb0 hb1
  go_wp2_with fail
  go_loopw [10] (fun i wr => NxRel w b n xs all es (.slice AE es.length cE) i wr) (fun i _ => es.length - (intOf i).toNat)
  case atStart => exact ⟨0, Nat.zero_le _, rfl, HN0.out⟩
  case round =>
    obtain ⟨m, hm, rfl, hN⟩ := hrel
    have hm0 : (0 : Int) ≤ (m : Int) := Int.natCast_nonneg _
    have ej : IntKind.i64.wrap ((m : Int) + 1) = (m : Int) + 1 := by rw [IntKind.wrap_i64]; omega
    clear HN0
    by_cases hlt : m < es.length
    · obtain ⟨gE, rfl, hgE, hcE⟩ := own_ed hN.ed (by omega) rfl -- ARM round
      have hji : (m : Int) < (es.length : Int) := by omega
      obtain ⟨k0, k1⟩ := hcE m hlt
      obtain ⟨K, hK⟩ : ∃ K, K = es[m] := ⟨_, rfl⟩
      rw [← hK] at k0 k1
      have hKw : K.wf := TOf_wf HWF.out ((HE.out.2 K).1 (by rw [hK]; exact List.getElem_mem hlt))
      have hKg : (es.map fun e => e.f).getD m 0 = K.f := by rw [getD_eq (by simpa using hlt), hK]; simp
      have hbW : Below wr.heap.size wr (wr.alloc (.cells #[.int .i64 K.f, .int .i64 K.t] 47)) := (Below.refl _ _).alloc (Nat.le_refl _) _
      have HN := Lib.hid hN
      have HKG := Lib.hid hKg
      clear hcE hK hN hKg
      go_wp2_with fail
      refine (circle_any b n xs all K.f _ (HN.out.web.below hbW) HWF.out hKw.1 HP.out (fun x hx => (HA.out x hx).2) HL.out (by omega)).mono ?_
      rintro e w3 ⟨v, rfl, hv0, hv1, hpa, hb3⟩
      have HB3 := Lib.hid (hbW.trans (hb3.mono hbW.size))
      have HPA := Lib.hid hpa
      clear hb3 hpa hbW
      by_cases hc : circleL xs all K.f = []
      · obtain rfl := hv0 hc -- ARM none
        have n1 := neq_none2
        have HC := Lib.hid hc
        clear hv0 hv1 hc
        go_wp2_with fail
        refine ⟨⟨m + 1, hlt, rfl, ?_⟩, by simp only [intOf]; omega⟩
        have h2 := HN.out.below HB3.out
        refine ⟨fun k hk => ?_, h2.web, h2.blk, h2.ed, h2.bel⟩
        by_cases e : k = m
        · subst e
          rw [HKG.out]
          exact HC.out
        · exact h2.no k (by omega)
      · obtain ⟨a, c, rfl⟩ := hv1 hc -- ARM some
        have n1 := neq_some2 a (circleL xs all K.f).length c
        have hf : firstC xs all all = circleL xs all K.f := by
          rw [← firstC_edges HE.out HP.out (fun x hx => (HA.out x hx).1), ← HKG.out]
          exact firstC_at (by simpa using hlt) HN.out.no (by rw [HKG.out]; exact hc)
        obtain ⟨hC, _, hsub⟩ := circleL_some hc
        have HF := Lib.hid hf
        have HC := Lib.hid hc
        have HCC := Lib.hid hC
        have HSU := Lib.hid hsub
        clear hv0 hv1 hc hf hC hsub
        go_wp2_with fail
        have h2 := HN.out.below HB3.out
        have hcl : (circleL xs all K.f).length ≤ 1000 := by
          have := nodup_le HCC.out.nd HSU.out
          omega
        refine (ring_any b n (TOf xs) (circleL xs all K.f) _ w3 h2.web HPA.out HCC.out.nd (List.length_pos_iff.2 HCC.out.ne) hcl (fun q hq => by
          rcases HSU.out q hq with rfl | h
          · exact hKw.1
          · exact HL.out q h)).mono ?_
        rintro e w4 ⟨vl, rfl, hlg, hw4, hf4⟩
        have hlg' : LegsAt w4 vl (ringOf xs (circleL xs all K.f)).legs := by rw [← legs_all]; exact hlg
        have hra : RingAt w4 (.slice (some a) (circleL xs all K.f).length c) vl (ringOf xs (circleL xs all K.f)) := ⟨RdT.kept HPA.out (TK.off h2.web hf4), hlg'⟩
        have hnb : ¬ OffB b w.heap.size := fun h => by
          have := (HW.out).lt
          have e : w.heap.size = b := h
          omega
        have hblk := h2.blk.fr hf4 hnb
        have hfr : Fr (OffB b) w w4 := (Fr.of_below h2.bel).trans hf4
        have hweb : WebAt w4 b n (TOf (cutAll xs (circleL xs all K.f))) := by
          have := hw4
          rw [dropN_TOf] at this
          exact this
        obtain ⟨_, _, A', c', _, rfl⟩ := hra.shape
        have y0 := hblk.cell 0
        have y1 := hblk.cell 1
        have z0 := hblk.frozen 0
        have z1 := hblk.frozen 1
        have hl0 := hblk.lt
        simp at y0 y1
        have HRA := Lib.hid hra
        have HWB := Lib.hid hweb
        have HFR := Lib.hid hfr
        have HBL := Lib.hid hblk
        clear h2 hlg hw4 hf4 hlg' hra hfr hweb hblk hcl hnb
        go_wp2_with fail
        obtain ⟨s1, s2, s3, s4⟩ := ring_stored HWB.out HBL.out HFR.out (.slice (some a) (circleL xs all K.f).length c) (.slice A' (ringOf xs (circleL xs all K.f)).legs.length c')
        refine bodyPost_ret (results_row_tmp Try.results20 _ _ w.heap.size _ _ _ rfl s1 Try.underlying32 rfl (by kernel_rfl)) rfl ?_
        refine ⟨_, _, true, rfl, fun h => ?_, fun _ => ?_, s3⟩
        · rw [HF.out] at h
          exact absurd h HC.out
        · rw [HF.out]
          exact ⟨rfl, HRA.out.kept s4, s2⟩
    · obtain rfl : m = es.length := by omega -- ARM done
      have hji : ¬ ((es.length : Int) < (es.length : Int)) := by omega
      have HN := Lib.hid hN
      have y0 := hN.blk.cell 0
      have y1 := hN.blk.cell 1
      have z0 := hN.blk.frozen 0
      have z1 := hN.blk.frozen 1
      have hl0 := hN.blk.lt
      simp at y0 y1
      clear hN
      go_wp2_with fail
      obtain ⟨s1, s2, s3, s4⟩ := ring_stored HN.out.web HN.out.blk (Fr.of_below HN.out.bel) (.slice none 0 0) (.slice none 0 0)
      refine bodyPost_ret (results_row_tmp Try.results20 _ _ w.heap.size _ _ _ rfl s1 Try.underlying32 rfl (by kernel_rfl)) rfl ?_
      refine ⟨_, _, false, rfl, fun _ => ⟨rfl, rfl, rfl, s2⟩, fun h => ?_, s3⟩
      refine absurd ?_ h
      rw [← firstC_edges HE.out HP.out (fun x hx => (HA.out x hx).1)]
      exact firstC_over (fun k hk => HN.out.no k (by simpa using hk))
end Go.Proofs.Ythoniedmeeahgaa
