/-
  (web).ring by contract: the parties' ring; its edges are gone.
-/
import Derived.Test.YthoniedmeeahgaaWebRd
import Derived.Deep.RegionHeld3
import Derived.Deep.DeepMust
namespace Go.Proofs.Ythoniedmeeahgaa
open Go.RowKit Go.Maps

def edgeAt (ps : List Int) (k : Nat) : EdD := ⟨ps.getD k 0, nextOf ps k⟩
def dropN (T : EdD → List ItD) (ps : List Int) (m : Nat) : EdD → List ItD := fun K => if ∃ k, k < m ∧ K = edgeAt ps k then [] else T K
theorem dropN_zero (T : EdD → List ItD) (ps : List Int) : dropN T ps 0 = T := by
  funext K
  unfold dropN
  rw [if_neg]
  rintro ⟨k, hk, _⟩
  omega
theorem edgeAt_inj {ps : List Int} (hnd : ps.Nodup) {j k : Nat} (hj : j < ps.length) (hk : k < ps.length) (h : edgeAt ps j = edgeAt ps k) : j = k := by
  have h1 : ps.getD j 0 = ps.getD k 0 := congrArg EdD.f h
  rw [getD_eq hj, getD_eq hk] at h1
  exact (List.getElem_inj hnd).1 h1
theorem dropN_at {T : EdD → List ItD} {ps : List Int} (hnd : ps.Nodup) {m : Nat} (hm : m < ps.length) : dropN T ps m (edgeAt ps m) = T (edgeAt ps m) := by
  unfold dropN
  rw [if_neg]
  rintro ⟨k, hk, e⟩
  have := edgeAt_inj hnd hm (by omega) e
  omega
theorem dropN_succ (T : EdD → List ItD) (ps : List Int) (m : Nat) : dropN T ps (m + 1) = dropT (dropN T ps m) (edgeAt ps m) := by
  funext K
  show (if ∃ k, k < m + 1 ∧ K = edgeAt ps k then [] else T K) = if K = edgeAt ps m then [] else if ∃ k, k < m ∧ K = edgeAt ps k then [] else T K
  by_cases h1 : K = edgeAt ps m
  · rw [if_pos ⟨m, by omega, h1⟩, if_pos h1]
  · rw [if_neg h1]
    by_cases h2 : ∃ k, k < m ∧ K = edgeAt ps k
    · obtain ⟨k, hk, e⟩ := h2
      rw [if_pos ⟨k, by omega, e⟩, if_pos ⟨k, hk, e⟩]
    · rw [if_neg h2, if_neg]
      rintro ⟨k, hk, e⟩
      by_cases hkm : k = m
      · subst hkm
        exact h1 e
      · exact h2 ⟨k, by omega, e⟩
section
variable {w : World} {b n : Nat} {T : EdD → List ItD}
theorem WebAt.look (h : WebAt w b n T) {k : EdD} (hk : k.wf) : ∃ A m c, LegAt w (.slice A m c) (T k) ∧ ((T k = [] → A = none ∧ m = 0 ∧ c = 0) ∧ (T k ≠ [] → ∃ a, A = some a)) ∧ ∀ w', (∀ S, MapW w b n S → MapW w' b n S) → (Instr.lookup 45 (.map (some b)) k.v false).run Try.prog w' = .ok (.slice A m c) w' := by
  obtain ⟨⟨S, h1, h2⟩, h3, h4⟩ := h
  have h2k := h2 k
  have hl := fun w' (hw : ∀ S, MapW w b n S → MapW w' b n S) => (hw S h1).look hk
  cases e : S k with
  | none =>
    rw [e] at h2k hl
    refine ⟨none, 0, 0, h2k.2, ?_, hl⟩
    have : T k = [] := by simpa using h2k.1
    exact ⟨fun _ => ⟨rfl, rfl, rfl⟩, fun h => absurd this h⟩
  | some x =>
    rw [e] at h2k hl
    refine ⟨some ⟨x.b, 0, none⟩, x.n, x.c, h2k.2, ?_, hl⟩
    have : ¬ T k = [] := by simpa using h2k.1
    exact ⟨fun h => absurd h this, fun _ => ⟨_, rfl⟩⟩
theorem wpList_cut {ops : Array Oper} {rest : List Oper} {o : Oper} {a : Act} {Q : Exit → Act → World → Prop} (h : WebAt w b n T) (hg : o.guard = none) (m x : Operand) (hop : o.op = Op.call { callee := Callee.builtin Builtin.delete, args := #[m, x], argTypes := #[45, 47] })
    (k : EdD) (hk : k.wf) (hm : a.eval m = .map (some b)) (hx : a.eval x = k.v)
    (hK : ∀ w', WebAt w' b n (dropT T k) → w.grownBy w' (some b) → wpList Try.prog ops Q rest (a.put o.dst (.tuple #[])) w') : wpList Try.prog ops Q (o :: rest) a w := by
  obtain ⟨⟨S, h1, h2⟩, h3, h4⟩ := h
  obtain ⟨D, e1, e2⟩ := h1
  refine wpList_delete_own w hg m x 45 47 hop 33 keyLaw Try.underlying45 hdR b n D hm e1 k.v k.lit hx (lit_of hk) fun w' g1 g2 => hK w' ⟨⟨fun k' => if k' = k then none else S k', ⟨_, g1, fun k' hk' => ?_⟩, fun k' => ?_⟩, fun k' hk' => ?_, h4⟩ g2.grown
  · simp only
    by_cases e : k' = k
    · subst e
      rw [has_del_same, atKey_del_same, if_pos rfl]
      exact ⟨rfl, rfl⟩
    · rw [has_del_other (fun e' => e (lit_inj hk' hk e')), atKey_del_other (fun e' => e (lit_inj hk' hk e')), if_neg e]
      exact e2 k' hk'
  · unfold dropT
    simp only
    by_cases e : k' = k
    · rw [if_pos e, if_pos e]
      exact ⟨by simp, legAt_nil _⟩
    · rw [if_neg e, if_neg e]
      exact ⟨(h2 k').1, (h2 k').2.kept (TK.of_grown g2.grown (fun i hi cur fr => by injection hi with hi; subst hi; exact (WebAt.mk ⟨S, ⟨D, e1, e2⟩, h2⟩ h3 h4).notCells cur _ fr))⟩
  · unfold dropT at hk'
    by_cases e : k' = k
    · rw [if_pos e] at hk'
      exact absurd rfl hk'
    · rw [if_neg e] at hk'
      exact h3 k' hk'
end
theorem ring_row : (Try.prog.info? 33).map (fun i => (i.zero, i.size, i.bytes)) = some (some (.slice none 0 0), 1, 24) := by kernel_rfl
theorem iCells_at (xs : List Int) (k : Nat) (hk : k < xs.length) : (iCells xs)[k]? = some (.int .i64 xs[k]) := by simp [iCells, hk]
theorem rdT_int {w : World} {v : Value} {xs : List Int} (h : PartsAt w v xs) (hn : 0 < xs.length) : ∃ b o c, v = .slice (some ⟨b, o, none⟩) xs.length c ∧ xs.length ≤ c ∧ b < w.heap.size ∧ (∃ cur fr, w.heap[b]? = some (.cells cur 3 fr)) ∧ ∀ k (hk : k < xs.length), w.cell? ⟨b, o + k, none⟩ = some (.int .i64 xs[k]) := by
  obtain ⟨A, c, rfl, h1, h2, h3, h4⟩ := h
  obtain ⟨b, o, cur, fr, rfl, hb, hc⟩ := h4 hn
  exact ⟨b, o, c, rfl, h1, (Array.getElem?_eq_some_iff.1 hb).1, ⟨cur, fr, hb⟩, fun k hk => hc k _ (iCells_at xs k hk)⟩
theorem reads_one (w : World) (t : TypeId) (x : Value) : Reads (w.alloc (.cells #[x] t)) (w.heap.size + 1) 1 (some ⟨w.heap.size, 0, none⟩) 1 [x] := by
  refine ⟨rfl, fun _ => ⟨_, rfl, by simp, fun j u hu => ?_⟩⟩
  have hb := Blk.new w t #[x]
  rw [Addr.add_lit, Nat.zero_add, hb.cell, ← hu]
  simp
/-- What holds at every round's head. -/
def RgRel (w : World) (b n : Nat) (T : EdD → List ItD) (ps : List Int) (vp : Value) (i : Value) (wr : World) : Prop :=
  ∃ (m : Nat) (vl : Value) (vs : List Value), m ≤ ps.length ∧ i = .int .i64 m ∧ Blk wr (w.heap.size + 1) 32 #[vp, vl] ∧ Blk wr w.heap.size 32 #[.slice none 0 0, .slice none 0 0] ∧ wr.ownsRow w.heap.size 33 1 vl m vs ∧ vs.length = m ∧ (∀ u ∈ vs, u.oneCell' = true) ∧
    (∀ (k : Nat) (u : Value), vs[k]? = some u → LegAt wr u (T (edgeAt ps k))) ∧ WebAt wr b n (dropN T ps m) ∧ Fr (OffB b) w wr
theorem WebAt.same {w w' : World} {b n : Nat} {T : EdD → List ItD} (h : WebAt w b n T) (hb : w'.heap[b]? = w.heap[b]?) (hk : TK 35 w w') : WebAt w' b n T := by
  obtain ⟨⟨S, ⟨D, ⟨es, clock, hb', F, hs, hD⟩, h1⟩, h2⟩, h3, h4⟩ := h
  exact ⟨⟨S, ⟨D, ⟨es, clock, hb.trans hb', F, hs, hD⟩, h1⟩, fun k => ⟨(h2 k).1, (h2 k).2.kept hk⟩⟩, h3, h4⟩
theorem WebAt.lt {w : World} {b n : Nat} {T : EdD → List ItD} (h : WebAt w b n T) : b < w.heap.size := by
  obtain ⟨es, clock, hb⟩ := h.isMap
  exact (Array.getElem?_eq_some_iff.1 hb).1
theorem WebAt.fr {w w' : World} {b n : Nat} {T : EdD → List ItD} {S : Nat → Prop} (h : WebAt w b n T) (hf : Fr S w w') (hb : ¬ S b) (hk : TK 35 w w') : WebAt w' b n T := h.same (hf.block b h.lt hb) hk
theorem WebAt.ne_blk {w : World} {b n : Nat} {T : EdD → List ItD} (h : WebAt w b n T) {g : Nat} {t : TypeId} {cs : Array Value} (hg : Blk w g t cs) : b ≠ g := by
  rintro rfl
  exact h.notCells _ _ _ hg
theorem WebAt.ne_own {w : World} {b n : Nat} {T : EdD → List ItD} (h : WebAt w b n T) {base e size m : Nat} {v : Value} {xs : List Value} (ho : w.ownsRow base e size v m xs) : v.ownBlock ≠ some b := by
  intro he
  obtain ⟨_, _, cs, hc⟩ := own_block ho he
  exact h.ne_blk hc rfl
theorem TK.ne_blk {w : World} {e t : TypeId} {g : Nat} {cs : Array Value} (hg : Blk w g t cs) (hne : t ≠ e) : ∀ (cur : Array Value) (fr : Nat × Nat), w.heap[g]? ≠ some (.cells cur e fr) := by
  intro cur fr h
  unfold Blk at hg
  rw [hg] at h
  injection h with h
  injection h with _ h
  exact hne h
/-- Behind the append and the store into the ring. -/
theorem rg_carry {w W w2 : World} {b n : Nat} {T' : EdD → List ItD} {vp : Value} {Al A' A2 : Option Addr} {m cl m' c' c2 : Nat} {vs : List Value} {u : Value} (KG : Blk W (w.heap.size + 1) 32 #[vp, u])
    (KG0 : Blk W w.heap.size 32 #[.slice none 0 0, .slice none 0 0]) (OW : W.ownsRow w.heap.size 33 1 (.slice Al m cl) m vs) (WW : WebAt W b n T') (FW : Fr (OffB b) w W)
    (hg2 : ((W.alloc (.cells #[.slice A' m' c'] 33)).drew).grownBy w2 (Value.slice Al m cl).ownBlock) (ho2 : w2.ownsRow w.heap.size 33 1 (.slice A2 (m + 1) c2) (m + 1) (vs ++ [.slice A' m' c'])) (k2 : Blk w2 (w.heap.size + 1) 32 #[vp, u]) :
    ∃ W3, W3 = w2.setCell ⟨w.heap.size + 1, 1, none⟩ (.slice A2 (m + 1) c2) ∧ Blk W3 (w.heap.size + 1) 32 #[vp, .slice A2 (m + 1) c2] ∧ Blk W3 w.heap.size 32 #[.slice none 0 0, .slice none 0 0] ∧ WebAt W3 b n T' ∧ Fr (OffB b) w W3 ∧ TK 35 W W3 ∧
      W3.ownsRow w.heap.size 33 1 (.slice A2 (m + 1) c2) (m + 1) (vs ++ [.slice A' m' c']) ∧ ∀ (g : Nat) (cs : Array Value), Blk W g 47 cs → Blk W3 g 47 cs := by
  have hf : Fr (fun i => i = w.heap.size + 1 ∨ (Value.slice Al m cl).ownBlock = some i) W (w2.setCell ⟨w.heap.size + 1, 1, none⟩ (.slice A2 (m + 1) c2)) :=
    ((((Fr.refl _ W).alloc _).drew).new (Fr.of_grown hg2 (fun i hi => hi)) (fun i _ hi => .inr hi)).set _ _ _ (fun _ => .inl rfl)
  have hne := own_blk_ne ho2 k2 (by decide)
  have hk : TK 35 W (w2.setCell ⟨w.heap.size + 1, 1, none⟩ (.slice A2 (m + 1) c2)) := TK.of_fr hf (fun i hi => by
    rcases hi with rfl | hi
    · exact TK.ne_blk KG (by decide)
    · obtain ⟨_, _, cs, hc⟩ := own_block OW hi
      exact TK.ne_blk hc (by decide))
  refine ⟨_, rfl, by simpa using k2.set_ 1 (.slice A2 (m + 1) c2), KG0.fr hf ?_, WW.fr hf ?_ hk, FW.new hf ?_, hk, ownsRow_setCell_other ho2 hne _, fun g cs hg => hg.fr hf ?_⟩
  · rintro (h | h)
    · omega
    · exact own_blk_ne OW KG0 (by decide) h
  · rintro (h | h)
    · exact WW.ne_blk KG h
    · exact WW.ne_own OW h
  · rintro i hi (h | h)
    · omega
    · obtain ⟨h, _⟩ := own_block OW h
      omega
  · rintro (h | h)
    · subst h
      exact TK.ne_blk KG (by decide) _ _ hg
    · exact own_blk_ne OW hg (by decide) h
/-- Behind the edge's taking away. -/
theorem rg_step {w W W3 w4 : World} {b n : Nat} {T : EdD → List ItD} {ps : List Int} {K : EdD} {vp x : Value} {A' A2 : Option Addr} {m m' c' c2 : Nat} {vs : List Value} (hm : m + 1 ≤ ps.length) (hvl : vs.length = m) (hone : ∀ u ∈ vs, u.oneCell' = true) (hK : K = edgeAt ps m) (hds : dropN T ps (m + 1) = dropT (dropN T ps m) K)
    (kg : Blk W3 (w.heap.size + 1) 32 #[vp, .slice A2 (m + 1) c2]) (kg0 : Blk W3 w.heap.size 32 #[.slice none 0 0, .slice none 0 0]) (hweb : WebAt W3 b n (dropN T ps m)) (hfr : Fr (OffB b) w W3) (hk : TK 35 W W3)
    (ho : W3.ownsRow w.heap.size 33 1 (.slice A2 (m + 1) c2) (m + 1) (vs ++ [.slice A' m' c'])) (hleg : ∀ (k : Nat) (u : Value), vs[k]? = some u → LegAt W u (T (edgeAt ps k))) (hl : LegAt W (.slice A' m' c') (T K))
    (hweb4 : WebAt w4 b n (dropT (dropN T ps m) K)) (hg4 : W3.grownBy w4 (some b)) (hx : x = .int .i64 ((m + 1 : Nat) : Int)) : RgRel w b n T ps vp x w4 := by
  have hf4 : Fr (OffB b) W3 w4 := Fr.of_grown hg4 (fun i hi => by injection hi with hi; exact hi.symm)
  have hk4 : TK 35 W3 w4 := TK.off hweb hf4
  have hlen : (vs ++ [Value.slice A' m' c']).length = m + 1 := by simp [hvl]
  refine ⟨m + 1, _, _, hm, hx, kg.grown hg4 (fun e => hweb.ne_blk kg (by injection e with e; exact e.symm)), kg0.grown hg4 (fun e => hweb.ne_blk kg0 (by injection e with e; exact e.symm)), own_fr ho hf4 (fun k hk hb => ?_), hlen, ?_, fun k u hu => ?_, by rw [hds]; exact hweb4, hfr.trans hf4⟩
  · have : k = b := hb
    subst this
    exact hweb.ne_own ho hk
  · intro u hu
    rcases List.mem_append.1 hu with hu | hu
    · exact hone u hu
    · rw [List.mem_singleton.1 hu]
      rfl
  · by_cases hkm : k < vs.length
    · rw [List.getElem?_append_left hkm] at hu
      exact ((hleg k u hu).kept hk).kept hk4
    · have hlt := (List.getElem?_eq_some_iff.1 hu).1
      have : k = m := by omega
      subst this
      rw [List.getElem?_append_right (by omega), hvl, Nat.sub_self] at hu
      simp at hu
      subst hu
      rw [← hK]
      exact (hl.kept hk).kept hk4
set_option maxRecDepth 100000 in
set_option maxHeartbeats 4000000 in
theorem ring_any (b n : Nat) (T : EdD → List ItD) (ps : List Int) (vp : Value) (w : World) (hw : WebAt w b n T) (hp : PartsAt w vp ps) (hnd : ps.Nodup) (hne : 0 < ps.length) (hlen : ps.length ≤ 1000) (hwf : ∀ p ∈ ps, wf64 p) :
    Calls Try.prog 36 #[.map (some b), vp] w fun e w' => ∃ vl, e = .returned (.agg #[vp, vl]) ∧ LegsAt w' vl ((List.range ps.length).map fun k => T (edgeAt ps k)) ∧ WebAt w' b n (dropN T ps ps.length) ∧ Fr (OffB b) w w' := by
  obtain ⟨i0, hi0, hz0, hz1, hz2⟩ := info_parts ring_row
  obtain ⟨bP, oP, c, rfl, hc, hbP, ⟨cur, fr, hbt⟩, hcP⟩ := rdT_int hp hne
  have hnb : ¬ OffB b bP := fun e => by
    have : bP = b := e
    subst this
    exact hw.notCells cur _ fr hbt
  clear hp hbt
  go_enter Try.func36, Try.ntmps36
  go_wp2_with fail
  have b0 : Blk ((w.alloc (.cells #[.slice none 0 0, .slice none 0 0] 32)).alloc (.cells #[.slice (some ⟨bP, oP, none⟩) ps.length c, .slice none 0 0] 32)) (w.heap.size + 1) 32 #[.slice (some ⟨bP, oP, none⟩) ps.length c, .slice none 0 0] := by
    have := Blk.new (w.alloc (.cells #[.slice none 0 0, .slice none 0 0] 32)) 32 #[.slice (some ⟨bP, oP, none⟩) ps.length c, .slice none 0 0]
    simpa using this
  have hb0 : Below w.heap.size w ((w.alloc (.cells #[.slice none 0 0, .slice none 0 0] 32)).alloc (.cells #[.slice (some ⟨bP, oP, none⟩) ps.length c, .slice none 0 0] 32)) := ((Below.refl _ _).alloc (Nat.le_refl _) _).alloc (by simp) _
  have HW := Lib.hid hw
  have HND := Lib.hid hnd
  have HWF := Lib.hid hwf
  have HCP := Lib.hid hcP
  clear hw hnd hwf hcP
  go_loopw [13] (fun i wr => RgRel w b n T ps (.slice (some ⟨bP, oP, none⟩) ps.length c) i wr) (fun i _ => ps.length - (intOf i).toNat)
  case atStart => exact ⟨0, .slice none 0 0, [], Nat.zero_le _, rfl, b0, (Blk.new w _ _).alloc _, World.ownsRow_nil _ _ _ _, rfl, by simp, by simp, by rw [dropN_zero]; exact HW.out.below hb0, Fr.of_below hb0⟩
  case round =>
    obtain ⟨m, vl, vs, hm, rfl, hg, hg0, ho, hvl, hone, hleg, hweb, hfr⟩ := hrel
    clear b0 hb0
    obtain ⟨Al, cl, rfl⟩ := own_shape ho
    by_cases hlt : m < ps.length
    · have q := (hfr.cell (p := ⟨bP, oP + m, none⟩) hbP hnb).trans (HCP.out m hlt) -- ARM round
      have hml : (m + 1) % ps.length < ps.length := Nat.mod_lt _ (by omega)
      have q2 := (hfr.cell (p := ⟨bP, oP + (m + 1) % ps.length, none⟩) hbP hnb).trans (HCP.out _ hml)
      have e1 : ps[m] = (edgeAt ps m).f := by simp [edgeAt, List.getD_eq_getElem?_getD, hlt]
      have e2 : ps[(m + 1) % ps.length] = (edgeAt ps m).t := by simp [edgeAt, nextOf, List.getD_eq_getElem?_getD, hml]
      have hkw : (edgeAt ps m).wf := ⟨by rw [← e1]; exact HWF.out _ (List.getElem_mem hlt), by rw [← e2]; exact HWF.out _ (List.getElem_mem hml)⟩
      have hdr := dropN_at (T := T) HND.out hlt
      have hds := dropN_succ T ps m
      rw [e1] at q
      rw [e2] at q2
      obtain ⟨K, hK⟩ : ∃ K, K = edgeAt ps m := ⟨_, rfl⟩
      rw [← hK] at q q2 hkw hdr hds
      have hzP := Nat.lt_of_lt_of_le hbP hfr.size
      have hmi : (m : Int) < (ps.length : Int) := by omega
      have hm0 : (0 : Int) ≤ (m : Int) := Int.natCast_nonneg _
      have w1 : IntKind.i64.wrap ((m : Int) + 1) = (m : Int) + 1 := by rw [IntKind.wrap_i64]; omega
      obtain ⟨j, hj⟩ : ∃ j, j = (m + 1) % ps.length := ⟨_, rfl⟩
      have hmod : ((m : Int) + 1) % (ps.length : Int) = (j : Int) := by rw [hj, Int.natCast_emod, Int.natCast_add]; rfl
      rw [← hj] at q2 hml
      have hji : (j : Int) < (ps.length : Int) := by omega
      have hj0 : (0 : Int) ≤ (j : Int) := Int.natCast_nonneg _
      have HK := Lib.hid hK
      have HDR := Lib.hid hdr
      have HDS := Lib.hid hds
      clear e1 e2 hj hK hdr hds
      obtain ⟨x0, x1⟩ : wr.cell? ⟨w.heap.size + 1, 0, none⟩ = some (.slice (some ⟨bP, oP, none⟩) ps.length c) ∧ wr.cell? ⟨w.heap.size + 1, 1, none⟩ = some (.slice Al m cl) := ⟨by rw [hg.cell]; rfl, by rw [hg.cell]; rfl⟩
      have hgl := hg.lt
      have HG := Lib.hid hg
      have HG0 := Lib.hid hg0
      have HO := Lib.hid ho
      have HLE := Lib.hid hleg
      have HWE := Lib.hid hweb
      have HFR := Lib.hid hfr
      clear hg hg0 ho hleg hweb hfr
      go_wp2_with fail
      obtain ⟨W, hW⟩ : ∃ W, W = wr.alloc (.cells #[.int .i64 K.f, .int .i64 K.t] 47) := ⟨_, rfl⟩
      rw [← hW]
      obtain ⟨ge, hge⟩ : ∃ ge, ge = wr.heap.size := ⟨_, rfl⟩
      rw [← hge]
      have kE : Blk W ge 47 #[.int .i64 K.f, .int .i64 K.t] := by rw [hW, hge]; exact Blk.new _ _ _
      have bW : Below wr.heap.size wr W := by rw [hW]; exact (Below.refl _ _).alloc (Nat.le_refl _) _
      have kG := HG.out.below bW hgl
      have kG0 := HG0.out.below bW HG0.out.lt
      have oW := own_below HO.out bW
      have webW := HWE.out.below bW
      have frW := HFR.out.new (Fr.of_below (S := fun _ => False) bW) (fun _ _ h => h.elim)
      have legW : ∀ (k : Nat) (u : Value), vs[k]? = some u → LegAt W u (T (edgeAt ps k)) := fun k u hu => (HLE.out k u hu).kept (TK.of_below bW)
      have y0 := kE.cell 0
      have y1 := kE.cell 1
      have z0 := kG.cell 0
      have z1 := kG.cell 1
      simp at y0 y1 z0 z1
      have hgeW := kE.lt
      have hgW := kG.lt
      obtain ⟨A', m', c', hleg', _, hlook⟩ := webW.look hkw
      have l1 := hlook W.drew (fun S h => h.drew)
      rw [HDR.out] at hleg'
      unfold EdD.v at l1
      have KE := Lib.hid kE
      have KG := Lib.hid kG
      have KG0 := Lib.hid kG0
      have OW := Lib.hid oW
      have WW := Lib.hid webW
      have FW := Lib.hid frW
      have LW := Lib.hid legW
      have LN := Lib.hid hleg'
      clear hW hge kE bW kG kG0 oW webW frW legW hleg' hlook HG HG0 HO HLE HWE HFR x0 x1 q q2 hzP
      go_region_law (first
        | (go_must (refine step_append_any _ rfl (.tmp 29) (.tmp 33) 30 rfl w.heap.size 33 i0 _ 1 24 Try.underlying30 hi0 hz0 hz1 hz2 rfl (by omega) (.slice Al m cl) m vs (by simp [Act.eval, Act.put]) ((OW.out.alloc (.cells #[.slice A' m' c'] 33)).drew) (W.heap.size + 1) (some ⟨W.heap.size, 0, none⟩) 1 1 [.slice A' m' c'] (by simp [Act.eval, Act.put]) ((reads_one W 33 (.slice A' m' c')).drew) (by simp [Value.oneCell']) (by simp only [maxLen]; omega) (by omega) (by have := FW.out.size; simp; omega) ?_); intro v2 w2 hown2 hg2 hat2; obtain ⟨A2, c2, rfl⟩ := own_shape hown2; have ng : some (w.heap.size + 1) ≠ (Value.slice Al m cl).ownBlock := fun e => own_blk_ne OW.out KG.out (by decide) e.symm; have kg2 := ((KG.out.alloc (.cells #[.slice A' m' c'] 33)).drew).grown hg2 ng; have f2 := kg2.frozen 1; have n2 := kg2.lt; have v20 := kg2.cell 0; have v21 := kg2.cell 1; simp at v20 v21))
      all_goals (obtain ⟨W3, hW3, g3, g03, web3, fr3, tk3, ow3, ed3⟩ := rg_carry KG.out KG0.out OW.out WW.out FW.out hg2 hown2 kg2
                 rw [← hW3]
                 have ke3 := ed3 _ _ KE.out
                 have y30 := ke3.cell 0
                 have y31 := ke3.cell 1
                 simp at y30 y31
                 have HX := Lib.hid (And.intro g3 (And.intro g03 (And.intro web3 (And.intro fr3 (And.intro tk3 ow3)))))
                 clear hW3 g3 g03 fr3 tk3 ow3 ed3 ke3 hg2 hown2 hat2 kg2 f2 n2 v20 v21 y0 y1 z0 z1 l1 hgeW hgW
                 go_wp2_with (first | (at_delete; refine wpList_cut web3 rfl _ _ rfl K hkw rfl rfl ?_; intro w4 web4 hg4))
                 obtain ⟨g3, g03, web3', fr3, tk3, ow3⟩ := HX.out
                 exact ⟨rg_step hlt hvl hone HK.out HDS.out g3 g03 web3 fr3 tk3 ow3 LW.out LN.out web4 hg4 rfl, by simp only [intOf]; omega⟩)
    · have hmm : m = ps.length := by omega -- ARM done
      subst hmm
      have hml : ¬ ((ps.length : Int) < (ps.length : Int)) := by omega
      obtain ⟨x0, x1⟩ : wr.cell? ⟨w.heap.size + 1, 0, none⟩ = some (.slice (some ⟨bP, oP, none⟩) ps.length c) ∧ wr.cell? ⟨w.heap.size + 1, 1, none⟩ = some (.slice Al ps.length cl) := ⟨by rw [hg.cell]; rfl, by rw [hg.cell]; rfl⟩
      obtain ⟨y0, y1⟩ : wr.cell? ⟨w.heap.size, 0, none⟩ = some (.slice none 0 0) ∧ wr.cell? ⟨w.heap.size, 1, none⟩ = some (.slice none 0 0) := ⟨by rw [hg0.cell]; rfl, by rw [hg0.cell]; rfl⟩
      have z0 := hg0.frozen 0
      have z1 := hg0.frozen 1
      have hgl := hg.lt
      have hgl0 := hg0.lt
      have HG := Lib.hid hg
      have HG0 := Lib.hid hg0
      have HO := Lib.hid ho
      have HLE := Lib.hid hleg
      have HWE := Lib.hid hweb
      have HFR := Lib.hid hfr
      clear hg hg0 ho hleg hweb hfr
      go_wp2_with fail
      have hf5 : Fr (fun i => i = w.heap.size) wr ((wr.setCell ⟨w.heap.size, 0, none⟩ (.slice (some ⟨bP, oP, none⟩) ps.length c)).setCell ⟨w.heap.size, 1, none⟩ (.slice Al ps.length cl)) := ((Fr.refl (fun i => i = w.heap.size) wr).set _ _ _ (fun _ => rfl)).set _ _ _ (fun _ => rfl)
      have hne := own_blk_ne HO.out HG0.out (by decide)
      have tk5 : TK 35 wr ((wr.setCell ⟨w.heap.size, 0, none⟩ (.slice (some ⟨bP, oP, none⟩) ps.length c)).setCell ⟨w.heap.size, 1, none⟩ (.slice Al ps.length cl)) := TK.of_fr hf5 (fun i hi => by subst hi; exact TK.ne_blk HG0.out (by decide))
      have ow5 := ownsRow_setCell_other (ownsRow_setCell_other HO.out (a := ⟨w.heap.size, 0, none⟩) hne (.slice (some ⟨bP, oP, none⟩) ps.length c)) (a := ⟨w.heap.size, 1, none⟩) hne (.slice Al ps.length cl)
      have r5 := (HG0.out.set_ 0 (.slice (some ⟨bP, oP, none⟩) ps.length c)).set_ 1 (.slice Al ps.length cl)
      simp at r5
      refine bodyPost_ret (results_cell_row Try.results36 _ _ w.heap.size _ _ (0, 0) _ rfl r5 Try.underlying32 rfl (by kernel_rfl)) rfl ?_
      refine ⟨_, rfl, ⟨vs, by simpa using RdT.own ow5, fun k u hu is his => ?_⟩, HWE.out.fr hf5 (HWE.out.ne_blk HG0.out) tk5, HFR.out.new hf5 (fun i hi h => by omega)⟩
      have hk := (List.getElem?_eq_some_iff.1 hu).1
      have : is = T (edgeAt ps k) := by
        rw [List.getElem?_map, List.getElem?_range (by omega)] at his
        simpa using his.symm
      rw [this]
      exact (HLE.out k u hu).kept tk5
end Go.Proofs.Ythoniedmeeahgaa
