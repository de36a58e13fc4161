/-
  The reference's Of by contract.
-/
import Derived.Test.YtggpdbfkfcoejaaRefLaw
import Derived.Test.YtggpdbfkfcoejaaSameN
import Derived.Deep.RegionHeld3
import Derived.Deep.DeepMust
namespace Go.Proofs.Ytggpdbfkfcoejaa
open Go.RowKit

theorem reads_new (w : World) (t : TypeId) (xs : List Int) (cs : Array Value) (hcs : cs = (iCells xs).toArray) : Reads (w.alloc (.cells cs t)) (w.heap.size + 1) 1 (some ⟨w.heap.size, 0, none⟩) xs.length (iCells xs) := by
  subst hcs
  refine ⟨by simp [iCells], fun _ => ⟨_, rfl, by simp, fun j u hu => ?_⟩⟩
  have hb := Blk.new w t (iCells xs).toArray
  rw [Addr.add_lit, Nat.zero_add, hb.cell, ← hu]
  simp
theorem reads_kept {w w' : World} {g n B : Nat} {xs : List Value} {row : Option Nat} (h : Reads w B 1 (some ⟨g, 0, none⟩) n xs) (hg : w.grownBy w' row) (hlt : g < w.heap.size) (hne : row ≠ some g) : Reads w' B 1 (some ⟨g, 0, none⟩) n xs :=
  ⟨h.1, fun hn => by
    obtain ⟨ad, e, hb, hc⟩ := h.2 hn
    injection e with e
    subst e
    exact ⟨_, rfl, hb, fun j u hu => (World.cell?_of_block (by rw [block_of_add]; exact hg.block g hlt (fun e => hne e.symm))).trans (hc j u hu)⟩⟩
/-- Three rows of numbers, each the call's own, none the other's. -/
structure Own3 (W : World) (base : Nat) (vP vC vA : Value) (P C A : List Int) : Prop where
  oP : W.ownsRow base 3 1 vP P.length (iCells P)
  oC : W.ownsRow base 3 1 vC C.length (iCells C)
  oA : W.ownsRow base 3 1 vA A.length (iCells A)
  pc : ∀ j, vP.ownBlock = some j → vC.ownBlock ≠ some j
  pa : ∀ j, vP.ownBlock = some j → vA.ownBlock ≠ some j
  ca : ∀ j, vC.ownBlock = some j → vA.ownBlock ≠ some j
section
variable {W W' : World} {base : Nat} {vP vC vA v' : Value} {P C A xs : List Int}
theorem Own3.alloc (h : Own3 W base vP vC vA P C A) (o : Obj) : Own3 (W.alloc o) base vP vC vA P C A := ⟨h.oP.alloc o, h.oC.alloc o, h.oA.alloc o, h.pc, h.pa, h.ca⟩
theorem Own3.drew (h : Own3 W base vP vC vA P C A) : Own3 W.drew base vP vC vA P C A := ⟨h.oP.drew, h.oC.drew, h.oA.drew, h.pc, h.pa, h.ca⟩
theorem own_far {base e size n : Nat} {v : Value} {ys : List Value} {row : Option Nat} (h : W.ownsRow base e size v n ys) (hg : W.grownBy W' row) (hd : ∀ j, v.ownBlock = some j → row ≠ some j) : W'.ownsRow base e size v n ys :=
  h.kept hg (by
    cases e : v.ownBlock with
    | none => exact .inl rfl
    | some j => exact .inr (fun e' => hd j e e'.symm))
theorem far_new {v u : Value} (hat : v'.ownBlock = v.ownBlock ∨ v'.ownBlock = some W.heap.size) (hd : ∀ j, v.ownBlock = some j → u.ownBlock ≠ some j) (hu : ∀ j, u.ownBlock = some j → j < W.heap.size) : ∀ j, v'.ownBlock = some j → u.ownBlock ≠ some j := by
  intro j hj e
  rcases hat with h | h
  · exact hd j (h ▸ hj) e
  · rw [h] at hj
    injection hj with hj
    have := hu j e
    omega
theorem iCells_append (a b : List Int) : iCells (a ++ b) = iCells a ++ iCells b := by simp [iCells]
theorem own_app (ho : W'.ownsRow base 3 1 v' (P.length + xs.length) (iCells P ++ iCells xs)) : W'.ownsRow base 3 1 v' (P ++ xs).length (iCells (P ++ xs)) := by
  rw [iCells_append, List.length_append]
  exact ho
theorem Own3.appP (h : Own3 W base vP vC vA P C A) (ho : W'.ownsRow base 3 1 v' (P.length + xs.length) (iCells P ++ iCells xs)) (hg : W.grownBy W' vP.ownBlock) (hat : v'.ownBlock = vP.ownBlock ∨ v'.ownBlock = some W.heap.size) : Own3 W' base v' vC vA (P ++ xs) C A :=
  ⟨own_app ho, own_far h.oC hg (fun j hj e => h.pc j e hj), own_far h.oA hg (fun j hj e => h.pa j e hj), far_new hat h.pc (fun _ hj => (own_block h.oC hj).2.1), far_new hat h.pa (fun _ hj => (own_block h.oA hj).2.1), h.ca⟩
theorem Own3.appC (h : Own3 W base vP vC vA P C A) (ho : W'.ownsRow base 3 1 v' (C.length + xs.length) (iCells C ++ iCells xs)) (hg : W.grownBy W' vC.ownBlock) (hat : v'.ownBlock = vC.ownBlock ∨ v'.ownBlock = some W.heap.size) : Own3 W' base vP v' vA P (C ++ xs) A :=
  ⟨own_far h.oP hg (fun j hj e => h.pc j hj e), own_app ho, own_far h.oA hg (fun j hj e => h.ca j e hj), fun j hj e => far_new hat (fun j h1 h2 => h.pc j h2 h1) (fun _ hj => (own_block h.oP hj).2.1) j e hj, h.pa, far_new hat h.ca (fun _ hj => (own_block h.oA hj).2.1)⟩
theorem Own3.appA (h : Own3 W base vP vC vA P C A) (ho : W'.ownsRow base 3 1 v' (A.length + xs.length) (iCells A ++ iCells xs)) (hg : W.grownBy W' vA.ownBlock) (hat : v'.ownBlock = vA.ownBlock ∨ v'.ownBlock = some W.heap.size) : Own3 W' base vP vC v' P C (A ++ xs) :=
  ⟨own_far h.oP hg (fun j hj e => h.pa j hj e), own_far h.oC hg (fun j hj e => h.ca j hj e), own_app ho, h.pc, fun j hj e => far_new hat (fun j h1 h2 => h.pa j h2 h1) (fun _ hj => (own_block h.oP hj).2.1) j e hj, fun j hj e => far_new hat (fun j h1 h2 => h.ca j h2 h1) (fun _ hj => (own_block h.oC hj).2.1) j e hj⟩
end
theorem partsL_length (ts : List TrD) : (partsL ts).length = 2 * ts.length := by
  induction ts with
  | nil => rfl
  | cons x xs ih =>
    have : partsL (x :: xs) = x.b :: x.s :: partsL xs := rfl
    rw [this]
    simp [ih]
    omega
theorem partsL_take (ts : List TrD) (j : Nat) (h : j < ts.length) : partsL (ts.take (j + 1)) = partsL (ts.take j) ++ [ts[j].b, ts[j].s] := by
  unfold partsL
  rw [List.take_succ_eq_append_getElem h, List.flatMap_append, List.flatMap_cons, List.flatMap_nil, List.append_nil]
theorem map_take' (ts : List TrD) (f : TrD → Int) (j : Nat) (h : j < ts.length) : (ts.take (j + 1)).map f = (ts.take j).map f ++ [f ts[j]] := by
  rw [List.take_succ_eq_append_getElem h, List.map_append, List.map_cons, List.map_nil]
def RfRel (w : World) (ts : List TrD) (vP vC vA i : Value) (wr : World) : Prop :=
  ∃ j : Nat, j ≤ ts.length ∧ i = .int .i64 j ∧ Own3 wr w.heap.size vP vC vA (partsL (ts.take j)) ((ts.take j).map (·.c)) ((ts.take j).map (·.a)) ∧ Below w.heap.size w wr
/-- What has been gathered: the nets of these keys; all of them fit. -/
def OutIs (W0 : World) (T : KeyD → Int) (L : List KeyD) (n : Nat) (out : Value) (wr : World) : Prop :=
  ∃ A c ys, out = .slice A ys.length c ∧ wr.ownsRow W0.heap.size 34 5 out ys.length (nCells ys) ∧ ys = netsOf T L ∧ FitsL T L ∧ ys.length ≤ n ∧ Below W0.heap.size W0 wr
def F1 (W0 : World) (T : KeyD → Int) (ps kc ka : List Int) (out i : Value) (wr : World) : Prop :=
  ∃ j : Nat, j ≤ ps.length ∧ i = .int .i64 j ∧ OutIs W0 T (c0 ps kc ka j) (j * 14400) out wr
def F2 (W0 : World) (T : KeyD → Int) (ps kc ka : List Int) (L : List KeyD) (B j : Nat) (out i : Value) (wr : World) : Prop :=
  ∃ m : Nat, j + 1 + m ≤ ps.length ∧ i = .int .i64 ((j + 1 + m : Nat) : Int) ∧ OutIs W0 T (L ++ c1 ps kc ka j m) (B + m * 120) out wr
def F3 (W0 : World) (T : KeyD → Int) (ps kc ka : List Int) (L : List KeyD) (B j k : Nat) (out i : Value) (wr : World) : Prop :=
  ∃ u : Nat, u ≤ 2 ∧ i = .int .i64 u ∧ OutIs W0 T (L ++ c2 ps kc ka j k u) (B + u * 60) out wr
def F4 (W0 : World) (T : KeyD → Int) (ps kc ka : List Int) (L : List KeyD) (B j k u : Nat) (out i : Value) (wr : World) : Prop :=
  ∃ n : Nat, n ≤ (kkOf kc ka u).length ∧ i = .int .i64 n ∧ OutIs W0 T (L ++ c3 ps kc ka j k u n) (B + n) out wr

set_option maxRecDepth 100000 in
set_option maxHeartbeats 8000000 in
theorem refof_any (t : TrsD) (w : World) (ht : t.ok w) (hn : t.n ≤ 60) (hmay : ∀ x ∈ t.ts, mayT x) : Calls Try.prog 12 #[.slice t.A t.n t.c] w fun e w' =>
    ((SmallM (msOf t.ts) ∧ ∃ A c ys, e = .returned (.tuple #[.slice A ys.length c, .int .i64 0]) ∧ NetsR (tot (msOf t.ts)) ys ∧ Reads w' w'.heap.size 5 A ys.length (nCells ys) ∧ ys.length ≤ 9223372036854775807) ∨ (¬ SmallM (msOf t.ts) ∧ e = .returned (.tuple #[.slice none 0 0, .int .i64 1]))) ∧ Below w.heap.size w w' := by
  have hform := ht.form
  have hnet1 := fun k h1 w' h2 h3 h4 => net_ok t k h1 w' h2 hmay h3 h4
  have hnet2 := fun k h1 w' h2 h3 => net_no t k h1 w' h2 hmay h3
  have hlaw1 := fun ps kc ka h h' => cand_small (ts := t.ts) (ps := ps) (kc := kc) (ka := ka) h hmay h'
  have hlaw2 := fun ps kc ka h => cand_nets (ts := t.ts) (ps := ps) (kc := kc) (ka := ka) h hmay
  have hlaw3 := fun ps kc ka K h h' => cand_lt (ts := t.ts) (ps := ps) (kc := kc) (ka := ka) (K := K) h hmay h'
  have ht' := ht
  obtain ⟨A, n, c, ts⟩ := t
  obtain ⟨hl, hmax, hread, hwf⟩ := ht
  simp only at hl hmax hform hwf hn hmay hnet1 hnet2 hlaw1 hlaw2 hlaw3 ⊢
  obtain rfl := hl
  clear hmax
  have Hf := Lib.hid hform
  have HT := Lib.hid ht'
  have N1 := Lib.hid hnet1
  have N2 := Lib.hid hnet2
  have L1 := Lib.hid hlaw1
  have L2 := Lib.hid hlaw2
  have L3 := Lib.hid hlaw3
  have HM := Lib.hid hmay
  clear hform ht' hread hwf hnet1 hnet2 hlaw1 hlaw2 hlaw3 hmay
  obtain ⟨i0, hi0, hz0, hz1, hz2⟩ := info_parts int_info
  go_enter Try.func12, Try.ntmps12
  go_wp2_with fail
  go_loopw [4, 5, 6, 7] (fun vP vC vA i wr => RfRel w ts vP vC vA i wr) (fun _ _ _ i _ => ts.length - (intOf i).toNat)
  case atStart => exact ⟨0, Nat.zero_le _, rfl, ⟨World.ownsRow_nil _ _ _ _, World.ownsRow_nil _ _ _ _, World.ownsRow_nil _ _ _ _, by simp [Value.ownBlock], by simp [Value.ownBlock], by simp [Value.ownBlock]⟩, Below.refl _ _⟩
  case round =>
    obtain ⟨j, hj, rfl, hO, hb⟩ := hrel
    have hPl : (partsL (ts.take j)).length ≤ 120 := by rw [partsL_length, List.length_take]; omega
    have hCl : ((ts.take j).map (·.c)).length ≤ 60 := by rw [List.length_map, List.length_take]; omega
    have hAl : ((ts.take j).map (·.a)).length ≤ 60 := by rw [List.length_map, List.length_take]; omega
    obtain ⟨AP, cP, rfl⟩ := own_shape hO.oP
    obtain ⟨AC, cC, rfl⟩ := own_shape hO.oC
    obtain ⟨AA, cA, rfl⟩ := own_shape hO.oA
    by_cases hlt : j < ts.length
    · obtain ⟨b, o, rfl, hbo, hcell⟩ := Hf.out (by omega) -- ARM r1
      have hsz := Nat.lt_of_lt_of_le hbo hb.size
      have hc1 := (hb.cell (p := ⟨b, o + j * 7 + 1, none⟩) hbo).trans (hcell j hlt 1 _ rfl)
      have hc2 := (hb.cell (p := ⟨b, o + j * 7 + 2, none⟩) hbo).trans (hcell j hlt 2 _ rfl)
      have hc3 := (hb.cell (p := ⟨b, o + j * 7 + 3, none⟩) hbo).trans (hcell j hlt 3 _ rfl)
      have hc5 := (hb.cell (p := ⟨b, o + j * 7 + 5, none⟩) hbo).trans (hcell j hlt 5 _ rfl)
      have hji : (j : Int) < (ts.length : Int) := by omega
      have hj0 : (0 : Int) ≤ (j : Int) := Int.natCast_nonneg _
      have hTP := partsL_take ts j hlt
      have hTC := map_take' ts (·.c) j hlt
      have hTA := map_take' ts (·.a) j hlt
      clear hcell
      generalize ts[j] = x at hc1 hc2 hc3 hc5 hTP hTC hTA
      generalize partsL (ts.take j) = P at hPl hTP hO ⊢
      generalize (ts.take j).map (·.c) = C at hCl hTC hO ⊢
      generalize (ts.take j).map (·.a) = D at hAl hTA hO ⊢
      have HTP := Lib.hid hTP
      have HTC := Lib.hid hTC
      have HTA := Lib.hid hTA
      have HO := Lib.hid hO
      have HB := Lib.hid hb
      clear hTP hTC hTA hO hb
      go_wp2_with fail
      go_region_held3 (fun w' => w'.cell? ⟨b, o + j * 7 + 1, none⟩ = some (.int .i64 x.b) ∧ w'.cell? ⟨b, o + j * 7 + 2, none⟩ = some (.int .i64 x.s)) (first | exact s2 | go_keep) (first
        | (refine step_append_any _ rfl (.tmp 22) (.tmp 33) 51 rfl w.heap.size 3 i0 _ 1 8 Try.underlying51 hi0 hz0 hz1 hz2 rfl (by omega) (.slice AP P.length cP) (P.length) (iCells P) (by simp [Act.eval, Act.put]) ((HO.out.alloc (.cells #[.int .i64 x.b, .int .i64 x.s] 3)).drew).oP (wr.heap.size + 1) (some ⟨wr.heap.size, 0, none⟩) 2 2 (iCells [x.b, x.s]) (by simp [Act.eval, Act.put]) ((reads_new wr 3 [x.b, x.s] _ rfl).drew) (iCells_one _) (by simp only [maxLen]; omega) (by omega) (by first | exact Nat.le_refl _ | exact HB.out.size | (have := HB.out.size; simp; omega)) ?_; intro v2 w2 hown2 hg2 hat2; have H2 := ((HO.out.alloc (.cells #[.int .i64 x.b, .int .i64 x.s] 3)).drew).appP (xs := [x.b, x.s]) hown2 hg2 hat2; have bw2 : Below w.heap.size w w2 := Below.grown (HB.out.alloc HB.out.size (.cells #[.int .i64 x.b, .int .i64 x.s] 3)).drew hg2 (by have := HB.out.size; simp; omega) (fun j hj => (own_block HO.out.oP hj).1); have s2 := (⟨(bw2.cell (p := ⟨b, o + j * 7 + 1, none⟩) hbo).trans ((HB.out.cell (p := ⟨b, o + j * 7 + 1, none⟩) hbo).symm.trans hc1), (bw2.cell (p := ⟨b, o + j * 7 + 2, none⟩) hbo).trans ((HB.out.cell (p := ⟨b, o + j * 7 + 2, none⟩) hbo).symm.trans hc2)⟩ : w2.cell? ⟨b, o + j * 7 + 1, none⟩ = some (.int .i64 x.b) ∧ w2.cell? ⟨b, o + j * 7 + 2, none⟩ = some (.int .i64 x.s)); obtain ⟨AP2, cP2, rfl⟩ := own_shape hown2))
      have d3 := (bw2.cell (p := ⟨b, o + j * 7 + 3, none⟩) hbo).trans ((HB.out.cell (p := ⟨b, o + j * 7 + 3, none⟩) hbo).symm.trans hc3)
      have d5 := (bw2.cell (p := ⟨b, o + j * 7 + 5, none⟩) hbo).trans ((HB.out.cell (p := ⟨b, o + j * 7 + 5, none⟩) hbo).symm.trans hc5)
      have hsz2 := Nat.lt_of_lt_of_le hbo bw2.size
      have K2 := Lib.hid H2
      have KB2 := Lib.hid bw2
      clear s2 hown2 hg2 hat2 H2 bw2 hc1 hc2 hc3 hc5 HO HB hsz
      go_wp2_with fail
      go_region_held3 (fun w' => w'.cell? ⟨b, o + j * 7 + 3, none⟩ = some (.int .i64 x.c) ∧ w'.cell? ⟨b, o + j * 7 + 5, none⟩ = some (.int .i64 x.a)) (first | exact s4 | exact s3 | go_keep) (first
        | (refine step_append_any _ rfl (.tmp 35) (.tmp 41) 51 rfl w.heap.size 3 i0 _ 1 8 Try.underlying51 hi0 hz0 hz1 hz2 rfl (by omega) (.slice AC C.length cC) (C.length) (iCells C) (by simp [Act.eval, Act.put]) ((K2.out.alloc (.cells #[.int .i64 x.c] 3)).drew).oC (w2.heap.size + 1) (some ⟨w2.heap.size, 0, none⟩) 1 1 (iCells [x.c]) (by simp [Act.eval, Act.put]) ((reads_new w2 3 [x.c] _ rfl).drew) (iCells_one _) (by simp only [maxLen]; omega) (by omega) (by first | exact Nat.le_refl _ | exact KB2.out.size | (have := KB2.out.size; simp; omega)) ?_; intro v3 w3 hown3 hg3 hat3; have H3 := ((K2.out.alloc (.cells #[.int .i64 x.c] 3)).drew).appC (xs := [x.c]) hown3 hg3 hat3; have bw3 : Below w.heap.size w w3 := Below.grown (KB2.out.alloc KB2.out.size (.cells #[.int .i64 x.c] 3)).drew hg3 (by have := KB2.out.size; simp; omega) (fun j hj => (own_block K2.out.oC hj).1); have s3 := (⟨(bw3.cell (p := ⟨b, o + j * 7 + 3, none⟩) hbo).trans ((KB2.out.cell (p := ⟨b, o + j * 7 + 3, none⟩) hbo).symm.trans d3), (bw3.cell (p := ⟨b, o + j * 7 + 5, none⟩) hbo).trans ((KB2.out.cell (p := ⟨b, o + j * 7 + 5, none⟩) hbo).symm.trans d5)⟩ : w3.cell? ⟨b, o + j * 7 + 3, none⟩ = some (.int .i64 x.c) ∧ w3.cell? ⟨b, o + j * 7 + 5, none⟩ = some (.int .i64 x.a)); obtain ⟨AC2, cC2, rfl⟩ := own_shape hown3)
        | (refine step_append_any _ rfl (.tmp 35) (.tmp 41) 51 rfl w.heap.size 3 i0 _ 1 8 Try.underlying51 hi0 hz0 hz1 hz2 rfl (by omega) (.slice AC C.length cC) (C.length) (iCells C) (by simp [Act.eval, Act.put]) (((K2.out.alloc (.cells #[.int .i64 x.c] 3)).alloc (.cells #[.int .i64 x.a] 3)).drew).oC (w2.heap.size + 1) (some ⟨w2.heap.size, 0, none⟩) 1 1 (iCells [x.c]) (by simp [Act.eval, Act.put]) (((reads_new w2 3 [x.c] _ rfl).alloc (by simp) (.cells #[.int .i64 x.a] 3)).drew) (iCells_one _) (by simp only [maxLen]; omega) (by omega) (by first | exact Nat.le_refl _ | exact KB2.out.size | (have := KB2.out.size; simp; omega)) ?_; intro v3 w3 hown3 hg3 hat3; have H3 := (((K2.out.alloc (.cells #[.int .i64 x.c] 3)).alloc (.cells #[.int .i64 x.a] 3)).drew).appC (xs := [x.c]) hown3 hg3 hat3; have bw3 : Below w.heap.size w w3 := Below.grown ((KB2.out.alloc KB2.out.size (.cells #[.int .i64 x.c] 3)).alloc (by have := KB2.out.size; simp; omega) (.cells #[.int .i64 x.a] 3)).drew hg3 (by have := KB2.out.size; simp; omega) (fun j hj => (own_block K2.out.oC hj).1); have s3 := (⟨(bw3.cell (p := ⟨b, o + j * 7 + 3, none⟩) hbo).trans ((KB2.out.cell (p := ⟨b, o + j * 7 + 3, none⟩) hbo).symm.trans d3), (bw3.cell (p := ⟨b, o + j * 7 + 5, none⟩) hbo).trans ((KB2.out.cell (p := ⟨b, o + j * 7 + 5, none⟩) hbo).symm.trans d5)⟩ : w3.cell? ⟨b, o + j * 7 + 3, none⟩ = some (.int .i64 x.c) ∧ w3.cell? ⟨b, o + j * 7 + 5, none⟩ = some (.int .i64 x.a)); obtain ⟨AC2, cC2, rfl⟩ := own_shape hown3)
        | (refine step_append_any _ rfl (.tmp 35) (.tmp 41) 51 rfl w.heap.size 3 i0 _ 1 8 Try.underlying51 hi0 hz0 hz1 hz2 rfl (by omega) (.slice AC C.length cC) (C.length) (iCells C) (by simp [Act.eval, Act.put]) (((K2.out.alloc (.cells #[.int .i64 x.a] 3)).alloc (.cells #[.int .i64 x.c] 3)).drew).oC (w2.heap.size + 1 + 1) (some ⟨w2.heap.size + 1, 0, none⟩) 1 1 (iCells [x.c]) (by simp [Act.eval, Act.put]) ((by have := (reads_new (w2.alloc (.cells #[.int .i64 x.a] 3)) 3 [x.c] _ rfl).drew; simp only [World.size_alloc] at this; exact this)) (iCells_one _) (by simp only [maxLen]; omega) (by omega) (by first | exact Nat.le_refl _ | exact KB2.out.size | (have := KB2.out.size; simp; omega)) ?_; intro v3 w3 hown3 hg3 hat3; have H3 := (((K2.out.alloc (.cells #[.int .i64 x.a] 3)).alloc (.cells #[.int .i64 x.c] 3)).drew).appC (xs := [x.c]) hown3 hg3 hat3; have bw3 : Below w.heap.size w w3 := Below.grown ((KB2.out.alloc KB2.out.size (.cells #[.int .i64 x.a] 3)).alloc (by have := KB2.out.size; simp; omega) (.cells #[.int .i64 x.c] 3)).drew hg3 (by have := KB2.out.size; simp; omega) (fun j hj => (own_block K2.out.oC hj).1); have s3 := (⟨(bw3.cell (p := ⟨b, o + j * 7 + 3, none⟩) hbo).trans ((KB2.out.cell (p := ⟨b, o + j * 7 + 3, none⟩) hbo).symm.trans d3), (bw3.cell (p := ⟨b, o + j * 7 + 5, none⟩) hbo).trans ((KB2.out.cell (p := ⟨b, o + j * 7 + 5, none⟩) hbo).symm.trans d5)⟩ : w3.cell? ⟨b, o + j * 7 + 3, none⟩ = some (.int .i64 x.c) ∧ w3.cell? ⟨b, o + j * 7 + 5, none⟩ = some (.int .i64 x.a)); obtain ⟨AC2, cC2, rfl⟩ := own_shape hown3)
        | (refine step_append_any _ rfl (.tmp 43) (.tmp 49) 51 rfl w.heap.size 3 i0 _ 1 8 Try.underlying51 hi0 hz0 hz1 hz2 rfl (by omega) (.slice AA D.length cA) (D.length) (iCells D) (by simp [Act.eval, Act.put]) ((K2.out.alloc (.cells #[.int .i64 x.a] 3)).drew).oA (w2.heap.size + 1) (some ⟨w2.heap.size, 0, none⟩) 1 1 (iCells [x.a]) (by simp [Act.eval, Act.put]) ((reads_new w2 3 [x.a] _ rfl).drew) (iCells_one _) (by simp only [maxLen]; omega) (by omega) (by first | exact Nat.le_refl _ | exact KB2.out.size | (have := KB2.out.size; simp; omega)) ?_; intro v3 w3 hown3 hg3 hat3; have H3 := ((K2.out.alloc (.cells #[.int .i64 x.a] 3)).drew).appA (xs := [x.a]) hown3 hg3 hat3; have bw3 : Below w.heap.size w w3 := Below.grown (KB2.out.alloc KB2.out.size (.cells #[.int .i64 x.a] 3)).drew hg3 (by have := KB2.out.size; simp; omega) (fun j hj => (own_block K2.out.oA hj).1); have s3 := (⟨(bw3.cell (p := ⟨b, o + j * 7 + 3, none⟩) hbo).trans ((KB2.out.cell (p := ⟨b, o + j * 7 + 3, none⟩) hbo).symm.trans d3), (bw3.cell (p := ⟨b, o + j * 7 + 5, none⟩) hbo).trans ((KB2.out.cell (p := ⟨b, o + j * 7 + 5, none⟩) hbo).symm.trans d5)⟩ : w3.cell? ⟨b, o + j * 7 + 3, none⟩ = some (.int .i64 x.c) ∧ w3.cell? ⟨b, o + j * 7 + 5, none⟩ = some (.int .i64 x.a)); obtain ⟨AA2, cA2, rfl⟩ := own_shape hown3)
        | (refine step_append_any _ rfl (.tmp 43) (.tmp 49) 51 rfl w.heap.size 3 i0 _ 1 8 Try.underlying51 hi0 hz0 hz1 hz2 rfl (by omega) (.slice AA D.length cA) (D.length) (iCells D) (by simp [Act.eval, Act.put]) (((K2.out.alloc (.cells #[.int .i64 x.a] 3)).alloc (.cells #[.int .i64 x.c] 3)).drew).oA (w2.heap.size + 1) (some ⟨w2.heap.size, 0, none⟩) 1 1 (iCells [x.a]) (by simp [Act.eval, Act.put]) (((reads_new w2 3 [x.a] _ rfl).alloc (by simp) (.cells #[.int .i64 x.c] 3)).drew) (iCells_one _) (by simp only [maxLen]; omega) (by omega) (by first | exact Nat.le_refl _ | exact KB2.out.size | (have := KB2.out.size; simp; omega)) ?_; intro v3 w3 hown3 hg3 hat3; have H3 := (((K2.out.alloc (.cells #[.int .i64 x.a] 3)).alloc (.cells #[.int .i64 x.c] 3)).drew).appA (xs := [x.a]) hown3 hg3 hat3; have bw3 : Below w.heap.size w w3 := Below.grown ((KB2.out.alloc KB2.out.size (.cells #[.int .i64 x.a] 3)).alloc (by have := KB2.out.size; simp; omega) (.cells #[.int .i64 x.c] 3)).drew hg3 (by have := KB2.out.size; simp; omega) (fun j hj => (own_block K2.out.oA hj).1); have s3 := (⟨(bw3.cell (p := ⟨b, o + j * 7 + 3, none⟩) hbo).trans ((KB2.out.cell (p := ⟨b, o + j * 7 + 3, none⟩) hbo).symm.trans d3), (bw3.cell (p := ⟨b, o + j * 7 + 5, none⟩) hbo).trans ((KB2.out.cell (p := ⟨b, o + j * 7 + 5, none⟩) hbo).symm.trans d5)⟩ : w3.cell? ⟨b, o + j * 7 + 3, none⟩ = some (.int .i64 x.c) ∧ w3.cell? ⟨b, o + j * 7 + 5, none⟩ = some (.int .i64 x.a)); obtain ⟨AA2, cA2, rfl⟩ := own_shape hown3)
        | (refine step_append_any _ rfl (.tmp 43) (.tmp 49) 51 rfl w.heap.size 3 i0 _ 1 8 Try.underlying51 hi0 hz0 hz1 hz2 rfl (by omega) (.slice AA D.length cA) (D.length) (iCells D) (by simp [Act.eval, Act.put]) (((K2.out.alloc (.cells #[.int .i64 x.c] 3)).alloc (.cells #[.int .i64 x.a] 3)).drew).oA (w2.heap.size + 1 + 1) (some ⟨w2.heap.size + 1, 0, none⟩) 1 1 (iCells [x.a]) (by simp [Act.eval, Act.put]) ((by have := (reads_new (w2.alloc (.cells #[.int .i64 x.c] 3)) 3 [x.a] _ rfl).drew; simp only [World.size_alloc] at this; exact this)) (iCells_one _) (by simp only [maxLen]; omega) (by omega) (by first | exact Nat.le_refl _ | exact KB2.out.size | (have := KB2.out.size; simp; omega)) ?_; intro v3 w3 hown3 hg3 hat3; have H3 := (((K2.out.alloc (.cells #[.int .i64 x.c] 3)).alloc (.cells #[.int .i64 x.a] 3)).drew).appA (xs := [x.a]) hown3 hg3 hat3; have bw3 : Below w.heap.size w w3 := Below.grown ((KB2.out.alloc KB2.out.size (.cells #[.int .i64 x.c] 3)).alloc (by have := KB2.out.size; simp; omega) (.cells #[.int .i64 x.a] 3)).drew hg3 (by have := KB2.out.size; simp; omega) (fun j hj => (own_block K2.out.oA hj).1); have s3 := (⟨(bw3.cell (p := ⟨b, o + j * 7 + 3, none⟩) hbo).trans ((KB2.out.cell (p := ⟨b, o + j * 7 + 3, none⟩) hbo).symm.trans d3), (bw3.cell (p := ⟨b, o + j * 7 + 5, none⟩) hbo).trans ((KB2.out.cell (p := ⟨b, o + j * 7 + 5, none⟩) hbo).symm.trans d5)⟩ : w3.cell? ⟨b, o + j * 7 + 3, none⟩ = some (.int .i64 x.c) ∧ w3.cell? ⟨b, o + j * 7 + 5, none⟩ = some (.int .i64 x.a)); obtain ⟨AA2, cA2, rfl⟩ := own_shape hown3)
        | (refine step_append_any _ rfl (.tmp 35) (.tmp 41) 51 rfl w.heap.size 3 i0 _ 1 8 Try.underlying51 hi0 hz0 hz1 hz2 rfl (by omega) (.slice AC C.length cC) (C.length) (iCells C) (by simp [Act.eval, Act.put]) ((H3.alloc (.cells #[.int .i64 x.c] 3))).oC (w3.heap.size + 1) (some ⟨w3.heap.size, 0, none⟩) 1 1 (iCells [x.c]) (by simp [Act.eval, Act.put]) ((reads_new w3 3 [x.c] _ rfl)) (iCells_one _) (by simp only [maxLen]; omega) (by omega) (by first | exact Nat.le_refl _ | exact bw3.size | (have := bw3.size; simp; omega)) ?_; intro v4 w4 hown4 hg4 hat4; have H4 := ((H3.alloc (.cells #[.int .i64 x.c] 3))).appC (xs := [x.c]) hown4 hg4 hat4; have bw4 : Below w.heap.size w w4 := Below.grown (bw3.alloc bw3.size (.cells #[.int .i64 x.c] 3)) hg4 (by have := bw3.size; first | exact this | (simp; omega)) (fun j hj => (own_block K2.out.oC hj).1); have s4 := (⟨(bw4.cell (p := ⟨b, o + j * 7 + 3, none⟩) hbo).trans ((KB2.out.cell (p := ⟨b, o + j * 7 + 3, none⟩) hbo).symm.trans d3), (bw4.cell (p := ⟨b, o + j * 7 + 5, none⟩) hbo).trans ((KB2.out.cell (p := ⟨b, o + j * 7 + 5, none⟩) hbo).symm.trans d5)⟩ : w4.cell? ⟨b, o + j * 7 + 3, none⟩ = some (.int .i64 x.c) ∧ w4.cell? ⟨b, o + j * 7 + 5, none⟩ = some (.int .i64 x.a)); obtain ⟨AC2, cC2, rfl⟩ := own_shape hown4)
        | (refine step_append_any _ rfl (.tmp 35) (.tmp 41) 51 rfl w.heap.size 3 i0 _ 1 8 Try.underlying51 hi0 hz0 hz1 hz2 rfl (by omega) (.slice AC C.length cC) (C.length) (iCells C) (by simp [Act.eval, Act.put]) (H3).oC (w2.heap.size + 1) (some ⟨w2.heap.size, 0, none⟩) 1 1 (iCells [x.c]) (by simp [Act.eval, Act.put]) (reads_kept ((reads_new w2 3 [x.c] _ rfl).alloc (by simp) (.cells #[.int .i64 x.a] 3)).drew hg3 (by first | (simp; done) | (simp; omega)) (fun e => by have := (own_block K2.out.oA e).2.1; omega)) (iCells_one _) (by simp only [maxLen]; omega) (by omega) (by first | exact Nat.le_refl _ | exact bw3.size | (have := bw3.size; simp; omega)) ?_; intro v4 w4 hown4 hg4 hat4; have H4 := (H3).appC (xs := [x.c]) hown4 hg4 hat4; have bw4 : Below w.heap.size w w4 := Below.grown bw3 hg4 (by have := bw3.size; first | exact this | (simp; omega)) (fun j hj => (own_block K2.out.oC hj).1); have s4 := (⟨(bw4.cell (p := ⟨b, o + j * 7 + 3, none⟩) hbo).trans ((KB2.out.cell (p := ⟨b, o + j * 7 + 3, none⟩) hbo).symm.trans d3), (bw4.cell (p := ⟨b, o + j * 7 + 5, none⟩) hbo).trans ((KB2.out.cell (p := ⟨b, o + j * 7 + 5, none⟩) hbo).symm.trans d5)⟩ : w4.cell? ⟨b, o + j * 7 + 3, none⟩ = some (.int .i64 x.c) ∧ w4.cell? ⟨b, o + j * 7 + 5, none⟩ = some (.int .i64 x.a)); obtain ⟨AC2, cC2, rfl⟩ := own_shape hown4)
        | (refine step_append_any _ rfl (.tmp 35) (.tmp 41) 51 rfl w.heap.size 3 i0 _ 1 8 Try.underlying51 hi0 hz0 hz1 hz2 rfl (by omega) (.slice AC C.length cC) (C.length) (iCells C) (by simp [Act.eval, Act.put]) (H3).oC (w2.heap.size + 1 + 1) (some ⟨w2.heap.size + 1, 0, none⟩) 1 1 (iCells [x.c]) (by simp [Act.eval, Act.put]) (reads_kept (by have := (reads_new (w2.alloc (.cells #[.int .i64 x.a] 3)) 3 [x.c] _ rfl).drew; simp only [World.size_alloc] at this; exact this) hg3 (by first | (simp; done) | (simp; omega)) (fun e => by have := (own_block K2.out.oA e).2.1; omega)) (iCells_one _) (by simp only [maxLen]; omega) (by omega) (by first | exact Nat.le_refl _ | exact bw3.size | (have := bw3.size; simp; omega)) ?_; intro v4 w4 hown4 hg4 hat4; have H4 := (H3).appC (xs := [x.c]) hown4 hg4 hat4; have bw4 : Below w.heap.size w w4 := Below.grown bw3 hg4 (by have := bw3.size; first | exact this | (simp; omega)) (fun j hj => (own_block K2.out.oC hj).1); have s4 := (⟨(bw4.cell (p := ⟨b, o + j * 7 + 3, none⟩) hbo).trans ((KB2.out.cell (p := ⟨b, o + j * 7 + 3, none⟩) hbo).symm.trans d3), (bw4.cell (p := ⟨b, o + j * 7 + 5, none⟩) hbo).trans ((KB2.out.cell (p := ⟨b, o + j * 7 + 5, none⟩) hbo).symm.trans d5)⟩ : w4.cell? ⟨b, o + j * 7 + 3, none⟩ = some (.int .i64 x.c) ∧ w4.cell? ⟨b, o + j * 7 + 5, none⟩ = some (.int .i64 x.a)); obtain ⟨AC2, cC2, rfl⟩ := own_shape hown4)
        | (refine step_append_any _ rfl (.tmp 43) (.tmp 49) 51 rfl w.heap.size 3 i0 _ 1 8 Try.underlying51 hi0 hz0 hz1 hz2 rfl (by omega) (.slice AA D.length cA) (D.length) (iCells D) (by simp [Act.eval, Act.put]) ((H3.alloc (.cells #[.int .i64 x.a] 3))).oA (w3.heap.size + 1) (some ⟨w3.heap.size, 0, none⟩) 1 1 (iCells [x.a]) (by simp [Act.eval, Act.put]) ((reads_new w3 3 [x.a] _ rfl)) (iCells_one _) (by simp only [maxLen]; omega) (by omega) (by first | exact Nat.le_refl _ | exact bw3.size | (have := bw3.size; simp; omega)) ?_; intro v4 w4 hown4 hg4 hat4; have H4 := ((H3.alloc (.cells #[.int .i64 x.a] 3))).appA (xs := [x.a]) hown4 hg4 hat4; have bw4 : Below w.heap.size w w4 := Below.grown (bw3.alloc bw3.size (.cells #[.int .i64 x.a] 3)) hg4 (by have := bw3.size; first | exact this | (simp; omega)) (fun j hj => (own_block K2.out.oA hj).1); have s4 := (⟨(bw4.cell (p := ⟨b, o + j * 7 + 3, none⟩) hbo).trans ((KB2.out.cell (p := ⟨b, o + j * 7 + 3, none⟩) hbo).symm.trans d3), (bw4.cell (p := ⟨b, o + j * 7 + 5, none⟩) hbo).trans ((KB2.out.cell (p := ⟨b, o + j * 7 + 5, none⟩) hbo).symm.trans d5)⟩ : w4.cell? ⟨b, o + j * 7 + 3, none⟩ = some (.int .i64 x.c) ∧ w4.cell? ⟨b, o + j * 7 + 5, none⟩ = some (.int .i64 x.a)); obtain ⟨AA2, cA2, rfl⟩ := own_shape hown4)
        | (refine step_append_any _ rfl (.tmp 43) (.tmp 49) 51 rfl w.heap.size 3 i0 _ 1 8 Try.underlying51 hi0 hz0 hz1 hz2 rfl (by omega) (.slice AA D.length cA) (D.length) (iCells D) (by simp [Act.eval, Act.put]) (H3).oA (w2.heap.size + 1) (some ⟨w2.heap.size, 0, none⟩) 1 1 (iCells [x.a]) (by simp [Act.eval, Act.put]) (reads_kept ((reads_new w2 3 [x.a] _ rfl).alloc (by simp) (.cells #[.int .i64 x.c] 3)).drew hg3 (by first | (simp; done) | (simp; omega)) (fun e => by have := (own_block K2.out.oC e).2.1; omega)) (iCells_one _) (by simp only [maxLen]; omega) (by omega) (by first | exact Nat.le_refl _ | exact bw3.size | (have := bw3.size; simp; omega)) ?_; intro v4 w4 hown4 hg4 hat4; have H4 := (H3).appA (xs := [x.a]) hown4 hg4 hat4; have bw4 : Below w.heap.size w w4 := Below.grown bw3 hg4 (by have := bw3.size; first | exact this | (simp; omega)) (fun j hj => (own_block K2.out.oA hj).1); have s4 := (⟨(bw4.cell (p := ⟨b, o + j * 7 + 3, none⟩) hbo).trans ((KB2.out.cell (p := ⟨b, o + j * 7 + 3, none⟩) hbo).symm.trans d3), (bw4.cell (p := ⟨b, o + j * 7 + 5, none⟩) hbo).trans ((KB2.out.cell (p := ⟨b, o + j * 7 + 5, none⟩) hbo).symm.trans d5)⟩ : w4.cell? ⟨b, o + j * 7 + 3, none⟩ = some (.int .i64 x.c) ∧ w4.cell? ⟨b, o + j * 7 + 5, none⟩ = some (.int .i64 x.a)); obtain ⟨AA2, cA2, rfl⟩ := own_shape hown4)
        | (refine step_append_any _ rfl (.tmp 43) (.tmp 49) 51 rfl w.heap.size 3 i0 _ 1 8 Try.underlying51 hi0 hz0 hz1 hz2 rfl (by omega) (.slice AA D.length cA) (D.length) (iCells D) (by simp [Act.eval, Act.put]) (H3).oA (w2.heap.size + 1 + 1) (some ⟨w2.heap.size + 1, 0, none⟩) 1 1 (iCells [x.a]) (by simp [Act.eval, Act.put]) (reads_kept (by have := (reads_new (w2.alloc (.cells #[.int .i64 x.c] 3)) 3 [x.a] _ rfl).drew; simp only [World.size_alloc] at this; exact this) hg3 (by first | (simp; done) | (simp; omega)) (fun e => by have := (own_block K2.out.oC e).2.1; omega)) (iCells_one _) (by simp only [maxLen]; omega) (by omega) (by first | exact Nat.le_refl _ | exact bw3.size | (have := bw3.size; simp; omega)) ?_; intro v4 w4 hown4 hg4 hat4; have H4 := (H3).appA (xs := [x.a]) hown4 hg4 hat4; have bw4 : Below w.heap.size w w4 := Below.grown bw3 hg4 (by have := bw3.size; first | exact this | (simp; omega)) (fun j hj => (own_block K2.out.oA hj).1); have s4 := (⟨(bw4.cell (p := ⟨b, o + j * 7 + 3, none⟩) hbo).trans ((KB2.out.cell (p := ⟨b, o + j * 7 + 3, none⟩) hbo).symm.trans d3), (bw4.cell (p := ⟨b, o + j * 7 + 5, none⟩) hbo).trans ((KB2.out.cell (p := ⟨b, o + j * 7 + 5, none⟩) hbo).symm.trans d5)⟩ : w4.cell? ⟨b, o + j * 7 + 3, none⟩ = some (.int .i64 x.c) ∧ w4.cell? ⟨b, o + j * 7 + 5, none⟩ = some (.int .i64 x.a)); obtain ⟨AA2, cA2, rfl⟩ := own_shape hown4))
      all_goals
        have K4 := Lib.hid H4
        have KB4 := Lib.hid bw4
        clear s3 s4 hown3 hown4 hg3 hg4 hat3 hat4 H3 H4 bw3 bw4 K2 KB2 d3 d5 hsz2
        go_wp2_with fail
        go_roundw
        case rel => exact ⟨j + 1, by omega, by go_num, by rw [HTP.out, HTC.out, HTA.out]; first | exact K4.out | simpa using K4.out, KB4.out⟩
        case measure => simp [intOf]; omega
    · obtain rfl : j = ts.length := by omega -- ARM rest
      rw [List.take_length] at hO hPl hCl hAl ⊢
      obtain ⟨P, hP⟩ : ∃ P, P = partsL ts := ⟨_, rfl⟩
      obtain ⟨C, hC⟩ : ∃ C, C = ts.map (·.c) := ⟨_, rfl⟩
      obtain ⟨D, hD⟩ : ∃ D, D = ts.map (·.a) := ⟨_, rfl⟩
      rw [← hP, ← hC, ← hD] at hO ⊢
      rw [← hP] at hPl
      rw [← hC] at hCl
      rw [← hD] at hAl
      have HP := Lib.hid hP
      have HC := Lib.hid hC
      have HD := Lib.hid hD
      have HO := Lib.hid hO
      have HB := Lib.hid hb
      clear hP hC hD hO hb
      go_wp2_with fail
      refine (sorted_any P AP cP _ (Reads.of_own HO.out.oP) (by omega)).mono ?_
      rintro e w1 ⟨v1, ps, rfl, ho1, hr1, hm1, hl1, hb1⟩
      obtain ⟨A1, d1, rfl⟩ := own_shape ho1
      have B1 := HB.out.trans (hb1.mono HB.out.size)
      have RC1 := Lib.hid (((Reads.of_own HO.out.oC).below hb1).more hb1.size)
      have RA1 := ((Reads.of_own HO.out.oA).below hb1).more hb1.size
      have RP1 := Reads.of_own ho1
      have HM1 := Lib.hid hm1
      have HR1 := Lib.hid hr1
      clear ho1 hm1 hr1 HO HB
      go_wp2_with fail
      refine (sorted_any C AC cC _ RC1.out (by omega)).mono ?_
      rintro e w2 ⟨v2, kc, rfl, ho2, hr2, hm2, hl2, hb2⟩
      obtain ⟨A2, d2, rfl⟩ := own_shape ho2
      have B2 := B1.trans (hb2.mono B1.size)
      have RA2 := Lib.hid ((RA1.below hb2).more hb2.size)
      have RP2 := (RP1.below hb2).more hb2.size
      have RC2 := Reads.of_own ho2
      have HM2 := Lib.hid hm2
      have HR2 := Lib.hid hr2
      clear ho2 hm2 hr2 RC1 RA1 RP1 B1 hb1
      go_wp2_with fail
      refine (sorted_any D AA cA _ RA2.out (by omega)).mono ?_
      rintro e w3 ⟨v3, ka, rfl, ho3, hr3, hm3, hl3, hb3⟩
      obtain ⟨A3, d3, rfl⟩ := own_shape ho3
      have B3 := B2.trans (hb3.mono B2.size)
      have RP3 := (RP2.below hb3).more hb3.size
      have RC3 := (RC2.below hb3).more hb3.size
      have RA3 := Reads.of_own ho3
      have HSet : Hid (SetsL ts ps kc ka) := Lib.hid ⟨HR1.out, HR2.out, hr3, fun y => by rw [HM1.out, HP.out], fun y => by rw [HM2.out, HC.out], fun y => by rw [hm3, HD.out]⟩
      have hps : ps.length ≤ 120 := by omega
      have hkk : ∀ u, (kkOf kc ka u).length ≤ 60 := fun u => by unfold kkOf; split <;> omega
      clear ho3 hm3 hr3 RA2 RP2 RC2 B2 hb2 hb3 HM1 HM2 HR1 HR2 HP HC HD hl1 hl2 hl3 hPl hCl hAl
      go_wp2_with fail
      obtain ⟨W0, hW0⟩ : ∃ W0, W0 = w3.alloc (.cells #[.slice A2 kc.length d2, .slice A3 ka.length d3] 51) := ⟨_, rfl⟩
      rw [← hW0]
      obtain ⟨g, hg⟩ : ∃ g, g = w3.heap.size := ⟨_, rfl⟩
      rw [← hg]
      have hs03 : w3.heap.size ≤ W0.heap.size := by rw [hW0]; simp
      have b03 : Below w3.heap.size w3 W0 := by rw [hW0]; exact (Below.refl _ _).alloc (Nat.le_refl _) _
      have RP := Lib.hid ((RP3.below b03).more hs03)
      have BK : Blk W0 g 51 #[.slice A2 kc.length d2, .slice A3 ka.length d3] := by rw [hW0, hg]; exact Blk.new _ _ _
      have KIND : ∀ u, u < 2 → ∃ AK cK, W0.cell? ⟨g, u, none⟩ = some (.slice AK (kkOf kc ka u).length cK) ∧ Reads W0 W0.heap.size 1 AK (kkOf kc ka u).length (iCells (kkOf kc ka u)) := by
        intro u hu
        rcases (show u = 0 ∨ u = 1 by omega) with rfl | rfl
        · exact ⟨A2, d2, by rw [BK.cell]; rfl, (RC3.below b03).more hs03⟩
        · exact ⟨A3, d3, by rw [BK.cell]; rfl, (RA3.below b03).more hs03⟩
      have hgW := BK.lt
      have B0 := Lib.hid (B3.trans (b03.mono (B3.size)))
      have KI := Lib.hid KIND
      have HK := Lib.hid hkk
      clear hW0 hg BK KIND RP3 RC3 RA3 hs03 b03 B3 hkk
      obtain ⟨m0, hm0, hmz0, hmz1, hmz2⟩ := info_parts net_info
      obtain ⟨T, hT⟩ : ∃ T, T = tot (msOf ts) := ⟨_, rfl⟩
      rw [← hT] at L1 L2 N1 N2
      have HTT := Lib.hid hT
      clear hT
      go_loopw [9, 10] (fun out i wr => F1 W0 T ps kc ka out i wr) (fun _ i _ => ps.length - (intOf i).toNat)
      case atStart => exact ⟨0, Nat.zero_le _, rfl, none, 0, [], rfl, World.ownsRow_nil _ _ _ _, rfl, fun K hK => by simp [c0] at hK, Nat.zero_le _, Below.refl _ _⟩
      case round =>
        obtain ⟨j, hj, rfl, hO⟩ := hrel
        have HO1 := Lib.hid hO
        clear hO
        have hj0 : (0 : Int) ≤ (j : Int) := Int.natCast_nonneg _
        by_cases hlt : j < ps.length
        · have hji : (j : Int) < (ps.length : Int) := by omega -- ARM l1
          have ej : IntKind.i64.wrap ((j : Int) + 1) = (((j + 1 + 0 : Nat)) : Int) := by rw [IntKind.wrap_i64]; omega
          obtain ⟨bP, oP, rfl, hbP, hcP⟩ := reads_int RP.out (by omega)
          have HCP := Lib.hid hcP
          clear hcP
          go_wp2_with fail
          go_loopw [9, 11] (fun out i wr => F2 W0 T ps kc ka (c0 ps kc ka j) (j * 14400) j out i wr) (fun _ i _ => ps.length - (intOf i).toNat)
          case atStart => exact ⟨0, by omega, by first | rfl | go_num, by rw [show c1 ps kc ka j 0 = [] from rfl, List.append_nil]; exact HO1.out⟩
          case round =>
            obtain ⟨m, hm, rfl, hO2⟩ := hrel
            have HO2 := Lib.hid hO2
            clear hO2 HO1 ej
            obtain ⟨k, hk⟩ : ∃ k, k = j + 1 + m := ⟨_, rfl⟩
            rw [← hk] at hm ⊢
            have HKK := Lib.hid hk
            clear hk
            have hk0 : (0 : Int) ≤ (k : Int) := Int.natCast_nonneg _
            by_cases hlt2 : k < ps.length
            · have hki : (k : Int) < (ps.length : Int) := by omega -- ARM l2
              have hm120 : m ≤ 120 := by have := HKK.out; omega
              go_wp2_with fail
              go_loopw [9, 12] (fun out i wr => F3 W0 T ps kc ka (c0 ps kc ka j ++ c1 ps kc ka j m) (j * 14400 + m * 120) j k out i wr) (fun _ i _ => 2 - (intOf i).toNat)
              case atStart => exact ⟨0, by omega, rfl, by rw [show c2 ps kc ka j k 0 = [] from rfl, List.append_nil]; exact HO2.out⟩
              case round =>
                obtain ⟨u, hu, rfl, hO3⟩ := hrel
                have HO3 := Lib.hid hO3
                clear hO3 HO2
                have hu0 : (0 : Int) ≤ (u : Int) := Int.natCast_nonneg _
                by_cases hlt3 : u < 2
                · have hui : (u : Int) < 2 := by omega -- ARM l3
                  obtain ⟨AK, cK, hK0, hRK⟩ := KI.out u hlt3
                  have hkl := HK.out u
                  have hkf : ∀ n, (kkOf kc ka u).getD n 0 = (keyAt ps kc ka j k u n).a := fun n => rfl
                  obtain ⟨ks, hks⟩ : ∃ ks, ks = kkOf kc ka u := ⟨_, rfl⟩
                  rw [← hks] at hK0 hRK hkl hkf
                  have HKS := Lib.hid hks
                  have HRK := Lib.hid hRK
                  have HKF := Lib.hid hkf
                  clear hks hRK hkf
                  go_wp2_with fail
                  go_loopw [9, 13] (fun out i wr => F4 W0 T ps kc ka (c0 ps kc ka j ++ c1 ps kc ka j m ++ c2 ps kc ka j k u) (j * 14400 + m * 120 + u * 60) j k u out i wr) (fun _ i _ => ks.length - (intOf i).toNat)
                  case atStart => exact ⟨0, Nat.zero_le _, rfl, by rw [show c3 ps kc ka j k u 0 = [] from rfl, List.append_nil]; exact HO3.out⟩
                  case round =>
                    obtain ⟨n, hn', rfl, A5, d5, ys, rfl, ho, hys, hft, hyl, hb⟩ := hrel
                    rw [← HKS.out] at hn'
                    have hn0 : (0 : Int) ≤ (n : Int) := Int.natCast_nonneg _
                    have hK1 := (hb.cell (p := ⟨g, u, none⟩) hgW).trans hK0
                    have hgr := Nat.lt_of_lt_of_le hgW hb.size
                    clear HO3
                    by_cases hlt4 : n < ks.length
                    · have hni : (n : Int) < (ks.length : Int) := by omega -- ARM l4
                      obtain ⟨bK, oK, rfl, hbK, hcK⟩ := reads_int HRK.out (by omega)
                      have qK := (hb.cell (p := ⟨bK, oK + n, none⟩) hbK).trans (hcK n hlt4)
                      have qj := (hb.cell (p := ⟨bP, oP + j, none⟩) hbP).trans (HCP.out j hlt)
                      have qk := (hb.cell (p := ⟨bP, oP + k, none⟩) hbP).trans (HCP.out k hlt2)
                      have hzK := Nat.lt_of_lt_of_le hbK hb.size
                      have hzP := Nat.lt_of_lt_of_le hbP hb.size
                      obtain ⟨K, hKe⟩ : ∃ K, K = keyAt ps kc ka j k u n := ⟨_, rfl⟩
                      have e1 : ps[j] = K.f := by rw [hKe]; simp [keyAt, List.getD_eq_getElem?_getD, hlt]
                      have e2 : ps[k] = K.t := by rw [hKe]; simp [keyAt, List.getD_eq_getElem?_getD, hlt2]
                      have e3 : ks[n] = K.a := by rw [hKe, ← HKF.out n]; simp [List.getD_eq_getElem?_getD, hlt4]
                      have e4 : K.l = (u : Int) := by rw [hKe]; rfl
                      have pj := HCP.out j hlt
                      have pk := HCP.out k hlt2
                      have pK := hcK n hlt4
                      rw [e1] at qj pj
                      rw [e3] at pK
                      rw [e2] at qk pk
                      rw [e3] at qK
                      have hl01 : K.l = 0 ∨ K.l = 1 := by omega
                      have HKE := Lib.hid hKe
                      have HOW := Lib.hid ho
                      have HYS := Lib.hid hys
                      have HFT := Lib.hid hft
                      have HB := Lib.hid hb
                      have BX := Lib.hid (B0.out.trans (hb.mono B0.out.size))
                      clear hcK e1 e2 e3 hKe ho hys hft hb
                      by_cases hfit : T K ≤ 4611686018427387904 ∧ T K.back ≤ 4611686018427387904
                      · have hcall := fun W' h => N1.out K hl01 W' h hfit.1 hfit.2 -- ARM fit
                        rw [e4] at hcall
                        have HFI := Lib.hid hfit
                        obtain ⟨N, hN⟩ : ∃ N, N = netAt T K := ⟨_, rfl⟩
                        rw [← hN] at hcall
                        have HN := Lib.hid hN
                        have HCA := Lib.hid hcall
                        clear hcall hN hfit hl01 e4
                        go_wp2_with fail
                        have XA := Lib.hid (HT.out.below BX.out.drew)
                        have XB := Lib.hid (HT.out.below (BX.out.alloc BX.out.size (.cells #[.int .i64 0, .int .i64 0, .int .i64 0, .int .i64 0, .int .i64 0] 34)).drew)
                        have YA := Lib.hid (HB.out.drew)
                        have YB := Lib.hid ((HB.out.alloc HB.out.size (.cells #[.int .i64 0, .int .i64 0, .int .i64 0, .int .i64 0, .int .i64 0] 34)).drew)
                        go_region_held3 (fun w' => w'.cell? ⟨bP, oP + j, none⟩ = some (.int .i64 K.f) ∧ w'.cell? ⟨bP, oP + k, none⟩ = some (.int .i64 K.t) ∧ w'.cell? ⟨g, u, none⟩ = some (.slice (some ⟨bK, oK, none⟩) ks.length cK) ∧ w'.cell? ⟨bK, oK + n, none⟩ = some (.int .i64 K.a)) (first | with_reducible exact s5 | with_reducible exact ⟨(set5_cell (by simp; omega) (by simp; omega)).trans s5.1, (set5_cell (by simp; omega) (by simp; omega)).trans s5.2.1, (set5_cell (by simp; omega) (by simp; omega)).trans s5.2.2.1, (set5_cell (by simp; omega) (by simp; omega)).trans s5.2.2.2⟩ | go_keep) (first
                          | (go_at_call 24; refine (HCA.out _ (by first | exact XA.out | exact XB.out)).mono ?_; rintro e w5 ⟨rfl, hb5⟩; first | (have b05 : Below W0.heap.size W0 w5 := YA.out.trans (hb5.mono HB.out.size); have o5 := own_below HOW.out.drew hb5; have s5 : w5.cell? ⟨bP, oP + j, none⟩ = some (.int .i64 K.f) ∧ w5.cell? ⟨bP, oP + k, none⟩ = some (.int .i64 K.t) ∧ w5.cell? ⟨g, u, none⟩ = some (.slice (some ⟨bK, oK, none⟩) ks.length cK) ∧ w5.cell? ⟨bK, oK + n, none⟩ = some (.int .i64 K.a) := ⟨(b05.cell (p := ⟨bP, oP + j, none⟩) hbP).trans pj, (b05.cell (p := ⟨bP, oP + k, none⟩) hbP).trans pk, (b05.cell (p := ⟨g, u, none⟩) hgW).trans hK0, (b05.cell (p := ⟨bK, oK + n, none⟩) hbK).trans pK⟩) | (have b05 : Below W0.heap.size W0 w5 := YB.out.trans (hb5.mono (by have := HB.out.size; simp; omega)); have o5 := own_below (HOW.out.alloc (.cells #[.int .i64 0, .int .i64 0, .int .i64 0, .int .i64 0, .int .i64 0] 34)).drew hb5; have k5 := ((Blk.new wr 34 #[.int .i64 0, .int .i64 0, .int .i64 0, .int .i64 0, .int .i64 0]).drew).below hb5 (by simp); obtain ⟨⟨z0, z1, z2, z3, z4⟩, y0, y1, y2, y3, y4⟩ := Blk.five k5; have hz5 := k5.lt; have s5 : w5.cell? ⟨bP, oP + j, none⟩ = some (.int .i64 K.f) ∧ w5.cell? ⟨bP, oP + k, none⟩ = some (.int .i64 K.t) ∧ w5.cell? ⟨g, u, none⟩ = some (.slice (some ⟨bK, oK, none⟩) ks.length cK) ∧ w5.cell? ⟨bK, oK + n, none⟩ = some (.int .i64 K.a) := ⟨(b05.cell (p := ⟨bP, oP + j, none⟩) hbP).trans pj, (b05.cell (p := ⟨bP, oP + k, none⟩) hbP).trans pk, (b05.cell (p := ⟨g, u, none⟩) hgW).trans hK0, (b05.cell (p := ⟨bK, oK + n, none⟩) hbK).trans pK⟩)))
                        · obtain ⟨W6, hW6⟩ : ∃ W6, W6 = w5.alloc (.cells #[.int .i64 N.f, .int .i64 N.t, .int .i64 N.l, .int .i64 N.a, .int .i64 N.n] 34) := ⟨_, rfl⟩ -- ARM fitA
                          rw [← hW6]
                          obtain ⟨gn, hgn⟩ : ∃ gn, gn = w5.heap.size := ⟨_, rfl⟩
                          rw [← hgn]
                          have k6 : Blk W6 gn 34 #[.int .i64 N.f, .int .i64 N.t, .int .i64 N.l, .int .i64 N.a, .int .i64 N.n] := by rw [hW6, hgn]; exact Blk.new _ _ _
                          have b6 : Below W0.heap.size W0 W6 := by rw [hW6]; exact b05.alloc b05.size _
                          have o6 : W6.ownsRow W0.heap.size 34 5 (.slice A5 ys.length d5) ys.length (nCells ys) := by rw [hW6]; exact o5.alloc _
                          clear hW6 hgn hb5 b05 o5 s5
                          have hL : netsOf T [K] = if 0 < N.n then [N] else [] := by rw [HN.out]; simp [netsOf, List.filter_cons]
                          have hLL : c0 ps kc ka j ++ c1 ps kc ka j m ++ c2 ps kc ka j k u ++ c3 ps kc ka j k u (n + 1) = c0 ps kc ka j ++ c1 ps kc ka j m ++ c2 ps kc ka j k u ++ c3 ps kc ka j k u n ++ [K] := by rw [c3_succ, ← HKE.out]; simp only [List.append_assoc]
                          have HL := Lib.hid hL
                          have HLL := Lib.hid hLL
                          have hf6 : FitsL T (c0 ps kc ka j ++ c1 ps kc ka j m ++ c2 ps kc ka j k u ++ c3 ps kc ka j k u (n + 1)) := by
                            rw [hLL]
                            exact HFT.out.append (fun K' hK' => by simp at hK'; subst hK'; exact HFI.out)
                          have HF6 := Lib.hid hf6
                          obtain ⟨⟨x0, x1, x2, x3, x4⟩, _⟩ := Blk.five k6
                          have hz6 := k6.lt
                          have O6 := Lib.hid o6
                          have B6 := Lib.hid b6
                          clear hL hLL hf6 k6 o6 b6 qK qj qk pj pk pK
                          by_cases hpos : 0 < N.n
                          · have dpos : decide (0 < N.n) = true := decide_eq_true hpos
                            have HY := Lib.hid (show ys ++ [N] = netsOf T (c0 ps kc ka j ++ c1 ps kc ka j m ++ c2 ps kc ka j k u ++ c3 ps kc ka j k u (n + 1)) by rw [HLL.out, netsOf_append, ← HYS.out, HL.out, if_pos hpos])
                            clear hpos
                            go_wp2_with (at_builtin; refine wpList_append_any _ rfl (.tmp 112) (.tmp 114) _ rfl W0.heap.size 34 m0 _ 5 40 Try.underlying25 hm0 hmz0 hmz1 hmz2 rfl (by omega) (.slice A5 ys.length d5) ys.length (nCells ys) rfl (O6.out.alloc _) (W6.heap.size + 1) (some ⟨W6.heap.size, 0, none⟩) 1 1 (encN N) rfl (reads_net W6 34 N) (by simp [encN, Value.oneCell']) (by simp only [maxLen]; omega) (by omega) (by have := B6.out.size; simp; omega) ?_; intro v7 w7 hown7 hg7 hat7)
                            obtain ⟨A7, d7, rfl⟩ := own_shape hown7
                            have B7 : Below W0.heap.size W0 w7 := Below.grown (B6.out.alloc B6.out.size _) hg7 (by have := B6.out.size; simp; omega) (fun j hj => (own_block O6.out hj).1)
                            have e7 : ys.length + 1 = (ys ++ [N]).length := by simp
                            have e8 : nCells ys ++ encN N = nCells (ys ++ [N]) := by rw [nCells_append]; simp [nCells]
                            rw [e7, e8] at hown7
                            rw [e7]
                            have l7 : (ys ++ [N]).length ≤ j * 14400 + m * 120 + u * 60 + (n + 1) := by rw [← e7]; omega
                            have O7 := Lib.hid hown7
                            have HB7 := Lib.hid B7
                            generalize ys ++ [N] = zs at HY l7 O7 ⊢
                            clear hown7 hg7 hat7 B7 e7 e8
                            go_roundw
                            case rel => exact ⟨n + 1, by rw [← HKS.out]; omega, by go_num, A7, d7, zs, rfl, O7.out, HY.out, HF6.out, l7, HB7.out⟩
                            case measure => simp [intOf]; omega
                          · have dpos : decide (0 < N.n) = false := decide_eq_false hpos
                            have HY := Lib.hid (show ys = netsOf T (c0 ps kc ka j ++ c1 ps kc ka j m ++ c2 ps kc ka j k u ++ c3 ps kc ka j k u (n + 1)) by rw [HLL.out, netsOf_append, ← HYS.out, HL.out, if_neg hpos, List.append_nil])
                            clear hpos
                            go_wp2_with fail
                            go_roundw
                            case rel => exact ⟨n + 1, by rw [← HKS.out]; omega, by go_num, A5, d5, ys, rfl, O6.out, HY.out, HF6.out, by omega, B6.out⟩
                            case measure => simp [intOf]; omega
                        · obtain ⟨W6, hW6⟩ : ∃ W6, W6 = ((((w5.setCell ⟨wr.heap.size, 0, none⟩ (.int .i64 N.f)).setCell ⟨wr.heap.size, 1, none⟩ (.int .i64 N.t)).setCell ⟨wr.heap.size, 2, none⟩ (.int .i64 N.l)).setCell ⟨wr.heap.size, 3, none⟩ (.int .i64 N.a)).setCell ⟨wr.heap.size, 4, none⟩ (.int .i64 N.n) := ⟨_, rfl⟩ -- ARM fitB
                          rw [← hW6]
                          obtain ⟨gn, hgn⟩ : ∃ gn, gn = wr.heap.size := ⟨_, rfl⟩
                          rw [← hgn]
                          have k6 : Blk W6 gn 34 #[.int .i64 N.f, .int .i64 N.t, .int .i64 N.l, .int .i64 N.a, .int .i64 N.n] := by rw [hW6, hgn]; exact set5_blk k5 _ _ _ _ _
                          have b6 : Below W0.heap.size W0 W6 := by rw [hW6]; exact b05.grown (set5_only _ _ _ _ _ _ _) b05.size (fun j hj => by injection hj with hj; subst hj; exact HB.out.size)
                          have o6 : W6.ownsRow W0.heap.size 34 5 (.slice A5 ys.length d5) ys.length (nCells ys) := by
                            rw [hW6]
                            exact own_far o5 (set5_only _ _ _ _ _ _ _) (fun j hj e => by injection e with e; have := (own_block HOW.out hj).2.1; omega)
                          clear hW6 hgn hb5 b05 o5 s5 k5 z0 z1 z2 z3 z4 y0 y1 y2 y3 y4 hz5
                          have hL : netsOf T [K] = if 0 < N.n then [N] else [] := by rw [HN.out]; simp [netsOf, List.filter_cons]
                          have hLL : c0 ps kc ka j ++ c1 ps kc ka j m ++ c2 ps kc ka j k u ++ c3 ps kc ka j k u (n + 1) = c0 ps kc ka j ++ c1 ps kc ka j m ++ c2 ps kc ka j k u ++ c3 ps kc ka j k u n ++ [K] := by rw [c3_succ, ← HKE.out]; simp only [List.append_assoc]
                          have HL := Lib.hid hL
                          have HLL := Lib.hid hLL
                          have hf6 : FitsL T (c0 ps kc ka j ++ c1 ps kc ka j m ++ c2 ps kc ka j k u ++ c3 ps kc ka j k u (n + 1)) := by
                            rw [hLL]
                            exact HFT.out.append (fun K' hK' => by simp at hK'; subst hK'; exact HFI.out)
                          have HF6 := Lib.hid hf6
                          obtain ⟨⟨x0, x1, x2, x3, x4⟩, _⟩ := Blk.five k6
                          have hz6 := k6.lt
                          have O6 := Lib.hid o6
                          have B6 := Lib.hid b6
                          clear hL hLL hf6 k6 o6 b6 qK qj qk pj pk pK
                          by_cases hpos : 0 < N.n
                          · have dpos : decide (0 < N.n) = true := decide_eq_true hpos
                            have HY := Lib.hid (show ys ++ [N] = netsOf T (c0 ps kc ka j ++ c1 ps kc ka j m ++ c2 ps kc ka j k u ++ c3 ps kc ka j k u (n + 1)) by rw [HLL.out, netsOf_append, ← HYS.out, HL.out, if_pos hpos])
                            clear hpos
                            go_wp2_with (at_builtin; refine wpList_append_any _ rfl (.tmp 112) (.tmp 114) _ rfl W0.heap.size 34 m0 _ 5 40 Try.underlying25 hm0 hmz0 hmz1 hmz2 rfl (by omega) (.slice A5 ys.length d5) ys.length (nCells ys) rfl (O6.out.alloc _) (W6.heap.size + 1) (some ⟨W6.heap.size, 0, none⟩) 1 1 (encN N) rfl (reads_net W6 34 N) (by simp [encN, Value.oneCell']) (by simp only [maxLen]; omega) (by omega) (by have := B6.out.size; simp; omega) ?_; intro v7 w7 hown7 hg7 hat7)
                            obtain ⟨A7, d7, rfl⟩ := own_shape hown7
                            have B7 : Below W0.heap.size W0 w7 := Below.grown (B6.out.alloc B6.out.size _) hg7 (by have := B6.out.size; simp; omega) (fun j hj => (own_block O6.out hj).1)
                            have e7 : ys.length + 1 = (ys ++ [N]).length := by simp
                            have e8 : nCells ys ++ encN N = nCells (ys ++ [N]) := by rw [nCells_append]; simp [nCells]
                            rw [e7, e8] at hown7
                            rw [e7]
                            have l7 : (ys ++ [N]).length ≤ j * 14400 + m * 120 + u * 60 + (n + 1) := by rw [← e7]; omega
                            have O7 := Lib.hid hown7
                            have HB7 := Lib.hid B7
                            generalize ys ++ [N] = zs at HY l7 O7 ⊢
                            clear hown7 hg7 hat7 B7 e7 e8
                            go_roundw
                            case rel => exact ⟨n + 1, by rw [← HKS.out]; omega, by go_num, A7, d7, zs, rfl, O7.out, HY.out, HF6.out, l7, HB7.out⟩
                            case measure => simp [intOf]; omega
                          · have dpos : decide (0 < N.n) = false := decide_eq_false hpos
                            have HY := Lib.hid (show ys = netsOf T (c0 ps kc ka j ++ c1 ps kc ka j m ++ c2 ps kc ka j k u ++ c3 ps kc ka j k u (n + 1)) by rw [HLL.out, netsOf_append, ← HYS.out, HL.out, if_neg hpos, List.append_nil])
                            clear hpos
                            go_wp2_with fail
                            go_roundw
                            case rel => exact ⟨n + 1, by rw [← HKS.out]; omega, by go_num, A5, d5, ys, rfl, O6.out, HY.out, HF6.out, by omega, B6.out⟩
                            case measure => simp [intOf]; omega
                      · have hno : 4611686018427387904 < T K ∨ 4611686018427387904 < T K.back := by omega -- ARM unfit
                        have hcall := fun W' h => N2.out K hl01 W' h hno
                        rw [e4] at hcall
                        have HNS := Lib.hid (show ¬ SmallM (msOf ts) from fun hs => by
                          have h1 := hs.2 K
                          have h2 := hs.2 K.back
                          rw [← HTT.out] at h1 h2
                          omega)
                        have HCA := Lib.hid hcall
                        clear hcall hno hfit hl01 e4
                        go_wp2_with fail
                        have XA := Lib.hid (HT.out.below BX.out.drew)
                        have XB := Lib.hid (HT.out.below (BX.out.alloc BX.out.size (.cells #[.int .i64 0, .int .i64 0, .int .i64 0, .int .i64 0, .int .i64 0] 34)).drew)
                        have YA := Lib.hid (HB.out.drew)
                        have YB := Lib.hid ((HB.out.alloc HB.out.size (.cells #[.int .i64 0, .int .i64 0, .int .i64 0, .int .i64 0, .int .i64 0] 34)).drew)
                        go_region_held3 (fun w' => w'.cell? ⟨bP, oP + j, none⟩ = some (.int .i64 K.f) ∧ w'.cell? ⟨bP, oP + k, none⟩ = some (.int .i64 K.t) ∧ w'.cell? ⟨g, u, none⟩ = some (.slice (some ⟨bK, oK, none⟩) ks.length cK) ∧ w'.cell? ⟨bK, oK + n, none⟩ = some (.int .i64 K.a)) (first | with_reducible exact s5 | with_reducible exact ⟨(set5_cell (by simp; omega) (by simp; omega)).trans s5.1, (set5_cell (by simp; omega) (by simp; omega)).trans s5.2.1, (set5_cell (by simp; omega) (by simp; omega)).trans s5.2.2.1, (set5_cell (by simp; omega) (by simp; omega)).trans s5.2.2.2⟩ | go_keep) (first
                          | (go_at_call 24; refine (HCA.out _ (by first | exact XA.out | exact XB.out)).mono ?_; rintro e w5 ⟨rfl, hb5⟩; first | (have b05 : Below W0.heap.size W0 w5 := YA.out.trans (hb5.mono HB.out.size); have o5 := own_below HOW.out.drew hb5; have s5 : w5.cell? ⟨bP, oP + j, none⟩ = some (.int .i64 K.f) ∧ w5.cell? ⟨bP, oP + k, none⟩ = some (.int .i64 K.t) ∧ w5.cell? ⟨g, u, none⟩ = some (.slice (some ⟨bK, oK, none⟩) ks.length cK) ∧ w5.cell? ⟨bK, oK + n, none⟩ = some (.int .i64 K.a) := ⟨(b05.cell (p := ⟨bP, oP + j, none⟩) hbP).trans pj, (b05.cell (p := ⟨bP, oP + k, none⟩) hbP).trans pk, (b05.cell (p := ⟨g, u, none⟩) hgW).trans hK0, (b05.cell (p := ⟨bK, oK + n, none⟩) hbK).trans pK⟩) | (have b05 : Below W0.heap.size W0 w5 := YB.out.trans (hb5.mono (by have := HB.out.size; simp; omega)); have o5 := own_below (HOW.out.alloc (.cells #[.int .i64 0, .int .i64 0, .int .i64 0, .int .i64 0, .int .i64 0] 34)).drew hb5; have k5 := ((Blk.new wr 34 #[.int .i64 0, .int .i64 0, .int .i64 0, .int .i64 0, .int .i64 0]).drew).below hb5 (by simp); obtain ⟨⟨z0, z1, z2, z3, z4⟩, y0, y1, y2, y3, y4⟩ := Blk.five k5; have hz5 := k5.lt; have s5 : w5.cell? ⟨bP, oP + j, none⟩ = some (.int .i64 K.f) ∧ w5.cell? ⟨bP, oP + k, none⟩ = some (.int .i64 K.t) ∧ w5.cell? ⟨g, u, none⟩ = some (.slice (some ⟨bK, oK, none⟩) ks.length cK) ∧ w5.cell? ⟨bK, oK + n, none⟩ = some (.int .i64 K.a) := ⟨(b05.cell (p := ⟨bP, oP + j, none⟩) hbP).trans pj, (b05.cell (p := ⟨bP, oP + k, none⟩) hbP).trans pk, (b05.cell (p := ⟨g, u, none⟩) hgW).trans hK0, (b05.cell (p := ⟨bK, oK + n, none⟩) hbK).trans pK⟩)))
                        · obtain ⟨W6, hW6⟩ : ∃ W6, W6 = w5.alloc (.cells #[.int .i64 0, .int .i64 0, .int .i64 0, .int .i64 0, .int .i64 0] 34) := ⟨_, rfl⟩ -- ARM unfitA
                          rw [← hW6]
                          obtain ⟨gn, hgn⟩ : ∃ gn, gn = w5.heap.size := ⟨_, rfl⟩
                          rw [← hgn]
                          have k6 : Blk W6 gn 34 #[.int .i64 0, .int .i64 0, .int .i64 0, .int .i64 0, .int .i64 0] := by rw [hW6, hgn]; exact Blk.new _ _ _
                          have b6 : Below W0.heap.size W0 W6 := by rw [hW6]; exact b05.alloc b05.size _
                          have o6 : W6.ownsRow W0.heap.size 34 5 (.slice A5 ys.length d5) ys.length (nCells ys) := by rw [hW6]; exact o5.alloc _
                          clear hW6 hgn hb5 b05 o5 s5
                          clear k6 o6
                          go_wp2_with fail
                          go_ret2
                          exact ⟨.inr ⟨HNS.out, rfl⟩, B0.out.trans (b6.mono B0.out.size)⟩
                        · obtain ⟨W6, hW6⟩ : ∃ W6, W6 = ((((w5.setCell ⟨wr.heap.size, 0, none⟩ (.int .i64 0)).setCell ⟨wr.heap.size, 1, none⟩ (.int .i64 0)).setCell ⟨wr.heap.size, 2, none⟩ (.int .i64 0)).setCell ⟨wr.heap.size, 3, none⟩ (.int .i64 0)).setCell ⟨wr.heap.size, 4, none⟩ (.int .i64 0) := ⟨_, rfl⟩ -- ARM unfitB
                          rw [← hW6]
                          obtain ⟨gn, hgn⟩ : ∃ gn, gn = wr.heap.size := ⟨_, rfl⟩
                          rw [← hgn]
                          have k6 : Blk W6 gn 34 #[.int .i64 0, .int .i64 0, .int .i64 0, .int .i64 0, .int .i64 0] := by rw [hW6, hgn]; exact set5_blk k5 _ _ _ _ _
                          have b6 : Below W0.heap.size W0 W6 := by rw [hW6]; exact b05.grown (set5_only _ _ _ _ _ _ _) b05.size (fun j hj => by injection hj with hj; subst hj; exact HB.out.size)
                          have o6 : W6.ownsRow W0.heap.size 34 5 (.slice A5 ys.length d5) ys.length (nCells ys) := by
                            rw [hW6]
                            exact own_far o5 (set5_only _ _ _ _ _ _ _) (fun j hj e => by injection e with e; have := (own_block HOW.out hj).2.1; omega)
                          clear hW6 hgn hb5 b05 o5 s5 k5 z0 z1 z2 z3 z4 y0 y1 y2 y3 y4 hz5
                          clear k6 o6
                          go_wp2_with fail
                          go_ret2
                          exact ⟨.inr ⟨HNS.out, rfl⟩, B0.out.trans (b6.mono B0.out.size)⟩
                    · obtain rfl : n = ks.length := by omega -- ARM e4
                      have HOut := Lib.hid (show OutIs W0 T (c0 ps kc ka j ++ c1 ps kc ka j m ++ c2 ps kc ka j k (u + 1)) (j * 14400 + m * 120 + (u + 1) * 60) (.slice A5 ys.length d5) wr from ⟨A5, d5, ys, rfl, ho, by rw [c2_succ, ← List.append_assoc, ← HKS.out]; exact hys, by rw [c2_succ, ← List.append_assoc, ← HKS.out]; exact hft, by omega, hb⟩)
                      clear ho hys hft hb
                      go_wp2_with fail
                      go_roundw
                      case rel => exact ⟨u + 1, by omega, by go_num, HOut.out⟩
                      case measure => simp [intOf]; omega
                · obtain rfl : u = 2 := by omega -- ARM e3
                  obtain ⟨A5, d5, ys, rfl, ho, hys, hft, hyl, hb⟩ := HO3.out
                  have HOut := Lib.hid (show OutIs W0 T (c0 ps kc ka j ++ c1 ps kc ka j (m + 1)) (j * 14400 + (m + 1) * 120) (.slice A5 ys.length d5) wr from ⟨A5, d5, ys, rfl, ho, by rw [c1_succ, ← List.append_assoc, ← HKK.out]; exact hys, by rw [c1_succ, ← List.append_assoc, ← HKK.out]; exact hft, by omega, hb⟩)
                  clear ho hys hft hb HO3
                  have ek : ((j + 1 + (m + 1) : Nat) : Int) = (k : Int) + 1 := by have := HKK.out; omega
                  have HEK := Lib.hid ek
                  have d2 : decide (((2 : Nat) : Int) < 2) = false := by decide
                  clear ek
                  go_wp2_with fail
                  go_roundw
                  case rel => exact ⟨m + 1, by have := HKK.out; omega, by rw [HEK.out], HOut.out⟩
                  case measure => simp [intOf]; omega
            · have ek : k = ps.length := by omega -- ARM e2
              obtain ⟨A5, d5, ys, rfl, ho, hys, hft, hyl, hb⟩ := HO2.out
              have em : m = ps.length - (j + 1) := by have := HKK.out; omega
              have HOut := Lib.hid (show OutIs W0 T (c0 ps kc ka (j + 1)) ((j + 1) * 14400) (.slice A5 ys.length d5) wr from ⟨A5, d5, ys, rfl, ho, by rw [c0_succ, ← em]; exact hys, by rw [c0_succ, ← em]; exact hft, by omega, hb⟩)
              have dk : decide ((k : Int) < (ps.length : Int)) = false := decide_eq_false (by omega)
              clear ho hys hft hb HO2 em ek
              go_wp2_with fail
              go_roundw
              case rel => exact ⟨j + 1, by omega, by go_num, HOut.out⟩
              case measure => simp [intOf]; omega
        · obtain rfl : j = ps.length := by omega -- ARM e1
          obtain ⟨A5, d5, ys, rfl, ho, hys, hft, hyl, hb⟩ := HO1.out
          have HOW := Lib.hid ho
          have HYS := Lib.hid hys
          have HFT := Lib.hid hft
          have HB := Lib.hid hb
          clear ho hys hft hb HO1
          go_wp2_with fail
          go_ret2
          exact ⟨.inl ⟨L1.out ps kc ka HSet.out HFT.out, A5, d5, ys, rfl, by rw [HYS.out, ← HTT.out]; exact L2.out ps kc ka HSet.out, Reads.of_own HOW.out, own_len HOW.out⟩, B0.out.trans (HB.out.mono B0.out.size)⟩

end Go.Proofs.Ytggpdbfkfcoejaa
