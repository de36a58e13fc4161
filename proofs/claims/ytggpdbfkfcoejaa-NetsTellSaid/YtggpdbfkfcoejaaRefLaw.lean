/-
  The reference's nets are the nets: plain law, no program in sight.
-/
import Derived.Test.YtggpdbfkfcoejaaSorted
import Derived.Test.YtggpdbfkfcoejaaNetLaw
namespace Go.Proofs.Ytggpdbfkfcoejaa
open Go.RowKit

def partsL (ts : List TrD) : List Int := ts.flatMap fun x => [x.b, x.s]
def netsOf (T : KeyD → Int) (L : List KeyD) : List NetD := (L.map (netAt T)).filter fun x => decide (0 < x.n)
theorem netsOf_append (T : KeyD → Int) (L L' : List KeyD) : netsOf T (L ++ L') = netsOf T L ++ netsOf T L' := by simp [netsOf]
def FitsL (T : KeyD → Int) (L : List KeyD) : Prop := ∀ K ∈ L, T K ≤ 4611686018427387904 ∧ T K.back ≤ 4611686018427387904
theorem FitsL.append {T : KeyD → Int} {L L' : List KeyD} (h : FitsL T L) (h' : FitsL T L') : FitsL T (L ++ L') := fun K hK => by
  rcases List.mem_append.1 hK with hK | hK
  · exact h K hK
  · exact h' K hK
/-- The keys in the order in which the reference takes them. -/
def kkOf (kc ka : List Int) (w : Nat) : List Int := if w = 0 then kc else ka
def keyAt (ps kc ka : List Int) (i k w a : Nat) : KeyD := ⟨ps.getD i 0, ps.getD k 0, (w : Int), (kkOf kc ka w).getD a 0⟩
def c3 (ps kc ka : List Int) (i k w n : Nat) : List KeyD := (List.range n).map (keyAt ps kc ka i k w)
def c2 (ps kc ka : List Int) (i k n : Nat) : List KeyD := (List.range n).flatMap fun w => c3 ps kc ka i k w (kkOf kc ka w).length
def c1 (ps kc ka : List Int) (i n : Nat) : List KeyD := (List.range n).flatMap fun m => c2 ps kc ka i (i + 1 + m) 2
def c0 (ps kc ka : List Int) (n : Nat) : List KeyD := (List.range n).flatMap fun i => c1 ps kc ka i (ps.length - (i + 1))
theorem c3_succ (ps kc ka : List Int) (i k w n : Nat) : c3 ps kc ka i k w (n + 1) = c3 ps kc ka i k w n ++ [keyAt ps kc ka i k w n] := by simp [c3, List.range_succ]
theorem c2_succ (ps kc ka : List Int) (i k n : Nat) : c2 ps kc ka i k (n + 1) = c2 ps kc ka i k n ++ c3 ps kc ka i k n (kkOf kc ka n).length := by simp [c2, List.range_succ]
theorem c1_succ (ps kc ka : List Int) (i n : Nat) : c1 ps kc ka i (n + 1) = c1 ps kc ka i n ++ c2 ps kc ka i (i + 1 + n) 2 := by simp [c1, List.range_succ]
theorem c0_succ (ps kc ka : List Int) (n : Nat) : c0 ps kc ka (n + 1) = c0 ps kc ka n ++ c1 ps kc ka n (ps.length - (n + 1)) := by simp [c0, List.range_succ]

theorem mem_cand {ps kc ka : List Int} {K : KeyD} : K ∈ c0 ps kc ka ps.length ↔ ∃ i k w a, i < k ∧ k < ps.length ∧ w < 2 ∧ a < (kkOf kc ka w).length ∧ K = keyAt ps kc ka i k w a := by
  unfold c0 c1 c2 c3
  simp only [List.mem_flatMap, List.mem_map, List.mem_range]
  constructor
  · rintro ⟨i, hi, m, hm, w, hw, a, ha, rfl⟩
    exact ⟨i, i + 1 + m, w, a, by omega, by omega, hw, ha, rfl⟩
  · rintro ⟨i, k, w, a, h1, h2, h3, h4, rfl⟩
    exact ⟨i, by omega, k - (i + 1), by omega, w, h3, a, h4, by rw [show i + 1 + (k - (i + 1)) = k by omega]⟩
def klt (x y : KeyD) : Prop := x.f < y.f ∨ (x.f = y.f ∧ (x.t < y.t ∨ (x.t = y.t ∧ (x.l < y.l ∨ (x.l = y.l ∧ x.a < y.a)))))
theorem ris_at {os : List Int} (h : Ris os) {i k : Nat} (hik : i < k) (hk : k < os.length) : os.getD i 0 < os.getD k 0 := by
  have := List.pairwise_iff_getElem.1 h i k (by omega) hk hik
  simpa [List.getD_eq_getElem?_getD, List.getElem?_eq_getElem (show i < os.length by omega), List.getElem?_eq_getElem hk] using this
theorem pw_range {α : Type} {R : α → α → Prop} {n : Nat} {f : Nat → List α} (h1 : ∀ i, i < n → (f i).Pairwise R) (h2 : ∀ i j, i < j → j < n → ∀ x ∈ f i, ∀ y ∈ f j, R x y) : ((List.range n).flatMap f).Pairwise R := by
  induction n with
  | zero => simp
  | succ n ih =>
    rw [List.range_succ, List.flatMap_append, List.pairwise_append]
    refine ⟨ih (fun i hi => h1 i (by omega)) (fun i j hij hj => h2 i j hij (by omega)), by simpa using h1 n (by omega), fun x hx y hy => ?_⟩
    rw [List.mem_flatMap] at hx
    obtain ⟨i, hi, hx⟩ := hx
    rw [List.mem_range] at hi
    simp at hy
    exact h2 i n hi (by omega) x hx y hy
theorem cand_pw {ps kc ka : List Int} (hp : Ris ps) (hc : Ris kc) (ha : Ris ka) : (c0 ps kc ka ps.length).Pairwise klt := by
  have hk : ∀ w, Ris (kkOf kc ka w) := fun w => by unfold kkOf; split <;> assumption
  unfold c0
  refine pw_range (fun i hi => ?_) (fun i j hij hj x hx y hy => ?_)
  · unfold c1
    refine pw_range (fun m hm => ?_) (fun m n hmn hn x hx y hy => ?_)
    · unfold c2
      refine pw_range (fun w hw => ?_) (fun w v hwv hv x hx y hy => ?_)
      · unfold c3
        rw [List.pairwise_map]
        rw [List.pairwise_iff_getElem]
        intro a b ha hb hab
        simp only [List.length_range] at ha hb
        simp only [List.getElem_range]
        exact .inr ⟨rfl, .inr ⟨rfl, .inr ⟨rfl, ris_at (hk w) hab hb⟩⟩⟩
      · unfold c3 at hx hy
        rw [List.mem_map] at hx hy
        obtain ⟨a, _, rfl⟩ := hx
        obtain ⟨b, _, rfl⟩ := hy
        exact .inr ⟨rfl, .inr ⟨rfl, .inl (by show (w : Int) < (v : Int); omega)⟩⟩
    · unfold c2 c3 at hx hy
      simp only [List.mem_flatMap, List.mem_map] at hx hy
      obtain ⟨w, _, a, _, rfl⟩ := hx
      obtain ⟨v, _, b, _, rfl⟩ := hy
      exact .inr ⟨rfl, .inl (ris_at hp (by omega) (by omega))⟩
  · unfold c1 c2 c3 at hx hy
    simp only [List.mem_flatMap, List.mem_map, List.mem_range] at hx hy
    obtain ⟨m, _, w, _, a, _, rfl⟩ := hx
    obtain ⟨n, _, v, _, b, _, rfl⟩ := hy
    exact .inl (ris_at hp hij hj)

/-- What the sorted lists hold. -/
structure SetsL (ts : List TrD) (ps kc ka : List Int) : Prop where
  rp : Ris ps
  rc : Ris kc
  ra : Ris ka
  p : ∀ y, y ∈ ps ↔ y ∈ partsL ts
  c : ∀ y, y ∈ kc ↔ y ∈ ts.map (·.c)
  a : ∀ y, y ∈ ka ↔ y ∈ ts.map (·.a)
theorem mem_getD {xs : List Int} {y : Int} (h : y ∈ xs) : ∃ i, i < xs.length ∧ xs.getD i 0 = y := by
  obtain ⟨i, hi, rfl⟩ := List.getElem_of_mem h
  exact ⟨i, hi, by simp [List.getD_eq_getElem?_getD, List.getElem?_eq_getElem hi]⟩
theorem getD_mem {xs : List Int} {i : Nat} (h : i < xs.length) : xs.getD i 0 ∈ xs := by
  simp [List.getD_eq_getElem?_getD, List.getElem?_eq_getElem h]
section
variable {ts : List TrD} {ps kc ka : List Int}
theorem cand_in (h : SetsL ts ps kc ka) {K : KeyD} (hf : K.f ∈ ps) (ht : K.t ∈ ps) (hlt : K.f < K.t) (hl : K.l = 0 ∨ K.l = 1) (ha : (K.l = 0 → K.a ∈ kc) ∧ (K.l = 1 → K.a ∈ ka)) : K ∈ c0 ps kc ka ps.length := by
  rw [mem_cand]
  obtain ⟨f, t, l, a⟩ := K
  simp only at hf ht hlt hl ha
  obtain ⟨i, hi, rfl⟩ := mem_getD hf
  obtain ⟨k, hk, rfl⟩ := mem_getD ht
  have hik : i < k := by
    rcases Nat.lt_trichotomy i k with e | e | e
    · exact e
    · subst e; omega
    · have := ris_at h.rp e hi
      omega
  rcases hl with rfl | rfl
  · obtain ⟨n, hn, rfl⟩ := mem_getD (ha.1 rfl)
    exact ⟨i, k, 0, n, hik, hk, by omega, hn, rfl⟩
  · obtain ⟨n, hn, rfl⟩ := mem_getD (ha.2 rfl)
    exact ⟨i, k, 1, n, hik, hk, by omega, hn, rfl⟩
/-- A key of which something goes: it or its back is taken. -/
theorem cand_of (h : SetsL ts ps kc ka) (hmay : ∀ x ∈ ts, mayT x) {K : KeyD} (hK : tot (msOf ts) K ≠ 0) : (K.f < K.t ∧ K ∈ c0 ps kc ka ps.length) ∨ (K.t < K.f ∧ K.back ∈ c0 ps kc ka ps.length) := by
  obtain ⟨m, hm, rfl⟩ := tot_pos_mem hK
  unfold msOf at hm
  rw [List.mem_flatMap] at hm
  obtain ⟨x, hx, hm⟩ := hm
  have hne := (hmay x hx).ne
  unfold mvs at hm
  rw [if_neg hne] at hm
  have hb : x.b ∈ ps := (h.p _).2 (by unfold partsL; rw [List.mem_flatMap]; exact ⟨x, hx, by simp⟩)
  have hs : x.s ∈ ps := (h.p _).2 (by unfold partsL; rw [List.mem_flatMap]; exact ⟨x, hx, by simp⟩)
  have hc : x.c ∈ kc := (h.c _).2 (List.mem_map.2 ⟨x, hx, rfl⟩)
  have ha : x.a ∈ ka := (h.a _).2 (List.mem_map.2 ⟨x, hx, rfl⟩)
  unfold mv at hm
  simp only [List.mem_cons, List.not_mem_nil, or_false] at hm
  rcases hm with rfl | rfl
  · rcases Int.lt_trichotomy x.b x.s with e | e | e
    · exact .inl ⟨e, cand_in h hb hs e (.inl rfl) ⟨fun _ => hc, fun e => by simp at e⟩⟩
    · exact absurd e hne
    · exact .inr ⟨e, cand_in h (K := ⟨x.s, x.b, 0, x.c⟩) hs hb e (.inl rfl) ⟨fun _ => hc, fun e => by simp at e⟩⟩
  · rcases Int.lt_trichotomy x.s x.b with e | e | e
    · exact .inl ⟨e, cand_in h hs hb e (.inr rfl) ⟨fun e => by simp at e, fun _ => ha⟩⟩
    · exact absurd e.symm hne
    · exact .inr ⟨e, cand_in h (K := ⟨x.b, x.s, 1, x.a⟩) hb hs e (.inr rfl) ⟨fun e => by simp at e, fun _ => ha⟩⟩
theorem cand_small (h : SetsL ts ps kc ka) (hmay : ∀ x ∈ ts, mayT x) (hfit : FitsL (tot (msOf ts)) (c0 ps kc ka ps.length)) : SmallM (msOf ts) := by
  refine ⟨may_nonneg hmay, fun K => ?_⟩
  by_cases hK : tot (msOf ts) K = 0
  · omega
  · rcases cand_of h hmay hK with ⟨_, h1⟩ | ⟨_, h1⟩
    · exact (hfit _ h1).1
    · exact (hfit _ h1).2
theorem part_in (h : SetsL ts ps kc ka) (hmay : ∀ x ∈ ts, mayT x) {y : Int} (hy : y ∈ ps) : wf64 y := by
  have := (h.p y).1 hy
  unfold partsL at this
  rw [List.mem_flatMap] at this
  obtain ⟨x, hx, hy⟩ := this
  have := hmay x hx
  unfold mayT at this
  simp at hy
  exact WalkArith.wf_i64 (by omega)
theorem kind_in (h : SetsL ts ps kc ka) (hmay : ∀ x ∈ ts, mayT x) {w : Nat} {y : Int} (hy : y ∈ kkOf kc ka w) : wf64 y := by
  unfold kkOf at hy
  split at hy
  · have := (h.c y).1 hy
    rw [List.mem_map] at this
    obtain ⟨x, hx, rfl⟩ := this
    have := hmay x hx
    unfold mayT at this
    exact WalkArith.wf_i64 (by omega)
  · have := (h.a y).1 hy
    rw [List.mem_map] at this
    obtain ⟨x, hx, rfl⟩ := this
    have := hmay x hx
    unfold mayT at this
    exact WalkArith.wf_i64 (by omega)
theorem cand_lt (h : SetsL ts ps kc ka) (hmay : ∀ x ∈ ts, mayT x) {K : KeyD} (hK : K ∈ c0 ps kc ka ps.length) : K.f < K.t ∧ K.wf ∧ (K.l = 0 ∨ K.l = 1) := by
  obtain ⟨i, k, w, a, h1, h2, h3, h4, rfl⟩ := mem_cand.1 hK
  refine ⟨ris_at h.rp h1 h2, ⟨part_in h hmay (getD_mem (by omega)), part_in h hmay (getD_mem h2), WalkArith.wf_i64 (by show _ ∧ _; simp only [keyAt]; omega), kind_in h hmay (getD_mem h4)⟩, ?_⟩
  show (w : Int) = 0 ∨ (w : Int) = 1
  omega
theorem netAt_same (T : KeyD → Int) (K : KeyD) (h : K.f < K.t) : min (netAt T K).f (netAt T K).t = K.f ∧ max (netAt T K).f (netAt T K).t = K.t ∧ (netAt T K).l = K.l ∧ (netAt T K).a = K.a := by
  unfold netAt
  split
  · refine ⟨?_, ?_, rfl, rfl⟩
    · show min K.f K.t = K.f
      omega
    · show max K.f K.t = K.t
      omega
  · refine ⟨?_, ?_, rfl, rfl⟩
    · show min K.t K.f = K.f
      omega
    · show max K.t K.f = K.t
      omega
theorem cand_nets (h : SetsL ts ps kc ka) (hmay : ∀ x ∈ ts, mayT x) : NetsR (tot (msOf ts)) (netsOf (tot (msOf ts)) (c0 ps kc ka ps.length)) := by
  have hnn := tot_nonneg (may_nonneg hmay)
  generalize hT : tot (msOf ts) = T at hnn ⊢
  constructor
  · unfold netsOf
    refine List.Pairwise.filter _ ?_
    rw [List.pairwise_map]
    refine List.Pairwise.imp_of_mem (fun {a b} ha hb hab => ?_) (cand_pw h.rp h.rc h.ra)
    have h1 := netAt_same T a (cand_lt h hmay ha).1
    have h2 := netAt_same T b (cand_lt h hmay hb).1
    unfold keyLt
    rw [h1.1, h1.2.1, h1.2.2.1, h1.2.2.2, h2.1, h2.2.1, h2.2.2.1, h2.2.2.2]
    exact hab
  · intro x
    unfold netsOf
    rw [List.mem_filter, List.mem_map]
    constructor
    · rintro ⟨⟨K, hK, rfl⟩, hn⟩
      have hwf := (cand_lt h hmay hK).2.1
      have hn := of_decide_eq_true hn
      unfold netAt at hn ⊢
      split at hn
      · rename_i hle
        rw [if_pos hle]
        refine ⟨K, hwf, ?_, rfl⟩
        simp only [netOf] at hn
        omega
      · rename_i hle
        rw [if_neg hle]
        exact ⟨K.back, ⟨hwf.2.1, hwf.1, hwf.2.2.1, hwf.2.2.2⟩, by show T K < T K.back; omega, rfl⟩
    · rintro ⟨k, hk, hlt, rfl⟩
      have h0 := hnn k.back
      have hne : tot (msOf ts) k ≠ 0 := by rw [hT]; omega
      rcases cand_of h hmay hne with ⟨_, hc⟩ | ⟨_, hc⟩
      · refine ⟨⟨k, hc, ?_⟩, decide_eq_true (by simp only [netOf]; omega)⟩
        unfold netAt
        rw [if_pos (by omega)]
      · refine ⟨⟨k.back, hc, ?_⟩, decide_eq_true (by simp only [netOf]; omega)⟩
        unfold netAt
        rw [if_neg (by show ¬ T k ≤ T k.back; omega)]
        rfl
end
end Go.Proofs.Ytggpdbfkfcoejaa
