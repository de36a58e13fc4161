/-
  The web's entry, taken and stored again: 'w[e] = append(w[e], ..)'.
-/
import Derived.Test.YthoniedmeeahgaaWebMap
import Derived.WideKeyEntry
namespace Go.Proofs.Ythoniedmeeahgaa
open Go.RowKit Go.Maps Go.WideElems Go.ChangeMaps Go.MapKept

theorem key_once {es : Array MapEntry} (h : es.toList.Pairwise (fun x y => x.key ≠ y.key)) {x y : MapEntry} (hx : x ∈ es.toList) (hy : y ∈ es.toList) (he : x.key = y.key) : x = y := by
  obtain ⟨i, hi, rfl⟩ := List.getElem_of_mem hx
  obtain ⟨j, hj, rfl⟩ := List.getElem_of_mem hy
  rcases Nat.lt_trichotomy i j with h1 | h1 | h1
  · exact absurd he (List.pairwise_iff_getElem.1 h i j hi hj h1)
  · subst h1
    rfl
  · exact absurd he.symm (List.pairwise_iff_getElem.1 h j i hj hi h1)
set_option maxRecDepth 100000 in
theorem MapW.entry {w : World} {b n : Nat} {S : EdD → Option HdD} (h : MapW w b n S) {k : EdD} (hk : k.wf) (hn : n < maxLen) :
    ∃ (st : Nat) (w1 : World), (Instr.mapEntry 45 (.map (some b)) k.v).run Try.prog w = .ok (.tuple #[hdV (S k), goInt st]) w1 ∧ w.grownBy w1 (some b) ∧ w1.heap.size = w.heap.size ∧
      ∀ (w2 : World) (hd : HdD) (S' : EdD → Option HdD), w2.heap[b]? = w1.heap[b]? → S' k = some hd → (∀ k', k' ≠ k → S' k' = S k') →
        ∃ w3, (Instr.entryStore 45 (.map (some b)) (goInt st) hd.v).run Try.prog w2 = .ok () w3 ∧ MapW w3 b (n + 1) S' ∧ w2.grownBy w3 (some b) := by
  obtain ⟨D, hown, hat⟩ := h
  have hown' := hown
  obtain ⟨es, clock, hb, F, hs, hD⟩ := hown
  obtain ⟨v0, st, es1, clock1, hrun, hv0, hback⟩ := entry_then_store keyLawW Try.underlying45 zeroItems hb F (lit_of hk)
  have hap : es.toList.Pairwise (fun x y => x.key ≠ y.key) := ((stamped_iff es clock).1 F.stamped).2.2
  have hv : v0 = hdV (S k) := by
    have hD2 := (hat k hk).2
    rw [hD] at hD2
    rcases Maps.fit_look false keyLaw Try.underlying45 (zeroItems w) hb F (lit_of hk) with ⟨_, hno, hz⟩ | ⟨e0, y, he1, he2, _, hR, hz, _⟩
    · rw [hz] at hD2
      have hS : S k = none := hdE_inj (x := S k) (y := none) hD2.symm
      rcases hv0 with ⟨e0, he, hk0, rfl⟩ | ⟨_, rfl⟩
      · exact absurd hk0 (hno e0 he)
      · rw [hS]
        rfl
    · rw [hz] at hD2
      rcases hv0 with ⟨e1, he, hk0, rfl⟩ | ⟨hno, _⟩
      · obtain rfl := key_once hap he he1 (hk0.trans he2.symm)
        obtain ⟨x, hx, hy⟩ := hdR_inv hR
        rw [hx]
        rw [hy] at hD2
        rw [hdE_inj hD2]
      · exact absurd he2 (hno e0 he1)
  subst hv
  have hlt : b < w.heap.size := (Array.getElem?_eq_some_iff.1 hb).1
  refine ⟨st, _, hrun, ⟨rfl, rfl, rfl, by simp [setBlock], fun i _ hi => heap_setBlock_other hb _ (fun e => hi (by rw [e]))⟩, by simp [setBlock], fun w2 hd S' hw2 h1 h2 => ?_⟩
  rw [heap_setBlock_same hb] at hw2
  obtain ⟨es', clock', hst, hup⟩ := hback w2 hd.v hw2
  obtain ⟨es2, clock2, hup2, F2, hput, _⟩ := Maps.fit_store (R' := hdR) keyLaw Try.underlying45 hb F (Nat.lt_of_le_of_lt hs hn) (fun _ _ _ _ hz => hz) (lit_of hk) (hdR_of (some hd))
  have hup2' : (Instr.mapUpdate 45 (.map (some b)) k.v hd.v).run Try.prog w = .ok () (setBlock w b (.map es2 clock2)) := hup2
  rw [hup] at hup2'
  injection hup2' with _ hsame
  have hbb : (setBlock w b (.map es' clock')).heap[b]? = (setBlock w b (.map es2 clock2)).heap[b]? := by rw [hsame]
  rw [heap_setBlock_same hb, heap_setBlock_same hb] at hbb
  injection hbb with hbb
  injection hbb with e1 e2
  subst e1 e2
  refine ⟨_, hst, ⟨D.put k.lit (hdE (some hd)), ⟨es', clock', heap_setBlock_same hw2 _, F2, ?_, ?_⟩, fun k' hk' => ?_⟩, ⟨rfl, rfl, rfl, by simp [setBlock], fun i _ hi => heap_setBlock_other hw2 _ (fun e => hi (by rw [e]))⟩⟩
  · obtain ⟨w4, hr4, ho4, _⟩ := hown'.update keyLaw Try.underlying45 hn (lit_of hk) (hdR_of (some hd))
    have hr4' : (Instr.mapUpdate 45 (.map (some b)) k.v hd.v).run Try.prog w = .ok () w4 := hr4
    rw [hup] at hr4'
    injection hr4' with _ hsame4
    obtain ⟨es4, clock4, hb4, _, hs4, _⟩ := ho4
    rw [← hsame4, heap_setBlock_same hb] at hb4
    injection hb4 with hb4
    injection hb4 with e3 _
    rw [e3]
    exact hs4
  · rw [hD, DataW.put_eq, hput]
  · by_cases e : k' = k
    · subst e
      rw [has_put_same hown'.isMap (keyLaw.key (lit_of hk)), atKey_put_same hown'.isMap (keyLaw.key (lit_of hk)), h1]
      exact ⟨rfl, rfl⟩
    · rw [has_put_other (fun e' => e (lit_inj hk' hk e')), atKey_put_other (fun e' => e (lit_inj hk' hk e')), h2 k' e]
      exact hat k' hk'
end Go.Proofs.Ythoniedmeeahgaa
