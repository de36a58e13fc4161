/-
  package post by contract, the fourth part: Copy, Take.
-/
import Derived.Test.YtoiopoebjchjeaaPostC
import Derived.RegionTactic
import Derived.BigRegion
import Derived.Deep.RegionWith
namespace Go.Proofs.Ytoiopoebjchjeaa
open Go.RowKit

theorem CallR.pre {P : World → Nat → Nat → Option Nat → Int → List Pk → Prop} {w w1 w' : World} {base g : Nat} {rb : Option Nat} {most : Int} {L' : List Pk} {v : Value} {e : Ending} (hb : Below w.heap.size w w1) (h : CallR P w1 base g rb most L' v e w') : CallR P w base g rb most L' v e w' := by
  obtain ⟨rb', he, hp, hm, hf⟩ := h
  refine ⟨rb', he, hp, ?_, (Fr.of_below hb).trans hf⟩
  rcases hm with rfl | ⟨k, hk, hle⟩
  · exact .inl rfl
  · exact .inr ⟨k, hk, Nat.le_trans hb.size hle⟩
theorem copyL_no {most : Int} {L : List Pk} {i : Int} (h : okL L i = false) : copyL most L i = (L, 8) := by unfold copyL; rw [if_neg (by simp [h])]
theorem copyL_yes {most : Int} {L : List Pk} {i : Int} (h : okL L i = true) : copyL most L i = putL most L (atL L i).1 (atL L i).2 := by unfold copyL; rw [if_pos h]
theorem atL_small {most : Int} {L : List Pk} (h : SmallL most L) (i : Int) : (atL L i).2.length ≤ 60100 := by
  unfold atL
  split
  · rename_i hk
    obtain ⟨k, rfl, hk2⟩ := okL_yes hk
    simp only [Int.toNat_natCast]
    rw [List.getD, List.getElem?_eq_getElem hk2]
    exact h.2.2.2 _ (List.getElem_mem hk2)
  · simp

set_option maxRecDepth 100000 in
set_option maxHeartbeats 1000000 in
theorem copyp_any (base g : Nat) (rb : Option Nat) (most : Int) (L : List Pk) (i : Int) (w : World) (h : PX w base g rb most L) (hbase : base ≤ w.heap.size) :
    Calls Try.prog 18 #[.pointer (some ⟨g, 0, none⟩), .int .i64 i] w (CallR PX w base g rb most (copyL most L i).1 (.int .i64 (copyL most L i).2)) := by
  have hlt := h.lt
  have hsm := atL_small h.1 i
  have ha := at_any base g rb most L i w h
  obtain ⟨to, hto⟩ : ∃ to, to = (atL L i).1 := ⟨_, rfl⟩
  obtain ⟨bs, hbs⟩ : ∃ bs, bs = (atL L i).2 := ⟨_, rfl⟩
  rw [← hbs] at hsm
  unfold AtR at ha
  rw [← hto, ← hbs] at ha
  cases hok : okL L i with
  | false =>
    rw [hok] at ha
    have Hc := Lib.hid (copyL_no (most := most) hok)
    have HA := Lib.hid ha
    clear hok hto hbs ha
    go_enter Try.func18, Try.ntmps18
    go_wp2_with fail
    refine HA.out.mono ?_
    rintro e w1 ⟨v, rfl, ⟨A1, c1, rfl, ho1⟩, hb1⟩
    go_wp2_with fail
    go_ret
    rw [Hc.out]
    exact ⟨rb, rfl, h.below (hb1.alloc hb1.size _), .inl rfl, (Fr.of_below hb1).alloc _⟩
  | true =>
    rw [hok] at ha
    have hc := copyL_yes (most := most) hok
    rw [← hto, ← hbs] at hc
    have Hc := Lib.hid hc
    have HA := Lib.hid ha
    clear hok hto hbs ha hc
    go_enter Try.func18, Try.ntmps18
    go_wp2_with fail
    refine HA.out.mono ?_
    rintro e w1 ⟨v, rfl, ⟨A1, c1, rfl, ho1⟩, hb1⟩
    have O1 := Lib.hid ho1
    clear ho1
    go_wp2_with fail
    have hB : Below w.heap.size w (w1.alloc (.cells #[.int .i64 to, .slice A1 bs.length c1] 37)) := hb1.alloc hb1.size _
    refine (put_any base g rb most L to A1 bs.length c1 bs _ (h.below hB) (by have := hB.size; omega) (((Reads.of_own O1.out).alloc (Nat.le_refl _) _).more (by simp)) (by rintro rfl; exact own_none O1.out) (by omega)).mono ?_
    rintro e w2 ⟨rb', rfl, hp, hm, hf⟩
    go_wp2_with fail
    go_ret
    rw [Hc.out]
    exact CallR.pre hB ⟨rb', rfl, hp, hm, hf⟩

/-- What Take gives. -/
def TakeR (P : World → Nat → Nat → Option Nat → Int → List Pk → Prop) (w : World) (base g : Nat) (rb : Option Nat) (most : Int) (L : List Pk) (i : Int) (e : Ending) (w' : World) : Prop :=
  ∃ v rb', e = .returned (.tuple #[v, .bool (okL L i)]) ∧ (∃ A c, v = .agg #[.int .i64 (atL L i).1, .slice A (atL L i).2.length c] ∧ w'.ownsRow base 5 1 (.slice A (atL L i).2.length c) (atL L i).2.length (bv (atL L i).2)) ∧
    P w' base g rb' most (dropL L i) ∧ Moved w rb rb' ∧ Fr (PS g rb) w w'

set_option maxRecDepth 100000 in
set_option maxHeartbeats 1000000 in
theorem take_any (base g : Nat) (rb : Option Nat) (most : Int) (L : List Pk) (i : Int) (w : World) (h : PX w base g rb most L) (hbase : base ≤ w.heap.size) :
    Calls Try.prog 13 #[.pointer (some ⟨g, 0, none⟩), .int .i64 i] w (TakeR PX w base g rb most L i) := by
  have hlt := h.lt
  have ha := fun w' (hw : PX w' base g rb most L) => at_any base g rb most L i w' hw
  have hd := fun w' (hw : PX w' base g rb most L) => drop_any base g rb most L i w' hw
  obtain ⟨to, hto⟩ : ∃ to, to = (atL L i).1 := ⟨_, rfl⟩
  obtain ⟨bs, hbs⟩ : ∃ bs, bs = (atL L i).2 := ⟨_, rfl⟩
  unfold AtR at ha
  rw [← hto, ← hbs] at ha
  have Hto := Lib.hid hto
  have Hbs := Lib.hid hbs
  cases hok : okL L i with
  | false =>
    rw [hok] at ha
    have HA := Lib.hid ha
    have Hok := Lib.hid hok
    have Hdr := Lib.hid (dropL_out hok)
    clear hok hto hbs ha hd
    go_enter Try.func13, Try.ntmps13
    go_wp2_with fail
    refine (HA.out _ (h.below ((Below.refl _ _).alloc (Nat.le_refl _) _))).mono ?_
    rintro e w1 ⟨v, rfl, ⟨A1, c1, rfl, ho1⟩, hb1⟩
    have r1 := (Blk.new w 37 #[.int .i64 0, .slice none 0 0]).below hb1 (by simp)
    obtain ⟨⟨q0, q1⟩, g0, g1⟩ := Blk.two r1
    have O1 := Lib.hid ho1
    have R1 := Lib.hid r1
    have hz1 := r1.lt
    clear ho1 r1
    go_wp2_with fail
    go_region
    all_goals go_wp2_with fail
    have b1 : Below w.heap.size w w1 := ((Below.refl _ _).alloc (Nat.le_refl _) _).trans (hb1.mono (by simp))
    have r2 := set2_blk R1.out (.int .i64 to) (.slice A1 bs.length c1)
    have o2 := set2_only w1 w.heap.size (.int .i64 to) (.slice A1 bs.length c1)
    have b2 : Below w.heap.size w ((w1.setCell ⟨w.heap.size, 0, none⟩ (.int .i64 to)).setCell ⟨w.heap.size, 1, none⟩ (.slice A1 bs.length c1)) := below_only b1 o2 b1.size (Nat.le_refl _)
    refine bodyPost_ret (results_row_tmp Try.results13 _ _ w.heap.size _ _ _ rfl ((r2.alloc _).drew) Try.underlying37 rfl (by kernel_rfl)) rfl ?_
    refine ⟨_, rb, by rw [Hok.out]; rfl, ?_, by rw [Hdr.out]; exact h.below ((b2.alloc b2.size _).drew), .inl rfl, Fr.of_below ((b2.alloc b2.size _).drew)⟩
    rw [← Hto.out, ← Hbs.out]
    exact ⟨A1, c1, rfl, ((own_mono (own_only O1.out o2 (by simp)) (by simp; omega)).alloc _).drew⟩
  | true =>
    rw [hok] at ha
    simp only [hok] at hd
    have HA := Lib.hid ha
    have HD := Lib.hid hd
    have Hok := Lib.hid hok
    clear hok hto hbs ha hd
    go_enter Try.func13, Try.ntmps13
    go_wp2_with fail
    refine (HA.out _ (h.below ((Below.refl _ _).alloc (Nat.le_refl _) _))).mono ?_
    rintro e w1 ⟨v, rfl, ⟨A1, c1, rfl, ho1⟩, hb1⟩
    have r1 := (Blk.new w 37 #[.int .i64 0, .slice none 0 0]).below hb1 (by simp)
    have O1 := Lib.hid ho1
    have b1 : Below w.heap.size w w1 := ((Below.refl _ _).alloc (Nat.le_refl _) _).trans (hb1.mono (by simp))
    obtain ⟨⟨q0, q1⟩, g0, g1⟩ := Blk.two r1
    have R1 := Lib.hid r1
    have hz1 := r1.lt
    clear ho1 r1 hb1
    go_wp2_with fail
    have hx := h.below (b1.alloc b1.size (.cells #[.int .i64 to, .slice A1 bs.length c1] 37)).drew
    have HX := Lib.hid hx
    have hng : ¬ PS g rb w.heap.size := by
      rintro (e | e)
      · omega
      · have := (h.row e).2.1; omega
    have hng1 : ¬ PS g rb w1.heap.size := by
      rintro (e | e)
      · have := b1.size; omega
      · have := (h.row e).2.1; have := b1.size; omega
    have Hng := Lib.hid hng
    have Hng1 := Lib.hid hng1
    clear hx hng hng1
    go_region_with (go_at_call 16; refine (HD.out _ HX.out).mono ?_; rintro e w2 ⟨rb', rfl, hp2, hm2, hf2⟩; obtain ⟨⟨p0, p1⟩, k0, k1⟩ := Blk.two ((((R1.out.alloc _).drew).fr hf2 Hng.out)); obtain ⟨⟨s0, s1⟩, _⟩ := Blk.two (((Blk.new w1 37 #[.int .i64 to, .slice A1 bs.length c1]).drew).fr hf2 Hng1.out))
    all_goals go_wp2_with fail
    all_goals
      have r2 := ((R1.out.alloc (.cells #[.int .i64 to, .slice A1 bs.length c1] 37)).drew).fr hf2 Hng.out
      have r3 := set2_blk r2 (.int .i64 to) (.slice A1 bs.length c1)
      have f2 : Fr (PS g rb) w w2 := (Fr.of_below (b1.alloc b1.size _).drew).trans hf2
      have f3 := (f2.set w.heap.size 0 (.int .i64 to) (fun h => absurd h (Nat.lt_irrefl _))).set w.heap.size 1 (.slice A1 bs.length c1) (fun h => absurd h (Nat.lt_irrefl _))
      have f4 : Fr (fun k => k = w.heap.size) w2 ((w2.setCell ⟨w.heap.size, 0, none⟩ (.int .i64 to)).setCell ⟨w.heap.size, 1, none⟩ (.slice A1 bs.length c1)) := Fr.of_grown (set2_only _ _ _ _) (fun j hj => by injection hj with hj; exact hj.symm)
      have n4 : ∀ k cs, k = w.heap.size → k < w2.heap.size → ¬ Blk w2 k 5 cs := by
        rintro k cs rfl _ hb
        exact Blk.ne_ r2 hb (by decide) rfl
      have okb : PD.ok ⟨to, A1, c1, bs⟩ (w1.alloc (.cells #[.int .i64 to, .slice A1 bs.length c1] 37)).drew base := ((own_mono O1.out (by simp; omega)).alloc _).drew
      refine bodyPost_ret (results_row_tmp Try.results13 _ _ w.heap.size _ _ _ rfl r3 Try.underlying37 rfl (by kernel_rfl)) rfl ?_
      refine ⟨_, rb', by rw [Hok.out]; rfl, ?_, hp2.fr f4 (by omega) ?_ n4, ?_, f3⟩
      · rw [← Hto.out, ← Hbs.out]
        exact ⟨A1, c1, rfl, (okb.fr hf2 HX.out.nobytes).fr f4 n4⟩
      · rintro k hk rfl
        rcases hm2 with e | ⟨k, e, hle⟩
        · exact Nat.lt_irrefl _ (h.row (e.symm.trans hk)).2.1
        · rw [hk] at e
          injection e with e
          have := b1.size
          simp at hle
          omega
      · rcases hm2 with e | ⟨k, e, hle⟩
        · exact .inl e
        · exact .inr ⟨k, e, by have := b1.size; simp at hle; omega⟩
end Go.Proofs.Ytoiopoebjchjeaa
