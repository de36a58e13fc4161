/-
  The reference's post by contract, the second part: Take, Drop, Copy.
-/
import Derived.Test.YtoiopoebjchjeaaPostY
namespace Go.Proofs.Ytoiopoebjchjeaa
open Go.RowKit

theorem Reads.head {w : World} {B n size : Nat} {A : Option Addr} {xs : List Value} (h : Reads w B size A n xs) {k : Nat} (hk : k ≤ n) : Reads w B size A k (xs.take (k * size)) := by
  refine ⟨by rw [List.length_take, h.1]; exact Nat.min_eq_left (Nat.mul_le_mul_right _ hk), fun hn => ?_⟩
  obtain ⟨ad, e, hb, hc⟩ := h.2 (by omega)
  refine ⟨ad, e, hb, fun j u hu => hc j u ?_⟩
  rw [List.getElem?_take] at hu
  split at hu
  · exact hu
  · cases hu

set_option maxRecDepth 100000 in
set_option maxHeartbeats 2000000 in
theorem takey_any (base g : Nat) (rb : Option Nat) (most : Int) (L : List Pk) (i : Int) (w : World) (h : PY w base g rb most L) (hbase : base ≤ w.heap.size) :
    Calls Try.prog 14 #[.pointer (some ⟨g, 0, none⟩), .int .i64 i] w (TakeR PY w base g rb most L i) := by
  have his := fun w' (hw : PY w' base g rb most L) => is_any base g rb most L i w' hw
  cases hok : okL L i with
  | false =>
    simp only [hok] at his
    have HI := Lib.hid his
    have Ho := Lib.hid hok
    have Hp := Lib.hid (atL_out hok)
    have Hd := Lib.hid (dropL_out hok)
    clear his hok
    go_enter Try.func14, Try.ntmps14
    go_wp2_with fail
    refine (HI.out _ (h.below ((Below.refl _ _).alloc (Nat.le_refl _) _))).mono ?_
    rintro e w1 ⟨rfl, rfl⟩
    go_wp2_with fail
    refine bodyPost_ret (results_row_tmp Try.results14 _ _ w.heap.size _ _ _ rfl (Blk.new _ _ _) Try.underlying37 rfl (by kernel_rfl)) rfl ?_
    exact ⟨_, rb, by rw [Ho.out]; rfl, by rw [Hp.out]; exact ⟨none, 0, rfl, World.ownsRow_nil _ _ _ _⟩, by rw [Hd.out]; exact h.below ((Below.refl _ _).alloc (Nat.le_refl _) _), .inl rfl, (Fr.refl _ _).alloc _⟩
  | true =>
    obtain ⟨i0, hi0, hz0, hz1, hz2⟩ := info_parts parcel_info
    obtain ⟨k, rfl, hkl⟩ := okL_yes hok
    simp only [hok] at his
    obtain ⟨hsmall, A, c, ps, hb, hrb, hrow, hL⟩ := id h
    have hlt := hb.lt
    have hlen : ps.length = L.length := by rw [← hL]; simp
    have hk : k < ps.length := by omega
    obtain ⟨m, hm⟩ : ∃ m, ps.length = m + 1 := ⟨ps.length - 1, by omega⟩
    obtain ⟨r, rfl, hr, e1, e2⟩ := hrow.at k hk
    have hpk := hrow.2 ps[k] (List.getElem_mem hk)
    have hat := atL_in hkl
    have hLk : L[k] = (ps[k].to, ps[k].bs) := by subst hL; simp [PD.data]
    rw [hLk] at hat
    obtain ⟨pk, hpe⟩ : ∃ pk, pk = ps[k] := ⟨_, rfl⟩
    rw [← hpe] at hat hpk e1 e2
    obtain ⟨to, Ab, cb, bs⟩ := pk
    have hpk' : w.ownsRow base 5 1 (.slice Ab bs.length cb) bs.length (bv bs) := hpk
    simp only at e1 e2 hat
    have hcap : m + 1 ≤ c ∧ c ≤ 9223372036854775807 := by
      rcases hrow.1.2 with ⟨h1, h2⟩ | ⟨g', cap, cur, hv, _, _, hnc, hcm, _⟩
      · omega
      · injection hv with _ _ h3
        subst h3
        unfold maxLen at hcm
        omega
    have c1 := hb.cell 1
    simp only [hm] at c1
    simp at c1
    have hk1 : (k : Int) < (m : Int) + 1 := by omega
    have hk0 : (0 : Int) ≤ (k : Int) := Int.natCast_nonneg _
    have hm200 : m ≤ 199 := by obtain ⟨_, q2, q3, _⟩ := hsmall; omega
    have hrs := Reads.of_own hrow.1
    rw [hm] at hrs
    have hr1 := hrs.head (k := k) (by omega)
    have hr2 := hrs.cut (k := k + 1) (cap := c) (by omega) hcap.1
    have hps1 := pcells_take ps k
    have hps2 := pcells_drop ps (k + 1)
    have hrg : r ≠ g := (h.row hrb.symm).2.2.1
    have Hat := Lib.hid hat
    have Ho := Lib.hid hok
    have HP := Lib.hid hpk'
    have HI := Lib.hid his
    have Hm := Lib.hid hm
    have HL := Lib.hid hL
    have Hrow := Lib.hid hrow
    have Hb := Lib.hid hb
    have Hrb := Lib.hid hrb
    have Hd := Lib.hid (dropL_in hkl)
    have HR1 := Lib.hid hr1
    have HR2 := Lib.hid hr2
    have HS := Lib.hid (small_erase hsmall k)
    obtain ⟨c1', c2'⟩ := hcap
    clear hpe hpk hat hLk hL hrb hlen hpk' his hok hm hrow hb hrs hr1 hr2 hps1 hps2 hkl hsmall hk
    go_enter Try.func14, Try.ntmps14
    go_wp2_with fail
    refine (HI.out _ (h.below ((Below.refl _ _).alloc (Nat.le_refl _) _))).mono ?_
    rintro e w1 ⟨rfl, rfl⟩
    go_wp2_with fail
    obtain ⟨W, hW⟩ : ∃ W, W = (w.alloc (.cells #[.int .i64 0, .slice none 0 0] 37)).alloc (.cells #[.int .i64 to, .slice Ab bs.length cb] 37) := ⟨_, rfl⟩
    rw [← hW]
    have bW : Below w.heap.size w W := by rw [hW]; exact ((Below.refl _ _).alloc (Nat.le_refl _) _).alloc (by simp) _
    have b4 : Blk W w.heap.size 37 #[.int .i64 0, .slice none 0 0] := by rw [hW]; exact (Blk.new w _ _).alloc _
    have b6 : Blk W (w.heap.size + 1) 37 #[.int .i64 to, .slice Ab bs.length cb] := by
      have := Blk.new (w.alloc (.cells #[.int .i64 0, .slice none 0 0] 37)) 37 #[.int .i64 to, .slice Ab bs.length cb]
      rw [hW]
      simpa using this
    have hWs : W.heap.size = w.heap.size + 2 := by rw [hW]; simp
    have bg := Hb.out.below bW hlt
    have HR1 := Lib.hid ((HR1.out.below bW).more (by omega : w.heap.size ≤ W.heap.size))
    have HR2 := HR2.out.below bW |>.more (by omega : w.heap.size ≤ W.heap.size)
    rw [Hm.out] at bg
    obtain ⟨⟨_, d1⟩, _, g1⟩ := Blk.two bg
    have hgW := bg.lt
    have BG := Lib.hid bg
    have B4 := Lib.hid b4
    have B6 := Lib.hid b6
    have hwr : IntKind.i64.wrap ((k : Int) + 1) = (k : Int) + 1 := by rw [IntKind.wrap_i64]; omega
    have hp0 : (0 : Int) ≤ (k : Int) + 1 := by omega
    have hp2 : ((k : Int) + 1).toNat = k + 1 := by omega
    have hp3 : (k : Int) ≤ (c : Int) := by omega
    have hp4 : (k : Int) + 1 ≤ (m : Int) + 1 := by omega
    have hp5 : (m : Int) + 1 ≤ (c : Int) := by omega
    obtain ⟨A', hA, HR2'⟩ : ∃ A', (if c = k + 1 then some (⟨r, 0, none⟩ : Addr) else some ⟨r, (k + 1) * 2, none⟩) = A' ∧ Hid (Reads W W.heap.size 2 A' (m + 1 - (k + 1)) ((pcells ps).drop ((k + 1) * 2))) := by
      refine ⟨_, rfl, ?_⟩
      have := HR2
      simp only [Option.map_some, Addr.add_lit, Nat.zero_add] at this
      exact this
    have HWs := Lib.hid hWs
    clear hW b4 b6 bg HR2 e1 e2 c1 hWs
    go_region_law (first
      | (refine step_append_any _ rfl (.tmp 20) (.tmp 26) 44 rfl W.heap.size 37 i0 _ 2 32 Try.underlying44 hi0 hz0 hz1 hz2 rfl (by omega) (.slice (some ⟨W.heap.size, 0, none⟩) 0 0) 0 [] (by simp [Act.eval, Act.put]) ((World.ownsRow_made W #[] 0 (Nat.le_refl _) (by decide) rfl).drew) W.heap.size (some ⟨r, 0, none⟩) k c ((pcells ps).take (k * 2)) (by simp [Act.eval, Act.put]) (HR1.out.alloc (Nat.le_refl _) _).drew (fun u hu => pcells_one ps u (List.mem_of_mem_take hu)) (by simp only [maxLen]; omega) (by omega) (by simp) ?_; intro v2 w2 hown2 hg2 hat2; obtain ⟨A2, c2, rfl⟩ := own_shape hown2; have bg2 := (BG.out.alloc (.cells #[] 37)).drew.grown hg2 (by simp [Value.ownBlock]; omega); obtain ⟨⟨_, d1'⟩, _, g1'⟩ := Blk.two bg2; have hg2s := hg2.size)
      | (go_must (refine step_append_any _ rfl (.tmp 27) (.tmp 34) 44 rfl W.heap.size 37 i0 _ 2 32 Try.underlying44 hi0 hz0 hz1 hz2 rfl (by omega) (.slice A2 (0 + k) c2) (0 + k) ([] ++ (pcells ps).take (k * 2)) (by simp [Act.eval, Act.put]) hown2 W.heap.size A' (m + 1 - (k + 1)) (c - (k + 1)) ((pcells ps).drop ((k + 1) * 2)) (by simp [Act.eval, Act.put, hA]) ((HR2'.out.alloc (Nat.le_refl _) _).drew.grown hg2 (by simp) (by simp [Value.ownBlock])) (fun u hu => pcells_one ps u (List.mem_of_mem_drop hu)) (by simp only [maxLen]; omega) (by omega) (by simp at hg2s; omega) ?_); intro v3 w3 hown3 hg3 hat3; obtain ⟨A3, c3, rfl⟩ := own_shape hown3; have hn3 : (Value.slice A2 (0 + k) c2).ownBlock ≠ some g := own_blk_ne hown2 bg2 (by decide); have bg3 := bg2.grown hg3 (Ne.symm hn3); obtain ⟨⟨_, d1''⟩, _, g1''⟩ := Blk.two bg3))
    all_goals
      have n2 : ∀ j, j < W.heap.size → some j ≠ (Value.slice A2 (0 + k) c2).ownBlock := fun j hj e => by
        have := (own_block hown2 e.symm).1
        omega
      have hWs := HWs.out
      have k6 := ((B6.out.alloc (.cells #[] 37)).drew.grown hg2 (by simp [Value.ownBlock]; omega)).grown hg3 (n2 _ (by omega))
      have k4 := ((B4.out.alloc (.cells #[] 37)).drew.grown hg2 (by simp [Value.ownBlock]; omega)).grown hg3 (n2 _ (by omega))
      have e3 : 0 + k + (m + 1 - (k + 1)) = m := by omega
      have e4 : k + (m - k) = m := by omega
      have F0 : Fr (PS g rb) w ((W.alloc (.cells #[] 37)).drew) := ((Fr.of_below bW).alloc _).drew
      have F1 := F0.new (Fr.of_grown hg2 (S := fun j => j = W.heap.size) (fun j hj => by simp [Value.ownBlock] at hj; exact hj.symm)) (fun j hj e => by omega)
      have F2 := F1.new (Fr.of_grown hg3 (S := fun j => W.heap.size ≤ j) (fun j hj => (own_block hown2 hj).1)) (fun j hj e => by omega)
      have M3 : ∃ j, (Value.slice A3 m c3).ownBlock = some j ∧ W.heap.size ≤ j := by
        rw [e3] at hown3 hat3
        rcases hat3 with e | e
        · rcases hat2 with e' | e'
          · exact ⟨_, e.trans e', Nat.le_refl _⟩
          · exact ⟨_, e.trans e', by simp⟩
        · exact ⟨_, e, by simp at hg2s; omega⟩
      rw [e3] at hown3
      rw [e4]
      have Hown3 := Lib.hid hown3
      have BG3 := Lib.hid bg3
      have F2 := Lib.hid F2
      have K4 := Lib.hid k4
      obtain ⟨⟨p0, p1⟩, _⟩ := Blk.two k6
      obtain ⟨⟨p2, p3⟩, q2, q3⟩ := Blk.two k4
      have hz3 := k6.lt
      clear hown2 hown3 hg2 hg3 hat2 hat3 bg2 bg3 k4 k6 e3 e4 F0 F1 n2 hWs
      go_wp2_with fail
    all_goals
      have hWs := HWs.out
      have kg : Blk (w3.setCell ⟨g, 1, none⟩ (.slice A3 m c3)) w.heap.size 37 #[.int .i64 0, .slice none 0 0] := K4.out.grown (set_only w3 g 1 _) (by simp; omega)
      have r4 := set2_blk kg (.int .i64 to) (.slice Ab bs.length cb)
      refine bodyPost_ret (results_row_tmp Try.results14 _ _ w.heap.size _ _ _ rfl r4 Try.underlying37 rfl (by kernel_rfl)) rfl ?_
      have hlen2 : (ps.eraseIdx k).length = m := by rw [List.length_eraseIdx, if_pos (by rw [Hm.out]; omega), Hm.out]; omega
      have F4 := ((F2.out.set g 1 (.slice A3 m c3) (fun _ => .inl rfl)).set w.heap.size 0 (.int .i64 to) (fun h => absurd h (Nat.lt_irrefl _))).set w.heap.size 1 (.slice Ab bs.length cb) (fun h => absurd h (Nat.lt_irrefl _))
      have F34 := (((Fr.refl (fun j => j < W.heap.size) w3).set g 1 (.slice A3 m c3) (fun _ => hgW)).set w.heap.size 0 (.int .i64 to) (fun _ => by omega)).set w.heap.size 1 (.slice Ab bs.length cb) (fun _ => by omega)
      have kb := ((BG3.out.set_ 1 (.slice A3 m c3)).grown (set2_only _ w.heap.size (.int .i64 to) (.slice Ab bs.length cb)) (by simp; omega))
      obtain ⟨j3, hj3, hj3w⟩ := M3
      refine ⟨_, some j3, by rw [Ho.out]; rfl, ?_, ?_, .inr ⟨j3, rfl, by omega⟩, F4⟩
      · rw [Hat.out]
        exact ⟨Ab, cb, rfl, PD.ok.fr (p := ⟨to, Ab, cb, bs⟩) HP.out F4 h.nobytes⟩
      · rw [Hd.out]
        refine ⟨HS.out, A3, c3, ps.eraseIdx k, by rw [hlen2]; simpa using kb, by rw [hlen2]; exact hj3, ⟨?_, fun p hp => (Hrow.out.2 p (List.mem_of_mem_eraseIdx hp)).fr F4 h.nobytes⟩, by rw [eraseIdx_map, HL.out]⟩
        rw [hlen2, pcells_erase]
        exact own_mono (own_fr Hown3.out F34 (fun j hj e => by have := (own_block Hown3.out hj).1; omega)) (by omega)
end Go.Proofs.Ytoiopoebjchjeaa
