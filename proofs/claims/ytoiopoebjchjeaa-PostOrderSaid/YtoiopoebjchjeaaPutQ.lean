/-
  package post by contract, the sixth part: Put, and which blocks hold the bytes.
-/
import Derived.Test.YtoiopoebjchjeaaPostE
namespace Go.Proofs.Ytoiopoebjchjeaa
open Go.RowKit

/-- A post all of whose bytes lie in blocks of Q. -/
def PXQ (w : World) (base g : Nat) (rb : Option Nat) (most : Int) (L : List Pk) (Q : Nat → Prop) : Prop := SmallL most L ∧ ∃ A c ps,
  Blk w g 52 #[.slice A ps.length c, .int .i64 most] ∧ (Value.slice A ps.length c).ownBlock = rb ∧ Row w base (.slice A ps.length c) ps ∧ ps.map PD.data = L ∧ ∀ p ∈ ps, ∀ k, (Value.slice p.A p.bs.length p.c).ownBlock = some k → Q k
theorem PXQ.px {w : World} {base g : Nat} {rb : Option Nat} {most : Int} {L : List Pk} {Q : Nat → Prop} (h : PXQ w base g rb most L Q) : PX w base g rb most L := by
  obtain ⟨h0, A, c, ps, h1, h2, h3, h4, _⟩ := h
  exact ⟨h0, A, c, ps, h1, h2, h3, h4⟩
theorem PX.pxq {w : World} {base g : Nat} {rb : Option Nat} {most : Int} {L : List Pk} {Q : Nat → Prop} (h : PX w base g rb most L) (hQ : ∀ k, k < w.heap.size → Q k) : PXQ w base g rb most L Q := by
  obtain ⟨h0, A, c, ps, h1, h2, h3, h4⟩ := h
  exact ⟨h0, A, c, ps, h1, h2, h3, h4, fun p hp k hk => hQ k (own_block (h3.2 p hp) hk).2.1⟩
theorem PXQ.below {w w' : World} {base g : Nat} {rb : Option Nat} {most : Int} {L : List Pk} {Q : Nat → Prop} (h : PXQ w base g rb most L Q) (hb : Below w.heap.size w w') : PXQ w' base g rb most L Q := by
  obtain ⟨h0, A, c, ps, h1, h2, h3, h4, h5⟩ := h
  exact ⟨h0, A, c, ps, h1.below hb h1.lt, h2, h3.below hb, h4, h5⟩
/-- A block of bytes that no parcel holds may be turned. -/
theorem PXQ.set {w : World} {base g : Nat} {rb : Option Nat} {most : Int} {L : List Pk} {B : Nat} {cs : Array Value} (h : PXQ w base g rb most L (fun k => k ≠ B)) (hB : Blk w B 5 cs) (i : Nat) (u : Value) : PX (w.setCell ⟨B, i, none⟩ u) base g rb most L := by
  obtain ⟨h0, A, c, ps, h1, h2, h3, h4, h5⟩ := h
  have f : Fr (fun k => k = B) w (w.setCell ⟨B, i, none⟩ u) := (Fr.refl _ _).set B i u (fun _ => rfl)
  refine ⟨h0, A, c, ps, h1.fr f (h1.ne_ hB (by decide)), h2, ⟨own_fr h3.1 f (fun k hk e => own_blk_ne h3.1 hB (by decide) (by rw [hk, e])), fun p hp => own_fr (h3.2 p hp) f (fun k hk e => h5 p hp k hk e)⟩, h4⟩

set_option maxRecDepth 100000 in
set_option maxHeartbeats 2000000 in
theorem put_q (base g : Nat) (rb : Option Nat) (most : Int) (L : List Pk) (Q : Nat → Prop) (to : Int) (A0 : Option Addr) (n0 c0 : Nat) (bs : List UInt8) (w : World) (hq : PXQ w base g rb most L Q) (hnew : ∀ k, w.heap.size ≤ k → Q k) (hbase : base ≤ w.heap.size)
    (ha : Reads w w.heap.size 1 A0 n0 (bv bs)) (hc0 : A0 = none → n0 = 0 ∧ c0 = 0) (hmax : n0 ≤ 9223372036854775807) (hroom : (L.length : Int) < most) (hlong : bs.length ≤ 60100) :
    Calls Try.prog 11 #[.pointer (some ⟨g, 0, none⟩), .int .i64 to, .slice A0 n0 c0] w fun e w' => ∃ rb', e = .returned (.int .i64 0) ∧ PXQ w' base g rb' most (L ++ [(to, bs)]) Q ∧ Moved w rb rb' ∧ Fr (PS g rb) w w' := by
  obtain ⟨i0, hi0, hz0, hz1, hz2⟩ := info_parts parcel_info
  have h := hq.px
  obtain ⟨hsmall, A, c, ps, hb, hrb, hrow, hL, hQ⟩ := id hq
  have hlt := hb.lt
  obtain ⟨⟨d0, d1⟩, f0, f1⟩ := Blk.two hb
  have hlen : (ps.length : Int) = L.length := by rw [← hL]; simp
  obtain rfl : bs.length = n0 := by have := ha.1; simp [bv] at this; omega
  have Hc0 := Lib.hid hc0
  clear hc0
  have h1' : (ps.length : Int) < most := by omega
  have HQ := Lib.hid hQ
  have Hnew := Lib.hid hnew
  clear hQ hnew hq
  have h1 : True := trivial
  have h2 : True := trivial
  have hn2 : bs.length ≤ 60100 := by omega
  have HS := Lib.hid (small_put hsmall (to := to) (bs := bs) (by omega) (by omega))
  have h200 : ps.length < 200 := by obtain ⟨_, q2, q3, _⟩ := hsmall; omega
  have HL := Lib.hid hL
  have Hrb := Lib.hid hrb
  have Hrow := Lib.hid hrow
  have Hb := Lib.hid hb
  clear hL hrb hlen h1 h2 hrow hb
  go_enter Try.func11, Try.ntmps11
  go_wp2_with fail
  go_quiet (fail)
  go_wp2_with fail
  have hgr : (Value.slice A ps.length c).ownBlock ≠ some g := by
    intro e
    exact (h.row (k := g) (Hrb.out.symm.trans e)).2.2.1 rfl
  go_region_law (first
    | (go_simp; go_at_call 24; refine (copied_any to A0 c0 bs _ ?_ Hc0.out (by omega)).mono ?_; exact (ha.drewN (nq + 1)).more (Nat.le_refl _); rintro e w1 ⟨v, rfl, ⟨A1, c1, rfl, ho1⟩, hb1⟩; have hlt1 := ((Hb.out.drewN (nq + 1)).below hb1 hlt).lt; obtain ⟨⟨q0, q1⟩, g0, g1⟩ := Blk.two ((Hb.out.drewN (nq + 1)).below hb1 hlt))
    | (go_must (refine step_append_any _ rfl (.tmp 26) (.tmp 31) 44 rfl base 37 i0 _ 2 32 Try.underlying44 hi0 hz0 hz1 hz2 rfl (by omega) (.slice A ps.length c) ps.length (pcells ps) (by simp [Act.eval]) ((own_below (w := w.drewN (nq + 1)) Hrow.out.1 hb1).alloc _) (w1.heap.size + 1) (some ⟨w1.heap.size, 0, none⟩) 1 1 [.int .i64 to, .slice A1 bs.length c1] (by simp [Act.eval]) (reads_two _ _ _ _) (by simp [Value.oneCell']) (by simp only [maxLen]; omega) (by omega) (by have := hb1.size; simp at this ⊢; omega) ?_); intro v2 w2 hown2 hg2 hat2; obtain ⟨A2, c2, rfl⟩ := own_shape hown2; obtain ⟨⟨r0, r1⟩, g0', g1'⟩ := Blk.two (((Hb.out.drewN (nq + 1)).below hb1 hlt).alloc _ |>.grown hg2 (Ne.symm hgr))))
  all_goals go_wp2_with fail
  all_goals
    go_ret
    have b01 : Below w.heap.size w w1 := (below_drewN (Below.refl _ _) (nq + 1)).trans hb1
    have f1 : Fr (PS g rb) w (w1.alloc (.cells #[.int .i64 to, .slice A1 bs.length c1] 37)) := (Fr.of_below b01).alloc _
    have g2 : Fr (PS g rb) (w1.alloc (.cells #[.int .i64 to, .slice A1 bs.length c1] 37)) w2 := Fr.of_grown hg2 (fun j hj => .inr (by rw [← Hrb.out]; exact hj))
    have g3 : Fr (PS g rb) (w1.alloc (.cells #[.int .i64 to, .slice A1 bs.length c1] 37)) (w2.setCell ⟨g, 0, none⟩ (.slice A2 (ps.length + 1) c2)) := g2.set g 0 _ (fun _ => .inl rfl)
    have f3 := f1.trans g3
    have k2 := (((Hb.out.drewN (nq + 1)).below hb1 hlt).alloc (.cells #[.int .i64 to, .slice A1 bs.length c1] 37)).grown hg2 (Ne.symm hgr)
    have k3 := k2.set_ 0 (.slice A2 (ps.length + 1) c2)
    have h1x : PX (w1.alloc (.cells #[.int .i64 to, .slice A1 bs.length c1] 37)) base g rb most L := h.below (b01.alloc b01.size _)
    have ok1 : PD.ok ⟨to, A1, c1, bs⟩ (w1.alloc (.cells #[.int .i64 to, .slice A1 bs.length c1] 37)) base := own_mono (ho1.alloc _) (by simp; omega)
    refine ⟨(Value.slice A2 (ps.length + 1) c2).ownBlock, rfl, ⟨HS.out, A2, c2, ps ++ [⟨to, A1, c1, bs⟩], by simpa using k3, by simp, ⟨?_, ?_⟩, by rw [List.map_append, HL.out]; rfl, ?_⟩, ?_, f3⟩
    · rw [pcells_append, List.length_append]
      refine own_fr (S := fun k => k = g) hown2 (Fr.of_grown (set_only _ g 0 _) (fun j hj => by injection hj with hj; exact hj.symm)) (fun j hj e => ?_)
      subst e
      exact own_blk_ne hown2 k2 (by decide) hj
    · intro p hp
      rcases List.mem_append.1 hp with hp | hp
      · exact (Hrow.out.2 p hp).fr f3 h.nobytes
      · simp at hp
        subst hp
        exact ok1.fr g3 h1x.nobytes
    · intro p hp k hk
      rcases List.mem_append.1 hp with hp | hp
      · exact HQ.out p hp k hk
      · simp at hp
        subst hp
        refine Hnew.out k ?_
        have := (own_block ho1 hk).1
        simpa using this
    · rcases hat2 with e | e
      · exact .inl (e.trans Hrb.out)
      · exact .inr ⟨_, e, by have := b01.size; simp; omega⟩
end Go.Proofs.Ytoiopoebjchjeaa
