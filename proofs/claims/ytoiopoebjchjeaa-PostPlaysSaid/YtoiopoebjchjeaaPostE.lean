/-
  package post by contract, the fifth part: the calls as the laws see them; first.
-/
import Derived.Test.YtoiopoebjchjeaaPostD
import Derived.Lib.SlBytesConst
import Derived.LoopTactic
import Derived.Deep.LoopGhost
namespace Go.Proofs.Ytoiopoebjchjeaa
open Go.RowKit

/-- A post that was made behind the world's end base. -/
def PXE (w : World) (base g : Nat) (most : Int) (L : List Pk) : Prop := base ≤ w.heap.size ∧ base ≤ g ∧ ∃ rb, PX w base g rb most L
theorem PXE.lt {w : World} {base g : Nat} {most : Int} {L : List Pk} (h : PXE w base g most L) : g < w.heap.size := by
  obtain ⟨_, _, rb, h⟩ := h
  exact h.lt
theorem PXE.small {w : World} {base g : Nat} {most : Int} {L : List Pk} (h : PXE w base g most L) : SmallL most L := by
  obtain ⟨_, _, rb, h⟩ := h
  exact h.1
theorem PXE.base {w : World} {base g : Nat} {most : Int} {L : List Pk} (h : PXE w base g most L) : base ≤ w.heap.size := h.1
theorem PXE.below {w w' : World} {base g : Nat} {most : Int} {L : List Pk} (h : PXE w base g most L) (hb : Below w.heap.size w w') : PXE w' base g most L := by
  obtain ⟨h1, h2, rb, h⟩ := h
  exact ⟨Nat.le_trans h1 hb.size, h2, rb, h.below hb⟩
theorem PXE.alloc {w : World} {base g : Nat} {most : Int} {L : List Pk} (h : PXE w base g most L) (o : Obj) : PXE (w.alloc o) base g most L := h.below ((Below.refl _ _).alloc (Nat.le_refl _) o)
theorem PXE.drewN {w : World} {base g : Nat} {most : Int} {L : List Pk} (h : PXE w base g most L) (n : Nat) : PXE (w.drewN n) base g most L := h.below (below_drewN (Below.refl _ _) n)
/-- One block that is no part of the post may be set. -/
theorem PX.ps_ge {w : World} {base g : Nat} {rb : Option Nat} {most : Int} {L : List Pk} (h : PX w base g rb most L) (hg : base ≤ g) : ∀ i, PS g rb i → base ≤ i := by
  rintro i (rfl | hi)
  · exact hg
  · exact (h.row hi).1

/-- A call on a post, as a law sees it. -/
def CallB (w : World) (base g : Nat) (most : Int) (L' : List Pk) (v : Value) (e : Ending) (w' : World) : Prop := e = .returned v ∧ PXE w' base g most L' ∧ Below base w w'
theorem CallB.of {w w' : World} {base g : Nat} {rb : Option Nat} {most : Int} {L L' : List Pk} {v : Value} {e : Ending} (h0 : PX w base g rb most L) (hb : base ≤ w.heap.size) (hg : base ≤ g) (h : CallR PX w base g rb most L' v e w') : CallB w base g most L' v e w' := by
  obtain ⟨rb', he, hp, _, hf⟩ := h
  exact ⟨he, ⟨Nat.le_trans hb hf.size, hg, rb', hp⟩, hf.below hb (h0.ps_ge hg)⟩

theorem put_b (base g : Nat) (most : Int) (L : List Pk) (to : Int) (A0 : Option Addr) (n0 c0 : Nat) (bs : List UInt8) (w : World) (h : PXE w base g most L)
    (ha : Reads w w.heap.size 1 A0 n0 (bv bs)) (hc0 : A0 = none → n0 = 0 ∧ c0 = 0) (hmax : n0 ≤ 9223372036854775807) :
    Calls Try.prog 11 #[.pointer (some ⟨g, 0, none⟩), .int .i64 to, .slice A0 n0 c0] w (CallB w base g most (putL most L to bs).1 (.int .i64 (putL most L to bs).2)) := by
  obtain ⟨h1, h2, rb, h⟩ := h
  exact (put_any base g rb most L to A0 n0 c0 bs w h h1 ha hc0 hmax).mono fun e w' k => CallB.of h h1 h2 k
theorem drop_b (base g : Nat) (most : Int) (L : List Pk) (i : Int) (w : World) (h : PXE w base g most L) :
    Calls Try.prog 16 #[.pointer (some ⟨g, 0, none⟩), .int .i64 i] w (CallB w base g most (dropL L i) (.bool (okL L i))) := by
  obtain ⟨h1, h2, rb, h⟩ := h
  exact (drop_any base g rb most L i w h).mono fun e w' k => CallB.of h h1 h2 k
theorem copyp_b (base g : Nat) (most : Int) (L : List Pk) (i : Int) (w : World) (h : PXE w base g most L) :
    Calls Try.prog 18 #[.pointer (some ⟨g, 0, none⟩), .int .i64 i] w (CallB w base g most (copyL most L i).1 (.int .i64 (copyL most L i).2)) := by
  obtain ⟨h1, h2, rb, h⟩ := h
  exact (copyp_any base g rb most L i w h h1).mono fun e w' k => CallB.of h h1 h2 k
theorem len_b (base g : Nat) (most : Int) (L : List Pk) (w : World) (h : PXE w base g most L) :
    Calls Try.prog 22 #[.pointer (some ⟨g, 0, none⟩)] w fun e w' => e = .returned (.int .i64 L.length) ∧ w = w' := by
  obtain ⟨h1, h2, rb, h⟩ := h
  exact len_any base g rb most L w h
theorem at_b (base g : Nat) (most : Int) (L : List Pk) (i : Int) (w : World) (h : PXE w base g most L) :
    Calls Try.prog 20 #[.pointer (some ⟨g, 0, none⟩), .int .i64 i] w (AtR w L i) := by
  obtain ⟨h1, h2, rb, h⟩ := h
  exact at_any base g rb most L i w h
/-- What Take gives, as a law sees it. -/
def TakeB (w : World) (base g : Nat) (most : Int) (L : List Pk) (i : Int) (e : Ending) (w' : World) : Prop :=
  ∃ A c, e = .returned (.tuple #[.agg #[.int .i64 (atL L i).1, .slice A (atL L i).2.length c], .bool (okL L i)]) ∧ w'.ownsRow base 5 1 (.slice A (atL L i).2.length c) (atL L i).2.length (bv (atL L i).2) ∧ PXE w' base g most (dropL L i) ∧ Below base w w'
theorem take_b (base g : Nat) (most : Int) (L : List Pk) (i : Int) (w : World) (h : PXE w base g most L) :
    Calls Try.prog 13 #[.pointer (some ⟨g, 0, none⟩), .int .i64 i] w (TakeB w base g most L i) := by
  obtain ⟨h1, h2, rb, h⟩ := h
  refine (take_any base g rb most L i w h h1).mono ?_
  rintro e w' ⟨v, rb', rfl, ⟨A, c, rfl, ho⟩, hp, _, hf⟩
  exact ⟨A, c, rfl, ho, ⟨Nat.le_trans h1 hf.size, h2, rb', hp⟩, hf.below h1 (h.ps_ge h2)⟩
/-- New where the size fits, and where it does not. -/
theorem new_in (most : Int) (w : World) (h : 1 ≤ most ∧ most ≤ 200) : Calls Try.prog 9 #[.int .i64 most] w fun e w' => e = .returned (.tuple #[.pointer (some ⟨w.heap.size, 0, none⟩), .int .i64 0]) ∧ PXE w' w.heap.size w.heap.size most [] ∧ Below w.heap.size w w' := by
  refine (new_any most w).mono ?_
  rintro e w' ⟨k, _⟩
  obtain ⟨h1, h2, h3⟩ := k h
  exact ⟨h1, ⟨h3.size, Nat.le_refl _, none, h2⟩, h3⟩
theorem new_out (most : Int) (w : World) (h : ¬ (1 ≤ most ∧ most ≤ 200)) : Calls Try.prog 9 #[.int .i64 most] w fun e w' => e = .returned (.tuple #[.pointer none, .int .i64 1]) ∧ w = w' := by
  refine (new_any most w).mono ?_
  rintro e w' ⟨_, k⟩
  exact k h

/-- A slice of one byte that the call has just laid. -/
theorem reads_one (w : World) (b : UInt8) (t : TypeId) (fr : Nat × Nat) : Reads (w.alloc (.cells #[.int .u8 (b.toNat : Int)] t fr)) (w.heap.size + 1) 1 (some ⟨w.heap.size, 0, none⟩) 1 (bv [b]) := by
  refine ⟨rfl, fun _ => ⟨_, rfl, by simp, fun j u hu => ?_⟩⟩
  match j, hu with
  | 0, hu =>
    have hu' : Value.int .u8 (b.toNat : Int) = u := by simpa [bv] using hu
    subst hu'
    rw [Addr.add_lit, cell_of_row _ w.heap.size _ #[.int .u8 (b.toNat : Int)] t fr (heap_alloc_new w _)]
    rfl

set_option maxRecDepth 100000 in
set_option maxHeartbeats 2000000 in
theorem first_any (w : World) : Calls Try.prog 7 #[] w fun e w' => e = .returned (.bool true) ∧ Below w.heap.size w w' := by
  have s0 : dropL ([] : List Pk) 0 = [] := rfl
  have t0 : okL ([] : List Pk) 0 = false := rfl
  have u0 : atL ([] : List Pk) 0 = (0, []) := rfl
  have s1 : putL 1 [] 3 [97] = ([(3, [97])], 0) := by simp [putL]
  have s2 : putL 1 [(3, [97])] 3 [] = ([(3, [97])], 12) := by simp [putL]
  have s3 : copyL 1 [(3, [97])] 0 = ([(3, [97])], 12) := by simp [copyL, okL, putL]
  have s4 : copyL 1 [(3, [97])] 1 = ([(3, [97])], 8) := by simp [copyL, okL]
  have S0 := Lib.hid s0
  have T0 := Lib.hid t0
  have U0 := Lib.hid u0
  have S1 := Lib.hid s1
  have S2 := Lib.hid s2
  have S3 := Lib.hid s3
  have S4 := Lib.hid s4
  clear s0 t0 u0 s1 s2 s3 s4
  have kc := fun (w : World) (C : Array Value) (n c : Nat) => Lib.run_convert_bytes_const (P := Try.prog) w 32 5 C n c Try.underlying32 Try.underlying5
  have kc2 : ∀ (w : World) (o : Obj) (C : Array Value) (n c : Nat), (convert 32 32 (.slice (some ⟨w.heap.size + 1, 0, none⟩) n c)).run Try.prog ((w.alloc o).alloc (.cells C 5)) = .ok (.slice (some ⟨w.heap.size + 1, 0, none⟩) n c) ((w.alloc o).alloc (.cells C 5 (C.size, C.size + 1))) :=
    fun w o C n c => by have := kc (w.alloc o) C n c; simpa using this
  go_enter Try.func7, Try.ntmps7
  go_wp2_with fail
  refine (new_in 1 w (by omega)).mono ?_
  rintro e w1 ⟨rfl, hx1, hb1⟩
  have hlt := hx1.lt
  go_wp2_with fail
  refine (take_b w.heap.size w.heap.size 1 [] 0 w1 hx1).mono ?_
  rintro e w2 ⟨A2, c2, rfl, _, hx2, hb2⟩
  rw [S0.out] at hx2
  rw [T0.out, U0.out]
  have B2 : Below w.heap.size w w2 := hb1.trans hb2
  have hz2 := B2.size
  simp only [List.length_nil]
  go_wp2_with fail
  refine (put_b w.heap.size w.heap.size 1 [] 3 (some ⟨w2.heap.size + 1, 0, none⟩) 1 1 [97] _ ((hx2.alloc _).alloc _) ?_ (by simp) (by omega)).mono ?_
  · have := reads_one (w2.alloc (.cells #[.int .i64 0, .slice A2 0 c2] 37)) 97 5 (1, 2)
    simpa using this
  rw [S1.out]
  rintro e w3 ⟨rfl, hx3, hb3⟩
  have B3 : Below w.heap.size w w3 := ((B2.alloc hz2 _).alloc (by simp; omega) _).trans hb3
  have hz3 := B3.size
  go_wp2_with fail
  refine (put_b w.heap.size w.heap.size 1 _ 3 none 0 0 [] w3 hx3 (by exact Reads.none_) (by simp) (by omega)).mono ?_
  rw [S2.out]
  rintro e w4 ⟨rfl, hx4, hb4⟩
  have B4 : Below w.heap.size w w4 := B3.trans hb4
  go_wp2_with fail
  refine (copyp_b w.heap.size w.heap.size 1 _ 0 w4 hx4).mono ?_
  rw [S3.out]
  rintro e w5 ⟨rfl, hx5, hb5⟩
  have B5 : Below w.heap.size w w5 := B4.trans hb5
  go_wp2_with fail
  refine (copyp_b w.heap.size w.heap.size 1 _ 1 w5 hx5).mono ?_
  rw [S4.out]
  rintro e w6 ⟨rfl, hx6, hb6⟩
  have B6 : Below w.heap.size w w6 := B5.trans hb6
  go_wp2_with fail
  refine (len_b w.heap.size w.heap.size 1 _ w6 hx6).mono ?_
  rintro e w7 ⟨rfl, rfl⟩
  go_wp2_with fail
  go_ret
  exact ⟨rfl, B6⟩
end Go.Proofs.Ytoiopoebjchjeaa
