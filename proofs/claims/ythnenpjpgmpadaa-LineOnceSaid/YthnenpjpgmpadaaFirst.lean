/-
  first: what the chapter's examples fix.
-/
import Derived.Test.YthnenpjpgmpadaaLineD
import Derived.Lib.SlBytesConst
namespace Go.Proofs.Ythnenpjpgmpadaa
open Go.RowKit

/-- A slice of one byte that the call has just laid. -/
theorem reads_one (w : World) (b : UInt8) (t : TypeId) (fr : Nat × Nat) : Reads (w.alloc (.cells #[.int .u8 (b.toNat : Int)] t fr)) (w.heap.size + 1) 1 (some ⟨w.heap.size, 0, none⟩) 1 (bv [b]) := by
  refine ⟨rfl, fun _ => ⟨_, rfl, by simp, fun j u hu => ?_⟩⟩
  match j, hu with
  | 0, hu =>
    have hu' : Value.int .u8 (b.toNat : Int) = u := by simpa [bv] using hu
    subst hu'
    rw [Addr.add_lit, cell_of_row _ w.heap.size _ #[.int .u8 (b.toNat : Int)] t fr (heap_alloc_new w _)]
    rfl

theorem reads_num (w : World) (b : UInt8) (n : Int) (h : (b.toNat : Int) = n) (t : TypeId) (fr : Nat × Nat) : Reads (w.alloc (.cells #[.int .u8 n] t fr)) (w.heap.size + 1) 1 (some ⟨w.heap.size, 0, none⟩) 1 (bv [b]) := by
  subst h
  exact reads_one w b t fr

theorem own_head {w : World} {base : Nat} {e : TypeId} {n c : Nat} {A : Option Addr} {x : Value} {xs : List Value} (h : w.ownsRow base e 1 (.slice A (n + 1) c) (n + 1) (x :: xs)) : ∃ g, A = some ⟨g, 0, none⟩ ∧ w.cell? ⟨g, 0, none⟩ = some x := by
  obtain ⟨g, cap, hv, _, hlt⟩ := h.form (by omega)
  injection hv with hA _ _
  subst hA
  have := h.cells (g := g) rfl 0 x rfl
  rw [Addr.add_lit] at this
  exact ⟨g, rfl, this⟩

theorem send_fresh (p l q : Int) (bs body : List UInt8) (h : ¬ q = 4294967295) : (⟨p, l, q, false, body⟩ : LineD).send bs = (⟨p, l, 0, q + 1, bs⟩, 0, ⟨p, l, q + 1, true, bs⟩) := send_ok bs rfl h
theorem send_end (p l : Int) (bs body : List UInt8) : (⟨p, l, 4294967295, false, body⟩ : LineD).send bs = (noNote, 1, ⟨p, l, 4294967295, false, body⟩) := send_full bs rfl rfl
theorem got_due (p l q : Int) (bs body : List UInt8) : (⟨p, l, q, true, body⟩ : LineD).got ⟨p, l, 1, q, bs⟩ = (bs, 0, ⟨p, l, q, false, body⟩) := got_ok (by simp) (by simp)

set_option maxHeartbeats 1000000 in
theorem first_any (w : World) : Calls Try.prog 7 #[] w fun e w' => e = .returned (.bool true) ∧ Below w.heap.size w w' := by
  have s1 : (fresh 1 0 0).send [97] = (⟨1, 0, 0, 1, [97]⟩, 0, ⟨1, 0, 1, true, [97]⟩) := rfl
  have s2 : (⟨1, 0, 1, true, [97]⟩ : LineD).send [98] = (noNote, 6, ⟨1, 0, 1, true, [97]⟩) := rfl
  have S1 := Lib.hid s1
  have S2 := Lib.hid s2
  clear s1 s2
  have kc := fun (w : World) (C : Array Value) (n c : Nat) => Lib.run_convert_bytes_const (P := Try.prog) w 26 5 C n c Try.underlying26 Try.underlying5
  have kc2 : ∀ (w : World) (o : Obj) (C : Array Value) (n c : Nat), (convert 26 26 (.slice (some ⟨w.heap.size + 1, 0, none⟩) n c)).run Try.prog ((w.alloc o).alloc (.cells C 5)) = .ok (.slice (some ⟨w.heap.size + 1, 0, none⟩) n c) ((w.alloc o).alloc (.cells C 5 (C.size, C.size + 1))) :=
    fun w o C n c => by have := kc (w.alloc o) C n c; simpa using this
  go_enter Try.func7, Try.ntmps7
  go_wp2_with fail
  refine (new_any 1 0 0 w).mono ?_
  rintro e w1 ⟨rfl, hx1, hb1⟩
  have hlt := hx1.lt
  go_wp2_with fail
  refine (xsend_any w.heap.size w.heap.size (fresh 1 0 0) _ (hx1.below ((Below.refl _ _).alloc (Nat.le_refl _) _)) (by simp; omega) _ 1 1 [97] ((reads_one w1 97 _ _).more (by simp)) (by simp) (by omega)).mono ?_
  rw [S1.out]
  rintro e w2 ⟨v, rfl, ⟨A2, c2, rfl, ho2⟩, hx2, hg2⟩
  have hz2 : w1.heap.size < w2.heap.size := by have := hg2.size; simp at this; omega
  simp only [List.length_cons, List.length_nil] at ho2 ⊢
  go_wp2_with fail
  refine (xsend_any w.heap.size w.heap.size _ _ (hx2.below (((Below.refl _ _).alloc (Nat.le_refl _) _).alloc (by simp) _)) (by simp; omega) (some ⟨w2.heap.size + 1, 0, none⟩) 1 1 [98] ?_ (by simp) (by omega)).mono ?_
  · have := reads_one (w2.alloc (.cells #[.int .i64 1, .int .i64 0, .int .i64 0, .int .i64 1, .slice A2 1 c2] 28)) 98 5 (1, 2)
    simpa using this
  rw [S2.out]
  rintro e w3 ⟨v, rfl, ⟨A3, c3, rfl, ho3⟩, hx3, hg3⟩
  have hlt2 : w.heap.size < w2.heap.size := by have := hb1.size; omega
  have n3 : Blk w3 w2.heap.size 28 #[.int .i64 1, .int .i64 0, .int .i64 0, .int .i64 1, .slice A2 1 c2] := ((Blk.new w2 _ _).alloc _).grown hg3 (fun e => by injection e; omega)
  obtain ⟨⟨p0, p1, p2, p3, p4⟩, _⟩ := Blk.five n3
  have hz3 : w2.heap.size < w3.heap.size := n3.lt
  have X3 := Lib.hid hx3
  have N3 := Lib.hid n3
  clear hx3 n3
  go_wp2_with (first | (go_at_call 10; refine (busy_any w.heap.size w.heap.size _ _ (X3.out.below ((Below.refl _ _).alloc (Nat.le_refl _) _))).mono ?_; rintro e w' ⟨rfl, rfl⟩) | (go_at_call 9; refine (seq_any w.heap.size w.heap.size _ _ (X3.out.below ((Below.refl _ _).alloc (Nat.le_refl _) _))).mono ?_; rintro e w' ⟨rfl, rfl⟩))
  go_ret
  have b2 : Below w.heap.size w w2 := below_only (hb1.alloc hb1.size _) hg2 (by simp; omega) (Nat.le_refl _)
  have b3 : Below w.heap.size w w3 := below_only ((b2.alloc b2.size _).alloc (by simp; omega) _) hg3 (by simp; omega) (Nat.le_refl _)
  exact ⟨rfl, b3.alloc b3.size _⟩
end Go.Proofs.Ythnenpjpgmpadaa
