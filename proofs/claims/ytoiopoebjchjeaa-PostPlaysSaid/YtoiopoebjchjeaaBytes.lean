/-
  bytes.Clone, CopyBytes, Bytes: by contract. A slice of bytes reads as a list of bytes.
-/
import Derived.Test.YtoiopoebjchjeaaProg
import Derived.Test.YtoiopoebjchjeaaMem
import Derived.WalkKit
import Derived.WalkSpells
import Derived.Shelf.Bytes.SlEqualAll
namespace Go.Proofs.Ytoiopoebjchjeaa
open Go.RowKit

/-- The cells of a list of bytes. -/
def bv (bs : List UInt8) : List Value := bs.map fun b => Value.int .u8 (b.toNat : Int)
theorem bv_length (bs : List UInt8) : (bv bs).length = bs.length := by simp [bv]
theorem bv_one (bs : List UInt8) : ∀ u ∈ bv bs, u.oneCell' = true := by
  intro u hu
  obtain ⟨b, _, rfl⟩ := List.mem_map.1 hu
  rfl
theorem bv_nil : bv [] = [] := rfl
theorem bv_at (bs : List UInt8) (k : Nat) (h : k < bs.length) : (bv bs)[k]? = some (Value.int .u8 (bs[k].toNat : Int)) := by simp [bv, h]

/-- 'string(b)' of a slice that reads as the bytes bs. -/
theorem run_conv_reads {P : Program} {w : World} {B : Nat} {A : Option Addr} {n : Nat} {bs : List UInt8} (h : Reads w B 1 A n (bv bs)) (c : Nat) (src e dst : TypeId)
    (hs : P.underlying src = some (.slice e)) (he : P.underlying e = some (.int .u8)) (hd : P.underlying dst = some .string) :
    (convert src dst (.slice A n c)).run P w = .ok (.string (strOfNums (bs.map fun b => (b.toNat : Int)))) w := by
  have hl : bs.length = n := by simpa [bv] using h.1
  refine Lib.BytesIn.convert (w := w) (p := A) (n := n) (xs := bs.map fun b => (b.toNat : Int)) ?_ (by simpa using hl) c src e dst hs he hd
  intro hn
  obtain ⟨ad, rfl, _, hc⟩ := h.2 hn
  have h0 := hc 0 _ (bv_at bs 0 (by omega))
  have hsp : (ad.add 0).spot = none := World.cell?_spot h0
  obtain ⟨b, o, s⟩ := ad
  have hs' : s = none := by simpa [Addr.add] using hsp
  subst hs'
  refine ⟨b, o, rfl, fun i hi => ?_⟩
  have := hc i _ (bv_at bs i (by omega))
  rw [Addr.add_lit] at this
  rw [this]
  simp [List.getD, hl, hi]

theorem strOf_toList (l : List UInt8) : (strOfNums (l.map fun b => (b.toNat : Int))).toList = l := by
  rw [ByteArray.toList_eq, strOfNums_data, List.map_map]
  conv => rhs; rw [← List.map_id l]
  apply List.map_congr_left
  intro x _
  simp

/-- The shape of an owned slice value. -/
theorem own_shape {w : World} {base : Nat} {e : TypeId} {size n : Nat} {v : Value} {xs : List Value} (h : w.ownsRow base e size v n xs) : ∃ A c, v = .slice A n c := by
  rcases h.2 with ⟨rfl, rfl⟩ | ⟨g, cap, cur, rfl, _⟩
  · exact ⟨none, 0, rfl⟩
  · exact ⟨_, cap, rfl⟩

theorem own_none {w : World} {base : Nat} {e : TypeId} {size n c : Nat} {xs : List Value} (h : w.ownsRow base e size (.slice none n c) n xs) : n = 0 ∧ c = 0 := by
  rcases h.2 with ⟨h1, h2⟩ | ⟨g, cap, cur, h1, _⟩
  · injection h1 with _ h1 h3
    exact ⟨h1, h3⟩
  · injection h1 with h1
    cases h1
theorem own_mono {w : World} {base base' : Nat} {e : TypeId} {size n : Nat} {v : Value} {xs : List Value} (h : w.ownsRow base e size v n xs) (hb : base' ≤ base) : w.ownsRow base' e size v n xs := by
  refine ⟨h.1, ?_⟩
  rcases h.2 with hn | ⟨g, cap, cur, rfl, hbg, rest⟩
  · exact .inl hn
  · exact .inr ⟨g, cap, cur, rfl, by omega, rest⟩

/-- What is owned stays, where old blocks stay but those below the base. -/
theorem own_below {w w' : World} {base e size n : Nat} {v : Value} {xs : List Value} (h : w.ownsRow base e size v n xs) (hb : Below w.heap.size w w') : w'.ownsRow base e size v n xs :=
  h.kept (row := none) ⟨hb.os, hb.tape, hb.output, hb.size, fun k hk _ => hb.block k hk⟩ (by cases v.ownBlock <;> simp)
/-- .. where one block alone turned, which lies below the base. -/
theorem own_only {w w' : World} {base e size n : Nat} {v : Value} {xs : List Value} (h : w.ownsRow base e size v n xs) {g : Nat} (hb : w.grownBy w' (some g)) (hg : g < base) : w'.ownsRow base e size v n xs := by
  refine h.kept hb ?_
  rcases h.2 with ⟨rfl, _⟩ | ⟨g', cap, cur, rfl, hbg, _⟩
  · exact .inl rfl
  · right
    intro he
    simp [Value.ownBlock] at he
    omega

/-- All old cells and marks read as before. -/
theorem bcell {B : Nat} {W w1 : World} (hb : Below B W w1) : (∀ b o, b < B → w1.cell? ⟨b, o, none⟩ = W.cell? ⟨b, o, none⟩) ∧ (∀ b o, b < B → w1.frozen? ⟨b, o, none⟩ = W.frozen? ⟨b, o, none⟩) :=
  ⟨fun b o h => hb.cell (p := ⟨b, o, none⟩) h, fun b o h => hb.frozen (p := ⟨b, o, none⟩) h⟩

theorem u8_info : (Try.prog.info? 5).map (fun i => (i.zero, i.size, i.bytes)) = some (some (.int .u8 0), 1, 1) := by kernel_rfl

/-- A fresh copy of the bytes bs. -/
def Copied (w : World) (n : Nat) (bs : List UInt8) (e : Ending) (w' : World) : Prop := ∃ A c, e = .returned (.slice A n c) ∧ w'.ownsRow w.heap.size 5 1 (.slice A n c) n (bv bs) ∧ Below w.heap.size w w'
theorem Copied.of {w : World} {n : Nat} {bs : List UInt8} {v : Value} {w' : World} (h : w'.ownsRow w.heap.size 5 1 v n (bv bs)) (hb : Below w.heap.size w w') : Copied w n bs (.returned v) w' := by
  obtain ⟨A, c, rfl⟩ := own_shape h
  exact ⟨A, c, rfl, h, hb⟩

set_option maxHeartbeats 400000 in
theorem clone_any (A : Option Addr) (n c : Nat) (bs : List UInt8) (w : World) (ha : Reads w w.heap.size 1 A n (bv bs)) (hc0 : A = none → n = 0 ∧ c = 0) (hn : n ≤ 140737488351232) :
    Calls Try.prog 28 #[.slice A n c] w (Copied w n bs) := by
  obtain ⟨i0, hi0, hz0, hz1, hz2⟩ := info_parts u8_info
  rcases A with _ | ad
  · obtain ⟨rfl, rfl⟩ := hc0 rfl
    clear hc0
    have hb : bv bs = [] := List.eq_nil_of_length_eq_zero (by simpa using ha.1)
    have hb := Lib.hid hb
    have hnil := fun w => Lib.run_eql_slice_nil (P := Try.prog) w 32 5 none 0 0 0 0 Try.underlying32
    go_enter Try.func28, Try.ntmps28
    go_wp2
    go_ret
    exact Copied.of (by rw [hb.out]; exact World.ownsRow_nil _ _ _ _) (Below.refl _ _)
  · have hnil := fun w => Lib.run_eql_slice_nil (P := Try.prog) w 32 5 (some ad) n c 0 0 Try.underlying32
    clear hc0
    go_enter Try.func28, Try.ntmps28
    go_wp2_with (at_builtin; refine wpList_append_any _ rfl (.tmp 5) (.tmp 6) _ rfl w.heap.size 5 i0 _ 1 1 Try.underlying32 hi0 hz0 hz1 hz2 rfl (by omega) (.slice (some ⟨w.heap.size, 0, none⟩) 0 0) 0 [] rfl (World.ownsRow_made w #[] 0 (Nat.le_refl _) (by decide) rfl) w.heap.size (some ad) n c (bv bs) rfl (ha.alloc (Nat.le_refl _) _) (bv_one bs) (by simp only [maxLen]; omega) (by omega) (by simp) ?_; intro v1 w1 hown1 hg1 hat1)
    go_ret
    refine Copied.of (by simpa using hown1) (((Below.refl _ _).alloc (Nat.le_refl _) _).grown hg1 (by simp) (fun k hk => ?_))
    simp [Value.ownBlock] at hk
    omega

set_option maxHeartbeats 400000 in
theorem copy_any (A : Option Addr) (n c : Nat) (bs : List UInt8) (w : World) (ha : Reads w w.heap.size 1 A n (bv bs)) (hn : n ≤ 140737488351232) :
    Calls Try.prog 25 #[.slice A n c] w (Copied w n bs) := by
  obtain ⟨i0, hi0, hz0, hz1, hz2⟩ := info_parts u8_info
  go_enter Try.func25, Try.ntmps25
  go_wp2_with (at_builtin; refine wpList_append_any _ rfl (.tmp 3) (.tmp 4) _ rfl w.heap.size 5 i0 _ 1 1 Try.underlying32 hi0 hz0 hz1 hz2 rfl (by omega) (.slice (some ⟨w.heap.size, 0, none⟩) 0 0) 0 [] rfl (World.ownsRow_made w #[] 0 (Nat.le_refl _) (by decide) rfl) w.heap.size A n c (bv bs) rfl (ha.alloc (Nat.le_refl _) _) (bv_one bs) (by simp only [maxLen]; omega) (by omega) (by simp) ?_; intro v1 w1 hown1 hg1 hat1)
  go_ret
  refine Copied.of (by simpa using hown1) (((Below.refl _ _).alloc (Nat.le_refl _) _).grown hg1 (by simp) (fun k hk => ?_))
  simp [Value.ownBlock] at hk
  omega

theorem beqs_any (A B : Option Addr) (n c m d : Nat) (xs ys : List UInt8) (w : World) (ha : Reads w w.heap.size 1 A n (bv xs)) (hb : Reads w w.heap.size 1 B m (bv ys)) :
    Calls Try.prog 23 #[.slice A n c, .slice B m d] w fun e w' => e = .returned (.bool (xs == ys)) ∧ w = w' := by
  have h1 := run_conv_reads (P := Try.prog) ha c 32 5 9 Try.underlying32 Try.underlying5 Try.underlying9
  have h2 := run_conv_reads (P := Try.prog) hb d 32 5 9 Try.underlying32 Try.underlying5 Try.underlying9
  have e1 := strOf_toList xs
  have e2 := strOf_toList ys
  generalize strOfNums (xs.map fun b => (b.toNat : Int)) = s at h1 e1
  generalize strOfNums (ys.map fun b => (b.toNat : Int)) = t at h2 e2
  have H : Hid ((s.toList == t.toList) = (xs == ys)) := by rw [e1, e2]; exact rfl
  clear e1 e2 ha hb
  go_enter Try.func23, Try.ntmps23
  go_wp2
  go_ret
  exact ⟨by rw [← H.out]; rfl, rfl⟩
end Go.Proofs.Ytoiopoebjchjeaa
