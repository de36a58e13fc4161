/-
  bytes.Clone, CopyBytes, Bytes: by contract. A slice of bytes reads as a list of bytes.
-/
import Derived.Test.YthoniedmeeahgaaProg
import Derived.Test.YthoniedmeeahgaaMem
import Derived.WalkKit
import Derived.WalkSpells
import Derived.Shelf.Bytes.SlEqualAll
namespace Go.Proofs.Ythoniedmeeahgaa
open Go.RowKit

/-- The cells of a list of bytes. -/
theorem own_shape {w : World} {base : Nat} {e : TypeId} {size n : Nat} {v : Value} {xs : List Value} (h : w.ownsRow base e size v n xs) : ∃ A c, v = .slice A n c := by
  rcases h.2 with ⟨rfl, rfl⟩ | ⟨g, cap, cur, rfl, _⟩
  · exact ⟨none, 0, rfl⟩
  · exact ⟨_, cap, rfl⟩

theorem own_none {w : World} {base : Nat} {e : TypeId} {size n c : Nat} {xs : List Value} (h : w.ownsRow base e size (.slice none n c) n xs) : n = 0 ∧ c = 0 := by
  rcases h.2 with ⟨h1, h2⟩ | ⟨g, cap, cur, h1, _⟩
  · injection h1 with _ h1 h3
    exact ⟨h1, h3⟩
  · injection h1 with h1
    cases h1
theorem own_mono {w : World} {base base' : Nat} {e : TypeId} {size n : Nat} {v : Value} {xs : List Value} (h : w.ownsRow base e size v n xs) (hb : base' ≤ base) : w.ownsRow base' e size v n xs := by
  refine ⟨h.1, ?_⟩
  rcases h.2 with hn | ⟨g, cap, cur, rfl, hbg, rest⟩
  · exact .inl hn
  · exact .inr ⟨g, cap, cur, rfl, by omega, rest⟩

/-- What is owned stays, where old blocks stay but those below the base. -/
theorem own_below {w w' : World} {base e size n : Nat} {v : Value} {xs : List Value} (h : w.ownsRow base e size v n xs) (hb : Below w.heap.size w w') : w'.ownsRow base e size v n xs :=
  h.kept (row := none) ⟨hb.os, hb.tape, hb.output, hb.size, fun k hk _ => hb.block k hk⟩ (by cases v.ownBlock <;> simp)
/-- .. where one block alone turned, which lies below the base. -/
theorem own_only {w w' : World} {base e size n : Nat} {v : Value} {xs : List Value} (h : w.ownsRow base e size v n xs) {g : Nat} (hb : w.grownBy w' (some g)) (hg : g < base) : w'.ownsRow base e size v n xs := by
  refine h.kept hb ?_
  rcases h.2 with ⟨rfl, _⟩ | ⟨g', cap, cur, rfl, hbg, _⟩
  · exact .inl rfl
  · right
    intro he
    simp [Value.ownBlock] at he
    omega

/-- All old cells and marks read as before. -/
theorem bcell {B : Nat} {W w1 : World} (hb : Below B W w1) : (∀ b o, b < B → w1.cell? ⟨b, o, none⟩ = W.cell? ⟨b, o, none⟩) ∧ (∀ b o, b < B → w1.frozen? ⟨b, o, none⟩ = W.frozen? ⟨b, o, none⟩) :=
  ⟨fun b o h => hb.cell (p := ⟨b, o, none⟩) h, fun b o h => hb.frozen (p := ⟨b, o, none⟩) h⟩

end Go.Proofs.Ythoniedmeeahgaa
