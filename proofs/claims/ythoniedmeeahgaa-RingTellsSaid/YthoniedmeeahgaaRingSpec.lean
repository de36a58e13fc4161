/-
  Rings of nets, as the document says it: no program in sight.
-/
import Derived.Test.YthoniedmeeahgaaMem
namespace Go.Proofs.Ythoniedmeeahgaa

structure NetD where
  f : Int
  t : Int
  l : Int
  a : Int
  n : Int
  deriving DecidableEq
structure ItD where
  l : Int
  a : Int
  n : Int
  deriving DecidableEq
structure RingD where
  ps : List Int
  legs : List (List ItD)
  deriving DecidableEq

/-- Does one give another one? -/
def hasE (xs : List NetD) (f t : Int) : Bool := xs.any fun x => x.f == f && x.t == t
def cut (xs : List NetD) (f t : Int) : List NetD := xs.filter fun x => !(x.f == f && x.t == t)
def itLt (x y : ItD) : Bool := decide (x.l < y.l) || (x.l == y.l && decide (x.a < y.a))
/-- Behind all that are not greater. -/
def insIt (x : ItD) : List ItD → List ItD
  | [] => [x]
  | y :: ys => if itLt x y then x :: y :: ys else y :: insIt x ys
def pick (xs : List NetD) (f t : Int) : List ItD := (xs.filter fun x => x.f == f && x.t == t).map fun x => ⟨x.l, x.a, x.n⟩
def sortIt (is : List ItD) : List ItD := is.foldl (fun acc x => insIt x acc) []
def items (xs : List NetD) (f t : Int) : List ItD := sortIt (pick xs f t)

/-- The parties next to one, that were not reached yet, are reached by it. -/
def reach (xs : List NetD) (p : Int) (at_ : Nat) : List Int → List Int → List Nat → List Int × List Nat
  | [], ord, by_ => (ord, by_)
  | q :: qs, ord, by_ => if hasE xs p q && !ord.contains q then reach xs p at_ qs (ord ++ [q]) (by_ ++ [at_]) else reach xs p at_ qs ord by_
/-- Back from the k-th that was reached to the first: k itself last. -/
def back (ord : List Int) (by_ : List Nat) : Nat → Nat → List Int → List Int
  | 0, _, acc => acc
  | n + 1, k, acc => if k = 0 then ord.getD 0 0 :: acc else back ord by_ n (by_.getD k 0) (ord.getD k 0 :: acc)
def walkC (xs : List NetD) (all : List Int) (s : Int) : Nat → Nat → List Int → List Nat → List Int
  | 0, _, _, _ => []
  | n + 1, at_, ord, by_ =>
    if at_ < ord.length then
      if hasE xs (ord.getD at_ 0) s then back ord by_ (at_ + 1) at_ []
      else
        let r := reach xs (ord.getD at_ 0) at_ all ord by_
        walkC xs all s n (at_ + 1) r.1 r.2
    else []
/-- The shortest circle through a party; nothing: there is none. -/
def circleL (xs : List NetD) (all : List Int) (s : Int) : List Int := walkC xs all s (all.length + 1) 0 [s] [0]
def nextOf (c : List Int) (k : Nat) : Int := c.getD ((k + 1) % c.length) 0
def ringOf (xs : List NetD) (c : List Int) : RingD := ⟨c, (List.range c.length).map fun k => items xs (c.getD k 0) (nextOf c k)⟩
def cutAll (xs : List NetD) (c : List Int) : List NetD := (List.range c.length).foldl (fun ys k => cut ys (c.getD k 0) (nextOf c k)) xs
/-- The first party through which there is a circle. -/
def firstC (xs : List NetD) (all : List Int) : List Int → List Int
  | [] => []
  | s :: ss => let c := circleL xs all s; if c.isEmpty then firstC xs all ss else c
def circles (all : List Int) : Nat → List NetD → List RingD × List NetD
  | 0, xs => ([], xs)
  | n + 1, xs =>
    let c := firstC xs all all
    if c.isEmpty then ([], xs)
    else
      let r := circles all n (cutAll xs c)
      (ringOf xs c :: r.1, r.2)
def pairsOf : List Int → List (Int × Int)
  | [] => []
  | a :: as => as.map (fun b => (a, b)) ++ pairsOf as
def twos (xs : List NetD) : List (Int × Int) → List RingD × List NetD
  | [] => ([], xs)
  | (a, b) :: ps =>
    if hasE xs a b && hasE xs b a then
      let r := twos (cut (cut xs a b) b a) ps
      (⟨[a, b], [items xs a b, items xs b a]⟩ :: r.1, r.2)
    else twos xs ps
def insP (x : Int) : List Int → List Int
  | [] => [x]
  | y :: ys => if x < y then x :: y :: ys else if x = y then y :: ys else y :: insP x ys
def allOf (xs : List NetD) : List Int := xs.foldl (fun acc x => insP x.t (insP x.f acc)) []
/-- The rings of nets, and what is left. -/
def ringsOf (xs : List NetD) : List RingD × List NetD :=
  let all := allOf xs
  let t := twos xs (pairsOf all)
  let c := circles all (xs.length + 1) t.2
  (t.1 ++ c.1, c.2)

example : ringsOf [⟨1, 2, 0, 0, 5⟩, ⟨2, 3, 0, 0, 6⟩, ⟨3, 1, 0, 0, 7⟩] = ([⟨[1, 2, 3], [[⟨0, 0, 5⟩], [⟨0, 0, 6⟩], [⟨0, 0, 7⟩]]⟩], []) := by decide +kernel
end Go.Proofs.Ythoniedmeeahgaa
