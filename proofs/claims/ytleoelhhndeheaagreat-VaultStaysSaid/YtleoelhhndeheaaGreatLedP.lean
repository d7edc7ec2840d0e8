/- package ledger, said plainly -/
import Derived.Test.YtleoelhhndeheaaGreatDrum0
import Derived.Test.YtleoelhhndeheaaGreatSealClose
open Go Go.RowKit
namespace Go.Proofs.YtleoelhhndeheaaGreat

def lay2 (n : Int) : List Int := [n / 256 % 256, n % 256]
def lay4 (n : Int) : List Int := [n / 16777216 % 256, n / 65536 % 256, n / 256 % 256, n % 256]
/-- the number of some bytes, the highest first -/
def num (zs : List Int) : Int := pw zs 0 zs.length
/-- so many bytes from a place on -/
def cut (zs : List Int) (at_ n : Nat) : List Int := (zs.drop at_).take n

/-- a cover's track -/
def coverT (r l : Int) : List Int := closed (lay4 r ++ lay2 l ++ List.replicate 74 0 ++ lay4 r)
/-- may a drum of so many tracks have such a cover? -/
def mayC (r l tracks : Int) : Bool := decide (0 < r) && (decide (5 ≤ l) && decide (l ≤ tracks - 4))
/-- the cover that stands on a track -/
def isCover (s : DS) (k : Nat) : Bool := mayC (num (cut (s.now k) 0 4)) (num (cut (s.now k) 4 2)) s.n && (decide (num (cut (s.now k) 0 4) % 2 = k) && decide (coverT (num (cut (s.now k) 0 4)) (num (cut (s.now k) 4 2)) = s.now k))
/-- the better one of two covers -/
def better (s : DS) (k : Nat) (b : Int × Int) : Int × Int := if isCover s k = true ∧ b.1 < num (cut (s.now k) 0 4) then (num (cut (s.now k) 0 4), num (cut (s.now k) 4 2)) else b
/-- the cover of the greater round; (0, 0): none -/
def readC (s : DS) : Int × Int := better s 1 (better s 0 (0, 0))

def leavesN (n : Int) : Int := if n < 1 then 0 else (2 + n * 98 + 63) / 64

abbrev Ent := Int × List Int
/-- the bytes of some entries -/
def bodyE (l : List Ent) : List Int := lay2 l.length ++ l.flatMap fun x => lay2 x.1 ++ x.2
def leafB (round no : Int) (b : List Int) (count : Nat) (k : Nat) : List Int :=
  closed (lay4 round ++ lay4 no ++ lay2 k ++ lay2 count ++ cut b (k * 64) 64 ++ lay4 no ++ lay4 round)
def padE (l : List Ent) (count : Nat) : List Int := bodyE l ++ List.replicate (count * 64 - (bodyE l).length) 0
/-- a posting's leaves -/
def postN (l : List Ent) : Nat := (leavesN l.length).toNat
def postL (round no : Int) (l : List Ent) : List (List Int) := (List.range (postN l)).map (leafB round no (padE l (postN l)) (postN l))

/-- may these be written? -/
def mayFrom (homes : Int) : List Ent → List Int → Bool
  | [], _ => true
  | x :: r, seen => decide (0 ≤ x.1 ∧ x.1 < homes ∧ x.2.length = 96 ∧ x.1 ∉ seen) && mayFrom homes r (x.1 :: seen)
def mayE (l : List Ent) (homes : Int) : Bool := mayFrom homes l [] && decide (0 < l.length)

def parseE : Nat → List Int → List Ent
  | 0, _ => []
  | n + 1, b => if 98 ≤ b.length then (num (cut b 0 2), cut b 2 96) :: parseE n (b.drop 98) else []
/-- the entries that some leaves say -/
def joinB (ls : List (List Int)) : List Int := ls.flatMap fun x => cut x 12 64
def entriesL (ls : List (List Int)) : List Ent := parseE (num (cut (joinB ls) 0 2)).toNat ((joinB ls).drop 2)

/-- how many leaves the first one tells of -/
def tells (ls : List (List Int)) : Nat := (num (cut (ls.headD []) 10 2)).toNat
def isWhole (ls : List (List Int)) (round no homes : Int) : Bool :=
  decide (0 < ls.length ∧ 0 < tells ls ∧ tells ls ≤ ls.length) && (mayE (entriesL (ls.take (tells ls))) homes && decide (postL round no (entriesL (ls.take (tells ls))) = ls.take (tells ls)))
def wholeE (ls : List (List Int)) (round no homes : Int) : List Ent := if isWhole ls round no homes = true then entriesL (ls.take (tells ls)) else []
def wholeN (ls : List (List Int)) (round no homes : Int) : Nat := if isWhole ls round no homes = true then tells ls else 0

/-- what was written in a round, by home track -/
abbrev Tkn := Int → Option (List Int)
def putE (t : Tkn) (x : Ent) : Tkn := fun k => if k = x.1 then some x.2 else t k
def putL (t : Tkn) (l : List Ent) : Tkn := l.foldl putE t
/-- the postings that are whole -/
def readL (round homes : Int) : Nat → List (List Int) → Int → Tkn → Tkn
  | 0, _, _, t => t
  | f + 1, ls, no, t => if wholeN ls round no homes = 0 then t else readL round homes f (ls.drop (wholeN ls round no homes)) (no + 1) (putL t (wholeE ls round no homes))

end Go.Proofs.YtleoelhhndeheaaGreat
