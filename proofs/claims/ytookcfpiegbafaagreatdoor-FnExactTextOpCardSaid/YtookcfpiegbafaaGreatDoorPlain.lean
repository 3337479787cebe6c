/- The plain functions on lists that the program's functions compute, and the small facts on them. No condition. -/
import Derived.Below
namespace Go.Proofs.YtookcfpiegbafaaGreatDoor

/-- A part of an operation: its kind, its number, its characters. -/
structure Pt where
  kind : Int
  n : Int
  signs : List Int

namespace Pl

def signOk (n : Int) : Bool := (decide (0 ≤ n) && decide (n ≤ 1114111)) && !(decide (55296 ≤ n) && decide (n ≤ 57343))
def signsOk (l : List Int) : Bool := l.all signOk
def textOk (t : List Int) : Bool := decide (t.length ≤ 200) && signsOk t
def partOk (p : Pt) : Bool :=
  if p.kind = 1 ∨ p.kind = 3 then (decide (0 ≤ p.n) && decide (p.n ≤ 200)) && p.signs.isEmpty
  else if p.kind = 2 then decide (p.n = 0) && (decide (p.signs.length ≤ 200) && signsOk p.signs) else false
def partsOk (o : List Pt) : Bool := o.all partOk && decide (o.length ≤ 600)
def size (p : Pt) : Int := p.n + p.signs.length
def keepsP (p : Pt) : Int := if p.kind = 1 then p.n else 0
def putsP (p : Pt) : Int := if p.kind = 2 then p.signs.length else 0
def dropsP (p : Pt) : Int := if p.kind = 1 then 0 else if p.kind = 2 then 0 else p.n
def keeps (o : List Pt) : Int := (o.map keepsP).sum
def puts (o : List Pt) : Int := (o.map putsP).sum
def drops (o : List Pt) : Int := (o.map dropsP).sum
def opFrom (o : List Pt) : Int := if partsOk o = true then keeps o + drops o else 0
def opTo (o : List Pt) : Int := if partsOk o = true then keeps o + puts o else 0
def opOk (o : List Pt) : Bool := partsOk o && (decide (opFrom o ≤ 200) && decide (opTo o ≤ 200))
def opPuts (o : List Pt) : Int := if opOk o = true then puts o else 0
def opDrops (o : List Pt) : Int := if opOk o = true then drops o else 0
def keeping (n : Int) : List Pt := if 1 ≤ n ∧ n ≤ 200 then [⟨1, n, []⟩] else []
def partCount (o : List Pt) (k : Int) : Int := (o.map fun p => if p.kind = k then 1 else 0).sum

end Pl
end Go.Proofs.YtookcfpiegbafaaGreatDoor
