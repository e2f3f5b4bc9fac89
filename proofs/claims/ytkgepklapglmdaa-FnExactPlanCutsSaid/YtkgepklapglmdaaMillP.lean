/-
  Lemmas and contracts of single functions of this program, used by the proofs of its laws: what each call returns and what becomes of memory. Conditions: the hypotheses of each theorem.
-/
import Derived.Test.YtkgepklapglmdaaMillA
namespace Go.Proofs.Ytkgepklapglmdaa
open Go.RowKit

def lbs (es : List Ent) : List Int := es.map (·.lb)
/-- the index of a label, -1 if it is not there -/
def entI (es : List Ent) (lb : Int) : Int := plc (lbs es) lb
/-- a mill: entries, came, shipped, pulped -/
structure Mil where
  es : List Ent
  a : Int
  b : Int
  z : Int
def Mil.nil : Mil := ⟨[], 0, 0, 0⟩
def Mil.ok (m : Mil) : Bool := vMill m.es m.a m.b m.z
/-- an event: kind, label, left, right, from, to, grade -/
structure Evt where
  k : Int
  lb : Int
  l : Int
  r : Int
  f : Int
  t : Int
  g : Int
end Go.Proofs.Ytkgepklapglmdaa
