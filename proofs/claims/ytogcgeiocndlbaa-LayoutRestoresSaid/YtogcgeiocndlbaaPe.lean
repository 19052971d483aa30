/- Walks: the values of polynomials, the coefficient, the comparison, the size guard. -/
import Derived.Test.YtogcgeiocndlbaaPw
import Derived.Deep.QuietTactic
import Derived.BigQuiet
namespace Go.Proofs.Ytogcgeiocndlbaa
open Go.RowKit

/-- Eval after k rounds -/
def evTo (l : List UInt8) (x : UInt8) : Nat → UInt8
  | 0 => 0
  | k + 1 => Gf.ga (Gf.gm (evTo l x k) x) (l.getD (l.length - 1 - k) 0)
theorem evTo_succ {l : List UInt8} {x : UInt8} {k j : Nat} (hj : j < l.length) (hk : l.length - 1 - k = j) : evTo l x (k + 1) = Gf.ga (Gf.gm (evTo l x k) x) l[j] := by
  show Gf.ga _ _ = _
  rw [hk]
  simp [List.getD, List.getElem?_eq_getElem hj]

/-- the reference's Eval after k rounds: the sum and the power -/
def rev (l : List UInt8) (x : UInt8) : Nat → UInt8 × UInt8
  | 0 => (0, 1)
  | k + 1 => (Gf.ga (rev l x k).1 (Gf.gm (l.getD k 0) (rev l x k).2), Gf.gm (rev l x k).2 x)
theorem rev_succ {l : List UInt8} {x : UInt8} {k : Nat} (hj : k < l.length) : rev l x (k + 1) = (Gf.ga (rev l x k).1 (Gf.gm l[k] (rev l x k).2), Gf.gm (rev l x k).2 x) := by
  show (_, _) = _
  simp [List.getD, List.getElem?_eq_getElem hj]

end Go.Proofs.Ytogcgeiocndlbaa
