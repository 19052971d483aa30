/- Walks of the two derivatives and of the size guard. -/
import Derived.Test.YtogcgeiocndlbaaPm
namespace Go.Proofs.Ytogcgeiocndlbaa
open Go.RowKit

/-- the first m coefficients of the derivative -/
def derTo (p : List UInt8) (m : Nat) : List UInt8 := (List.range m).map fun j => if (j + 1) % 2 = 1 then p.getD (j + 1) 0 else 0
def pder (p : List UInt8) : List UInt8 := trim (derTo p (p.length - 1))
theorem derTo_odd {p : List UInt8} {j : Nat} (hj : j < p.length) (h1 : 1 ≤ j) (ho : j % 2 = 1) : derTo p (j - 1 + 1) = derTo p (j - 1) ++ [p[j]] := by
  unfold derTo
  rw [List.range_succ, List.map_append, List.map_singleton, show j - 1 + 1 = j by omega, if_pos ho, getD_lt hj]
theorem derTo_even {p : List UInt8} {j : Nat} (h1 : 1 ≤ j) (ho : ¬ j % 2 = 1) : derTo p (j - 1 + 1) = derTo p (j - 1) ++ [0] := by
  unfold derTo
  rw [List.range_succ, List.map_append, List.map_singleton, show j - 1 + 1 = j by omega, if_neg ho]

end Go.Proofs.Ytogcgeiocndlbaa
