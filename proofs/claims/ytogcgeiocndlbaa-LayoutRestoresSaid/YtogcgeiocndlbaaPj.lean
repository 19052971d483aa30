/- The contracts of the divisions, split by the divisor. -/
import Derived.Test.YtogcgeiocndlbaaPu
namespace Go.Proofs.Ytogcgeiocndlbaa
open Go.RowKit

/-- what a division leaves -/
def GivesB (b : Bool) (w : World) (d r : List UInt8) (e : Ending) (w' : World) : Prop :=
  ∃ v1 v2, e = .returned (.tuple #[v1, v2, .bool b]) ∧ w'.ownsRow w.heap.size 5 1 v1 d.length (bv d) ∧ w'.ownsRow w.heap.size 5 1 v2 r.length (bv r) ∧ Below w.heap.size w w'
end Go.Proofs.Ytogcgeiocndlbaa
