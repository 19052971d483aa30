/- Walks of the reference's polynomial functions: Add, scale, Mul, Derivative. -/
import Derived.Test.YtogcgeiocndlbaaPe
namespace Go.Proofs.Ytogcgeiocndlbaa
open Go.RowKit

/-- the sums of the first k coefficients -/
def addTo (p q : List UInt8) (k : Nat) : List UInt8 := (List.range k).map fun i => Gf.ga (p.getD i 0) (q.getD i 0)
theorem addTo_length (p q : List UInt8) (k : Nat) : (addTo p q k).length = k := by simp [addTo]
theorem addTo_succ (p q : List UInt8) (k : Nat) : addTo p q (k + 1) = addTo p q k ++ [Gf.ga (p.getD k 0) (q.getD k 0)] := by simp [addTo, List.range_succ]
/-- the sum of two polynomials -/
def padd (p q : List UInt8) : List UInt8 := trim (addTo p q (max p.length q.length))

theorem trim_length (l : List UInt8) : (trim l).length ≤ l.length := by unfold trim; rw [List.length_take]; omega

/-- k zeros and the multiples of the first i coefficients -/
def scaleTo (p : List UInt8) (x : UInt8) (k i : Nat) : List UInt8 := List.replicate k 0 ++ (List.range i).map fun j => Gf.gm x (p.getD j 0)
theorem scaleTo_length (p : List UInt8) (x : UInt8) (k i : Nat) : (scaleTo p x k i).length = k + i := by simp [scaleTo]
theorem scaleTo_succ {p : List UInt8} {i : Nat} (x : UInt8) (k : Nat) (hi : i < p.length) : scaleTo p x k (i + 1) = scaleTo p x k i ++ [Gf.gm x p[i]] := by
  have e : p.getD i 0 = p[i] := by simp [List.getD, List.getElem?_eq_getElem hi]
  rw [← e]
  simp [scaleTo, List.range_succ]
def pscale (p : List UInt8) (x : UInt8) (k : Nat) : List UInt8 := trim (scaleTo p x k p.length)

/-- the reference's product after i coefficients -/
def rmulTo (p q : List UInt8) : Nat → List UInt8
  | 0 => []
  | i + 1 => padd (rmulTo p q i) (pscale q (p.getD i 0) i)
theorem rmulTo_succ {p : List UInt8} {i : Nat} (q : List UInt8) (hi : i < p.length) : rmulTo p q (i + 1) = padd (rmulTo p q i) (pscale q p[i] i) := by
  have e : p.getD i 0 = p[i] := by simp [List.getD, List.getElem?_eq_getElem hi]
  rw [← e]; rfl
theorem padd_length (p q : List UInt8) : (padd p q).length ≤ max p.length q.length := by
  unfold padd
  have := trim_length (addTo p q (max p.length q.length))
  rwa [addTo_length] at this
theorem pscale_length (p : List UInt8) (x : UInt8) (k : Nat) : (pscale p x k).length ≤ k + p.length := by
  unfold pscale
  have := trim_length (scaleTo p x k p.length)
  rwa [scaleTo_length] at this
theorem rmulTo_length (p q : List UInt8) : ∀ i, (rmulTo p q i).length ≤ i + q.length
  | 0 => Nat.zero_le _
  | i + 1 => by
    have h1 := padd_length (rmulTo p q i) (pscale q (p.getD i 0) i)
    have h2 := rmulTo_length p q i
    have h3 := pscale_length q (p.getD i 0) i
    show (padd _ _).length ≤ _
    omega

end Go.Proofs.Ytogcgeiocndlbaa
