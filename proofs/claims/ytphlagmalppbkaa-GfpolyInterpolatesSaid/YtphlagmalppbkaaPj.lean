/- The contracts of the divisions, split by the divisor. -/
import Derived.Test.YtphlagmalppbkaaPu
namespace Go.Proofs.Ytphlagmalppbkaa
open Go.RowKit

/-- what a division leaves -/
def GivesB (b : Bool) (w : World) (d r : List UInt8) (e : Ending) (w' : World) : Prop :=
  ∃ v1 v2, e = .returned (.tuple #[v1, v2, .bool b]) ∧ w'.ownsRow w.heap.size 5 1 v1 d.length (bv d) ∧ w'.ownsRow w.heap.size 5 1 v2 r.length (bv r) ∧ Below w.heap.size w w'
theorem divyes_b (w : World) (A : Option Addr) (n c : Nat) (p : List UInt8) (A' : Option Addr) (n' c' : Nat) (q : List UInt8) (h : Byt w A n c p) (h' : Byt w A' n' c' q) (hne : trim q ≠ []) (hp : p.length ≤ 128) (hq : q.length ≤ 128) :
    Calls Try.prog 26 #[.slice A n c, .slice A' n' c'] w (GivesB true w (pquo p q) (prem p q)) := by
  have := divmod_b w A n c p A' n' c' q h h' hp hq
  rw [div_eq hne] at this
  exact this
theorem divno_b (w : World) (A : Option Addr) (n c : Nat) (p : List UInt8) (A' : Option Addr) (n' c' : Nat) (q : List UInt8) (h : Byt w A n c p) (h' : Byt w A' n' c' q) (hne : trim q = []) (hp : p.length ≤ 128) (hq : q.length ≤ 128) :
    Calls Try.prog 26 #[.slice A n c, .slice A' n' c'] w (GivesB false w [] []) := by
  have := divmod_b w A n c p A' n' c' q h h' hp hq
  rw [div_none hne] at this
  exact this
theorem rdivyes_b (w : World) (A : Option Addr) (n c : Nat) (p : List UInt8) (A' : Option Addr) (n' c' : Nat) (q : List UInt8) (h : Byt w A n c p) (h' : Byt w A' n' c' q) (hne : trim q ≠ []) (hp : p.length ≤ 128) (hq : q.length ≤ 128) :
    Calls Try.prog 27 #[.slice A n c, .slice A' n' c'] w (GivesB true w (pquo p q) (prem p q)) := by
  have := rdivmod_b w A n c p A' n' c' q h h' hp hq
  rw [div_eq hne] at this
  exact this
theorem rdivno_b (w : World) (A : Option Addr) (n c : Nat) (p : List UInt8) (A' : Option Addr) (n' c' : Nat) (q : List UInt8) (h : Byt w A n c p) (h' : Byt w A' n' c' q) (hne : trim q = []) (hp : p.length ≤ 128) (hq : q.length ≤ 128) :
    Calls Try.prog 27 #[.slice A n c, .slice A' n' c'] w (GivesB false w [] []) := by
  have := rdivmod_b w A n c p A' n' c' q h h' hp hq
  rw [div_none hne] at this
  exact this

end Go.Proofs.Ytphlagmalppbkaa
