/- Walk of the program's interpolation. -/
import Derived.Test.YtogcgeiocndlbaaPs
import Derived.Deep.RegionWith
namespace Go.Proofs.Ytogcgeiocndlbaa
open Go.RowKit

/-- the value of a polynomial as Eval computes it -/
def ev (p : List UInt8) (x : UInt8) : UInt8 := evTo p x p.length
/-- Newton's form after k points: the polynomial, and the one that is zero at all of them -/
def ipSt (xs ys : List UInt8) : Nat → Option (List UInt8 × List UInt8)
  | 0 => some ([], [1])
  | k + 1 => match ipSt xs ys k with
    | none => none
    | some (o, z) =>
      if ev z (xs.getD k 0) = 0 then none
      else some (padd o (pmul [Gf.gm (Gf.ga (ys.getD k 0) (ev o (xs.getD k 0))) (Gf.inv (ev z (xs.getD k 0)))] z), pmul z [xs.getD k 0, 1])
/-- what Interpolate hands back -/
def ipRun (xs ys : List UInt8) : List UInt8 × Int :=
  if xs.length = ys.length then
    match ipSt xs ys xs.length with
    | none => ([], 8)
    | some (o, _) => (o, 0)
  else ([], 1)
theorem ipSt_none {xs ys : List UInt8} {k : Nat} (h : ipSt xs ys k = none) : ∀ m, ipSt xs ys (k + m) = none
  | 0 => h
  | m + 1 => by
    show (match ipSt xs ys (k + m) with | none => none | some (o, z) => _) = none
    rw [ipSt_none h m]
theorem ipSt_len {xs ys : List UInt8} : ∀ {k : Nat} {o z : List UInt8}, ipSt xs ys k = some (o, z) → o.length ≤ 3 * k ∧ z.length ≤ 2 * k + 1
  | 0, o, z, h => by
    have : some ([], [1]) = some (o, z) := h
    injection this with this
    injection this with h1 h2
    subst h1 h2
    simp
  | k + 1, o, z, h => by
    have h' : (match ipSt xs ys k with
      | none => none
      | some (o, z) =>
        if ev z (xs.getD k 0) = 0 then none
        else some (padd o (pmul [Gf.gm (Gf.ga (ys.getD k 0) (ev o (xs.getD k 0))) (Gf.inv (ev z (xs.getD k 0)))] z), pmul z [xs.getD k 0, 1])) = some (o, z) := h
    cases hk : ipSt xs ys k with
    | none => rw [hk] at h'; cases h'
    | some oz =>
      obtain ⟨o', z'⟩ := oz
      rw [hk] at h'
      obtain ⟨l1, l2⟩ := ipSt_len hk
      simp only at h'
      split at h'
      · cases h'
      · injection h' with h'
        injection h' with h1 h2
        subst h1 h2
        have hm : ∀ a b, (pmul a b).length ≤ a.length + b.length := fun a b => by
          unfold pmul
          have := trim_length (mulSt a b a.length)
          rwa [mulSt_length] at this
        have h3 := hm [Gf.gm (Gf.ga (ys.getD k 0) (ev o' (xs.getD k 0))) (Gf.inv (ev z' (xs.getD k 0)))] z'
        have h4 := hm z' [xs.getD k 0, 1]
        have h5 := padd_length o' (pmul [Gf.gm (Gf.ga (ys.getD k 0) (ev o' (xs.getD k 0))) (Gf.inv (ev z' (xs.getD k 0)))] z')
        simp only [List.length_cons, List.length_nil] at h3 h4
        omega
theorem ipSt_yes {xs ys : List UInt8} {k : Nat} {o z : List UInt8} (h : ipSt xs ys k = some (o, z)) (hx : k < xs.length) (hy : k < ys.length) (h0 : ¬ ev z xs[k] = 0) :
    ipSt xs ys (k + 1) = some (padd o (pmul [Gf.gm (Gf.ga ys[k] (ev o xs[k])) (Gf.inv (ev z xs[k]))] z), pmul z [xs[k], 1]) := by
  rw [ipSt, h]
  simp only [getD_lt hx, getD_lt hy]
  rw [if_neg h0]
theorem ipSt_no {xs ys : List UInt8} {k : Nat} {o z : List UInt8} (h : ipSt xs ys k = some (o, z)) (hx : k < xs.length) (h0 : ev z xs[k] = 0) : ipSt xs ys (k + 1) = none := by
  rw [ipSt, h]
  simp only [getD_lt hx]
  rw [if_pos h0]

/-- what a call leaves that hands back a slice of bytes of its own and an error number -/
def Gives2 (w : World) (r : List UInt8 × Int) (e : Ending) (w' : World) : Prop :=
  ∃ v, e = .returned (.tuple #[v, .int .i64 r.2]) ∧ w'.ownsRow w.heap.size 5 1 v r.1.length (bv r.1) ∧ Below w.heap.size w w'

end Go.Proofs.Ytogcgeiocndlbaa
