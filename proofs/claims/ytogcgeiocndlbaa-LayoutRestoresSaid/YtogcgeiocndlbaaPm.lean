/- Walk of the program's polynomial product. -/
import Derived.Test.YtogcgeiocndlbaaPa
namespace Go.Proofs.Ytogcgeiocndlbaa
open Go.RowKit

/-- row i of the product: its first k places added onto out -/
def rowIn (x : UInt8) (q : List UInt8) (i k : Nat) (out : List UInt8) : List UInt8 :=
  (List.range k).foldl (fun o t => o.set (i + t) (Gf.ga (o.getD (i + t) 0) (Gf.gm x (q.getD t 0)))) out
def mulSt (p q : List UInt8) (i : Nat) : List UInt8 := (List.range i).foldl (fun o s => rowIn (p.getD s 0) q s q.length o) (List.replicate (p.length + q.length) 0)
/-- the product of two polynomials -/
def pmul (p q : List UInt8) : List UInt8 := trim (mulSt p q p.length)
theorem rowIn_zero (x : UInt8) (q : List UInt8) (i : Nat) (out : List UInt8) : rowIn x q i 0 out = out := rfl
theorem rowIn_succ' (x : UInt8) (q : List UInt8) (i k : Nat) (out : List UInt8) :
    rowIn x q i (k + 1) out = (rowIn x q i k out).set (i + k) (Gf.ga ((rowIn x q i k out).getD (i + k) 0) (Gf.gm x (q.getD k 0))) := by
  simp [rowIn, List.range_succ]
theorem rowIn_length (x : UInt8) (q : List UInt8) (i : Nat) (out : List UInt8) : ∀ k, (rowIn x q i k out).length = out.length
  | 0 => rfl
  | k + 1 => by rw [rowIn_succ', List.length_set, rowIn_length x q i out k]
theorem mulSt_succ' (p q : List UInt8) (i : Nat) : mulSt p q (i + 1) = rowIn (p.getD i 0) q i q.length (mulSt p q i) := by
  simp [mulSt, List.range_succ]
theorem mulSt_length (p q : List UInt8) : ∀ i, (mulSt p q i).length = p.length + q.length
  | 0 => by simp [mulSt]
  | i + 1 => by rw [mulSt_succ', rowIn_length, mulSt_length p q i]
theorem getD_lt {l : List UInt8} {i : Nat} (h : i < l.length) : l.getD i 0 = l[i] := by simp [List.getD, List.getElem?_eq_getElem h]
theorem rowIn_succ {x : UInt8} {q : List UInt8} {i k : Nat} {out : List UInt8} (hk : k < q.length) (hik : i + k < out.length) :
    rowIn x q i (k + 1) out = (rowIn x q i k out).set (i + k) (Gf.ga ((rowIn x q i k out)[i + k]'(by rw [rowIn_length]; exact hik)) (Gf.gm x q[k])) := by
  rw [rowIn_succ', getD_lt hk, getD_lt (by rw [rowIn_length]; exact hik)]
theorem mulSt_succ {p q : List UInt8} {i : Nat} (hi : i < p.length) : mulSt p q (i + 1) = rowIn p[i] q i q.length (mulSt p q i) := by rw [mulSt_succ', getD_lt hi]

end Go.Proofs.Ytogcgeiocndlbaa
