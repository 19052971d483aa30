/- Walks of the two divisions. -/
import Derived.Test.YtogcgeiocndlbaaPv
import Derived.Test.YtogcgeiocndlbaaPk
namespace Go.Proofs.Ytogcgeiocndlbaa
open Go.RowKit

/-- a slice's length, for a measure -/
def lenOf : Value → Nat
  | .slice _ n _ => n
  | _ => 0

/-- what a call leaves that hands back two slices of bytes of its own and a bool -/
def Gives3 (w : World) (r : List UInt8 × List UInt8 × Bool) (e : Ending) (w' : World) : Prop :=
  ∃ v1 v2, e = .returned (.tuple #[v1, v2, .bool r.2.2]) ∧ w'.ownsRow w.heap.size 5 1 v1 r.1.length (bv r.1) ∧ w'.ownsRow w.heap.size 5 1 v2 r.2.1.length (bv r.2.1) ∧ Below w.heap.size w w'

theorem rdvStep_eq (b Q R : List UInt8) (hj : R.length - 1 < R.length) (hj2 : b.length - 1 < b.length) : rdvStep b (Q, R) =
    (padd Q (pscale [1] (Gf.gm R[R.length - 1] (Gf.inv b[b.length - 1])) (R.length - b.length)), padd R (pscale b (Gf.gm R[R.length - 1] (Gf.inv b[b.length - 1])) (R.length - b.length))) := by
  unfold rdvStep
  simp only [getD_lt hj, getD_lt hj2]
theorem rdvRun_more (b : List UInt8) (st : List UInt8 × List UInt8) (f : Nat) (hl : b.length ≤ st.2.length) : rdvRun b (f + 1) st = rdvRun b f (rdvStep b st) := by
  conv => lhs; unfold rdvRun
  rw [if_pos hl]

theorem own_cells {w : World} {base g n cap : Nat} {l : List UInt8} (h : w.ownsRow base 5 1 (.slice (some ⟨g, 0, none⟩) n cap) n (bv l)) {j : Nat} (hj : j < n) (hl : n = l.length) :
    w.cell? ⟨g, j, none⟩ = some (.int .u8 ((l[j]'(by omega)).toNat : Int)) ∧ w.frozen? ⟨g, j, none⟩ = false := by
  refine ⟨?_, h.frozenAt j⟩
  rw [h.cellAt j (by omega)]
  unfold bv
  rw [List.getElem?_map, List.getElem?_eq_getElem (by omega)]
  rfl
theorem own_store {w : World} {base g n cap : Nat} {l : List UInt8} (h : w.ownsRow base 5 1 (.slice (some ⟨g, 0, none⟩) n cap) n (bv l)) (j : Nat) (x : UInt8) :
    (w.setCell ⟨g, j, none⟩ (B x)).ownsRow base 5 1 (.slice (some ⟨g, 0, none⟩) n cap) n (bv (l.set j x)) := by
  have := (h.stored j (B x)).1
  unfold bv at this ⊢
  rw [List.map_set]
  exact this
theorem bv_at (l : List UInt8) {k : Nat} (hk : k < l.length) : (bv l)[k]? = some (B l[k]) := by simp [bv, List.getElem?_map, List.getElem?_eq_getElem hk]
theorem grown_drew {a b : World} {row : Option Nat} (h : a.grownBy b row) : a.grownBy b.drew row := ⟨h.os, h.tape, h.output, h.size, h.block⟩
theorem own_drew {w : World} {base : Nat} {e : TypeId} {size : Nat} {v : Value} {n : Nat} {xs : List Value} (h : w.ownsRow base e size v n xs) : w.drew.ownsRow base e size v n xs := h
theorem rowIn_cell {x : UInt8} {q : List UInt8} {i k : Nat} {out : List UInt8} (h : i + k < out.length) : i + k < (rowIn x q i k out).length := by rw [rowIn_length]; exact h

theorem dvRun_more (b Q R : List UInt8) (s : Nat) (h1 : s + (b.length - 1) < R.length) (h2 : b.length - 1 < b.length) : dvRun b (s + 1) (Q, R) =
    dvRun b s (Q.set s (Gf.gm R[s + (b.length - 1)] (Gf.inv b[b.length - 1])), rowIn (Gf.gm R[s + (b.length - 1)] (Gf.inv b[b.length - 1])) b s b.length R) := by
  show dvRun b s (dvStep b s (Q, R)) = _
  unfold dvStep
  simp only [getD_lt h1, getD_lt h2]

end Go.Proofs.Ytogcgeiocndlbaa
