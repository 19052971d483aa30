/- Walk of the size guard of the laws. -/
import Derived.Test.YtogcgeiocndlbaaPd
namespace Go.Proofs.Ytogcgeiocndlbaa
open Go.RowKit

/-- a slice value as a value -/
def sv (x : Option Addr × Nat × Nat) : Value := .slice x.1 x.2.1 x.2.2
/-- none of the first k is longer than most -/
def allLe (most : Nat) (ls : List (Option Addr × Nat × Nat)) : Bool := ls.all fun x => decide (x.2.1 ≤ most)
theorem allLe_take_succ {most : Nat} {ls : List (Option Addr × Nat × Nat)} {k : Nat} (hk : k < ls.length) : allLe most (ls.take (k + 1)) = (allLe most (ls.take k) && decide (ls[k].2.1 ≤ most)) := by
  unfold allLe
  rw [List.take_succ_eq_append_getElem hk, List.all_append]
  simp only [List.all_cons, List.all_nil, Bool.and_true]
theorem allLe_false {most : Nat} {ls : List (Option Addr × Nat × Nat)} {k : Nat} (hk : k < ls.length) (h : most < ls[k].2.1) : allLe most ls = false := by
  unfold allLe
  rw [List.all_eq_false]
  exact ⟨ls[k], List.getElem_mem hk, by simp; omega⟩

end Go.Proofs.Ytogcgeiocndlbaa
