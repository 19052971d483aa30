/- Walk of the example of the chapter. -/
import Derived.Test.YtogcgeiocndlbaaPi
namespace Go.Proofs.Ytogcgeiocndlbaa
open Go.RowKit

theorem ex_ip : ipRun [0, 1] [5, 5] = ([5], 0) := by decide +kernel
theorem ex_mul : pmul [1, 1] [1, 1] = [1, 0, 1] := by decide +kernel

theorem lit_byt (w : World) (g : Nat) (hg : g = w.heap.size) (l : List UInt8) (cs : Array Value) (hc : cs = (bv l).toArray) (n : Nat) (hn : l.length = n) (hl : n ≤ 1000) : Byt (w.alloc (.cells cs 5)) (some ⟨g, 0, none⟩) n n l := by
  subst hc
  subst hg
  exact Blk.byt (Blk.new w 5 _) hn (by unfold maxLen; omega)

end Go.Proofs.Ytogcgeiocndlbaa
