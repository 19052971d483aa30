/- What the laws on one-time signatures share. -/
import Derived.Test.YtlfpppffjedngaaDoorBo
import Derived.Test.YtlfpppffjedngaaDoorCi
import Derived.Lib.Strings
namespace Go.Proofs.YtlfpppffjedngaaDoor
namespace Bk
open Go.RowKit
theorem toList_inj {a b : ByteArray} (h : a.toList = b.toList) : a = b := by
  rw [Lib.toList_data, Lib.toList_data] at h
  rw [← ofL_bl a, ← ofL_bl b]
  exact congrArg ofL h
theorem tl_ne {a b : ByteArray} (h : a ≠ b) : (a.toList == b.toList) = false := by
  rw [beq_eq_false_iff_ne]
  exact fun e => h (toList_inj e)
theorem tl_eq (a : ByteArray) : (a.toList == a.toList) = true := by simp
end Bk
end Go.Proofs.YtlfpppffjedngaaDoor
