/- BLAKE2s of the reference: columns, digit, permutation. -/
import Derived.Test.YtnllocghmnhooaaDoorCa
import Derived.Test.YtnllocghmnhooaaDoorBe
namespace Go.Proofs.YtnllocghmnhooaaDoor
open Go.RowKit
set_option linter.unusedVariables false
namespace Bk

set_option maxRecDepth 100000 in
theorem cols_f (w : World) (k : Nat) (hk : k < 8) : Calls Tryd.prog 76 #[.int .i64 (k : Int)] w fun e w' => e = .returned (.agg #[.int .i64 (qa k : Int), .int .i64 (qb k : Int), .int .i64 (qc k : Int), .int .i64 (qd k : Int)]) ∧ Below w.heap.size w w' := by
  have hc : k = 0 ∨ k = 1 ∨ k = 2 ∨ k = 3 ∨ k = 4 ∨ k = 5 ∨ k = 6 ∨ k = 7 := by omega
  rcases hc with rfl | rfl | rfl | rfl | rfl | rfl | rfl | rfl
  all_goals
    go_enter Tryd.func76, Tryd.ntmps76
    go_wp2_with fail
    exact bodyPost_ret (v := .agg _) (results_cell_row rfl _ _ w.heap.size 102 _ (0, 0) _ rfl (heap_alloc_new w _) Tryd.underlying102 rfl (by kernel_rfl)) rfl ⟨rfl, (Below.refl _ w).alloc (Nat.le_refl _) _⟩
/-- the permutation of a round, as digits -/
def hexd (n : Nat) : UInt8 := if n < 10 then UInt8.ofNat (48 + n) else UInt8.ofNat (87 + n)
def prm (r : Nat) : ByteArray := ⟨((List.range 16).map fun j => hexd (sg r j)).toArray⟩
set_option maxRecDepth 100000 in
theorem perm_f (w : World) (r : Nat) (hr : r < 10) : Calls Tryd.prog 75 #[.int .i64 (r : Int)] w fun e w' => e = .returned (.string (prm r)) ∧ w' = w := by
  have hc : r = 0 ∨ r = 1 ∨ r = 2 ∨ r = 3 ∨ r = 4 ∨ r = 5 ∨ r = 6 ∨ r = 7 ∨ r = 8 ∨ r = 9 := by omega
  rcases hc with rfl | rfl | rfl | rfl | rfl | rfl | rfl | rfl | rfl | rfl
  all_goals
    go_enter Tryd.func75, Tryd.ntmps75
    go_wp2_with fail
    go_ret
    exact ⟨rfl, rfl⟩
set_option maxRecDepth 100000 in
theorem digit_f (w : World) (n : Nat) (hn : n < 16) : Calls Tryd.prog 78 #[.int .u8 ((hexd n).toNat : Int)] w fun e w' => e = .returned (.int .i64 (n : Int)) ∧ w' = w := by
  by_cases h : n < 10
  · have e1 : ((hexd n).toNat : Int) = 48 + (n : Int) := by unfold hexd; rw [if_pos h, UInt8.toNat_ofNat', Nat.mod_eq_of_lt (by omega)]; omega
    rw [e1]
    go_enter Tryd.func78, Tryd.ntmps78
    go_wp2_with fail
    go_ret
    exact ⟨congrArg (fun z => Ending.returned (Value.int .i64 z)) (by omega), rfl⟩
  · have e1 : ((hexd n).toNat : Int) = 87 + (n : Int) := by unfold hexd; rw [if_neg h, UInt8.toNat_ofNat', Nat.mod_eq_of_lt (by omega)]; omega
    rw [e1]
    go_enter Tryd.func78, Tryd.ntmps78
    go_wp2_with fail
    go_ret
    exact ⟨congrArg (fun z => Ending.returned (Value.int .i64 z)) (by omega), rfl⟩

end Bk
end Go.Proofs.YtnllocghmnhooaaDoor
