/- Reconcile: facts on the lists of a law: enough fuel, few messages. -/
import Derived.Test.YtnllocghmnhooaaDoorVc
namespace Go.Proofs.YtnllocghmnhooaaDoor
open Go.RowKit
set_option linter.unusedVariables false
namespace Rc
theorem us_small {l : List Itm} (h : l.length ≤ 60) : (Us l).length ≤ 120 := by rw [us_len]; omega
theorem lf {l : List Itm} (h : l.length ≤ 60) : St (Us l) (lsts l).1 ∧ St (Us l) (lsts l).2 ∧ (lsts l).1.length ≤ 60 ∧ (lsts l).2.length ≤ 60 := by
  have := lsts_ok l l.length (Nat.le_refl _)
  rw [List.take_length] at this
  obtain ⟨h1, h2, h3, h4⟩ := this
  exact ⟨h1, h2, by omega, by omega⟩
theorem fuel_ok {U a b : List Rec} (ha : St U a) (hb : St U b) (la : a.length ≤ 60) (lb : b.length ≤ 60) (r : Rng) : dlg Hd 200 b a r = dlg Hd 100 b a r :=
  dlg_fuel Hd 200 100 6 6 b a r hb.srt ha.srt (Nat.le_trans (inn_len _ _ _) (by omega)) (Nat.le_trans (inn_len _ _ _) (by omega)) (by omega) (by omega)
theorem df_le (K : List Bs) (x y : List Rec) (f t : Bs) : df K x y f t ≤ K.length := List.countP_le_length
theorem count_ok {U a b : List Rec} (ha : St U a) (hb : St U b) (la : a.length ≤ 60) (lb : b.length ≤ 60) (hU : U.length ≤ 120) (n : Nat) : (dlg Hd n b a (sm Hd a [] [])).2.2 ≤ 1000000 := by
  have h := (dlg_count Hd (U := U) (K := U.map key) (fun z hz => List.mem_map.2 ⟨z, hz, rfl⟩) n 6 6 b a [] [] hb ha (Nat.le_trans (inn_len _ _ _) (by omega)) (Nat.le_trans (inn_len _ _ _) (by omega))).2
  have k := df_le (U.map key) b a [] []
  rw [List.length_map] at k
  omega
end Rc
end Go.Proofs.YtnllocghmnhooaaDoor
