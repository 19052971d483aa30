/- Locate and Offset: their answers in one word; they are inverse. -/
import Derived.Test.YtogcgeiocndlbaaLj
namespace Go.Proofs.Ytogcgeiocndlbaa
open Go.RowKit
set_option linter.unusedVariables false
namespace Ly

theorem loc_any (d t o : Int) : ∃ pa pb pc pe : Int, (∀ W, Calls Try.prog 15 #[.agg #[.int .i64 d, .int .i64 t], .int .i64 o] W (Po pa pb pc pe W)) ∧ (∀ W, Calls Try.prog 16 #[.agg #[.int .i64 d, .int .i64 t], .int .i64 o] W (Po pa pb pc pe W)) := by
  by_cases h : locOk d t o
  · exact ⟨_, _, _, _, fun W => loc_yes d t o h W, fun W => rloc_yes d t o h W⟩
  · exact ⟨_, _, _, _, fun W => loc_no d t o h W, fun W => rloc_no d t o h W⟩
theorem off_any (d t a b c : Int) : ∃ ov oe : Int, (∀ W, Calls Try.prog 17 #[.agg #[.int .i64 d, .int .i64 t], .agg #[.int .i64 a, .int .i64 b, .int .i64 c]] W (Nn ov oe W)) ∧ (∀ W, Calls Try.prog 18 #[.agg #[.int .i64 d, .int .i64 t], .agg #[.int .i64 a, .int .i64 b, .int .i64 c]] W (Nn ov oe W)) := by
  by_cases h : offOk d t a b c
  · exact ⟨_, _, fun W => off_yes d t a b c h W, fun W => roff_yes d t a b c h W⟩
  · exact ⟨_, _, fun W => off_no d t a b c h W, fun W => roff_no d t a b c h W⟩
theorem chk_any (d t : Int) : ∃ r : Int, (∀ W, Calls Try.prog 14 #[.agg #[.int .i64 d, .int .i64 t]] W (Nm r W)) ∧ (∀ W, Calls Try.prog 19 #[.agg #[.int .i64 d, .int .i64 t]] W (Nm r W)) := by
  by_cases h : okL d t
  · exact ⟨_, fun W => check_yes d t h W, fun W => rcheck_yes d t h W⟩
  · exact ⟨_, fun W => check_no d t h W, fun W => rcheck_no d t h W⟩

/-- Offset of what Locate says -/
theorem inv_loc {d t o : Int} (h : locOk d t o) : offOk d t (o / 28 / d) (o / 28 % d) (o % 28) ∧ offV d (o / 28 / d) (o / 28 % d) (o % 28) = o := by
  obtain ⟨hk, h1, h2⟩ := h
  have hd : 0 < d := by have := hk.1; omega
  have e1 : o / 28 / d * d + o / 28 % d = o / 28 := Int.ediv_mul_add_emod _ _
  have hv : offV d (o / 28 / d) (o / 28 % d) (o % 28) = o := by
    unfold offV
    rw [e1]
    omega
  have g1 : 0 ≤ o / 28 := by omega
  have g2 : 0 ≤ o / 28 / d := Int.ediv_nonneg g1 (by omega)
  have g3 : o / 28 / d ≤ o / 28 := Int.ediv_le_self _ g1
  have g4 := Int.emod_nonneg (o / 28) (show d ≠ 0 by omega)
  have g5 := Int.emod_lt_of_pos (o / 28) hd
  exact ⟨⟨hk, g2, by omega, g4, g5, by omega, by omega, by rw [hv]; exact h2⟩, hv⟩
/-- Locate of what Offset says -/
theorem inv_off {d t a b c : Int} (h : offOk d t a b c) : locOk d t (offV d a b c) ∧ offV d a b c / 28 / d = a ∧ offV d a b c / 28 % d = b ∧ offV d a b c % 28 = c := by
  obtain ⟨hk, h1, h2, h3, h4, h5, h6, h7⟩ := h
  have hd : 0 < d := by have := hk.1; omega
  have g1 : 0 ≤ a * d := Int.mul_nonneg h1 (by omega)
  have e1 : offV d a b c / 28 = a * d + b := by unfold offV; omega
  have e2 : offV d a b c % 28 = c := by unfold offV; omega
  have e3 : (a * d + b) / d = a := by
    rw [Int.add_comm, Int.add_mul_ediv_right _ _ (by omega), Int.ediv_eq_zero_of_lt h3 h4, Int.zero_add]
  have e4 : (a * d + b) % d = b := by
    rw [Int.add_comm, Int.add_mul_emod_self_right, Int.emod_eq_of_lt h3 h4]
  exact ⟨⟨hk, by unfold offV; omega, h7⟩, by rw [e1, e3], by rw [e1, e4], e2⟩
/-- the byte before -/
theorem off_pred {d t a b c : Int} (h : offOk d t a b c) (hc : c ≠ 0) : offOk d t a b (c - 1) ∧ offV d a b (c - 1) = offV d a b c - 1 := by
  obtain ⟨hk, h1, h2, h3, h4, h5, h6, h7⟩ := h
  have e : offV d a b (c - 1) = offV d a b c - 1 := by unfold offV; omega
  exact ⟨⟨hk, h1, h2, h3, h4, by omega, by omega, by rw [e]; omega⟩, e⟩
theorem off_pos {d t a b c : Int} (h : offOk d t a b c) : 0 ≤ offV d a b c ∧ offV d a b c ≤ 2147483647 := by
  have := (inv_off h).1
  exact ⟨this.2.1, this.2.2⟩

end Ly
end Go.Proofs.Ytogcgeiocndlbaa
