/- Layouts: Offset of the program and of the reference. -/
import Derived.Test.YtogcgeiocndlbaaLc
namespace Go.Proofs.Ytogcgeiocndlbaa
open Go.RowKit
set_option linter.unusedVariables false
namespace Ly
theorem mul_bd {a d : Int} (h1 : 0 ≤ a) (h2 : a ≤ 2147483647) (h3 : 1 ≤ d) (h4 : d ≤ 8) : 0 ≤ a * d ∧ a * d ≤ 17179869176 :=
  ⟨Int.mul_nonneg h1 (by omega), Int.le_trans (Int.mul_le_mul h2 h4 (by omega) (by omega)) (by omega)⟩

set_option maxRecDepth 100000 in
set_option maxHeartbeats 2000000 in
theorem off_in (d s a b c : Int) (hok : okL d s) (h1 : 0 ≤ a ∧ a ≤ 2147483647 ∧ 0 ≤ b ∧ b < d ∧ 0 ≤ c ∧ c ≤ 27) (r er : Int) (hr : Hid ((offV d a b c ≤ 2147483647 → r = offV d a b c ∧ er = 0) ∧ (¬ offV d a b c ≤ 2147483647 → r = 0 ∧ er = 2))) (w : World) :
    Calls Try.prog 17 #[.agg #[.int .i64 d, .int .i64 s], .agg #[.int .i64 a, .int .i64 b, .int .i64 c]] w (Nn r er w) := by
  have HC := Lib.hid (fun W => check_yes d s hok W)
  obtain ⟨h3, h4, _, _⟩ := hok
  obtain ⟨a1, a2, b1, b2, c1, c2⟩ := h1
  have hm := mul_bd a1 a2 h3 h4
  obtain ⟨m1, m2⟩ := hm
  have HM := Lib.hid (show offV d a b c = (a * d + b) * 28 + c from rfl)
  go_enter Try.func17, Try.ntmps17
  go_wp2_with fail
  refine (HC.out _).mono ?_
  rintro e w1 ⟨rfl, hb⟩
  have hL := ((Blk.new w 23 #[.int .i64 d, .int .i64 s]).alloc (.cells #[.int .i64 a, .int .i64 b, .int .i64 c] 34)).below hb
  have hP := (blk_new1 w (.cells #[.int .i64 d, .int .i64 s] 23) 34 #[.int .i64 a, .int .i64 b, .int .i64 c]).below hb
  have l0 := hL.cell 0
  have p0 := hP.cell 0
  have p1 := hP.cell 1
  have p2 := hP.cell 2
  simp only [List.getElem?_toArray, List.getElem?_cons_zero, List.getElem?_cons_succ] at l0 p0 p1 p2
  have HB := Lib.hid ((((Below.refl _ w).alloc (Nat.le_refl _) (.cells #[.int .i64 d, .int .i64 s] 23)).alloc (by simp) (.cells #[.int .i64 a, .int .i64 b, .int .i64 c] 34)).trans (hb.mono (by simp; omega)))
  clear hb hL hP
  by_cases hgt : 2147483647 < (a * d + b) * 28 + c
  · have hr2 := hr.out.2 (by rw [HM.out]; omega)
    obtain ⟨rfl, rfl⟩ := hr2
    go_wp2_with fail
    go_ret2
    exact ⟨rfl, HB.out⟩
  · have hr2 := hr.out.1 (by rw [HM.out]; omega)
    rw [HM.out] at hr2
    obtain ⟨rfl, rfl⟩ := hr2
    go_wp2_with fail
    go_ret2
    exact ⟨rfl, HB.out⟩
set_option maxRecDepth 100000 in
set_option maxHeartbeats 2000000 in
theorem off_out (d s a b c : Int) (hok : okL d s) (h1 : ¬ (0 ≤ a ∧ a ≤ 2147483647 ∧ 0 ≤ b ∧ b < d ∧ 0 ≤ c ∧ c ≤ 27)) (w : World) :
    Calls Try.prog 17 #[.agg #[.int .i64 d, .int .i64 s], .agg #[.int .i64 a, .int .i64 b, .int .i64 c]] w (Nn 0 2 w) := by
  have HC := Lib.hid (fun W => check_yes d s hok W)
  have HN := Lib.hid h1
  clear h1
  have key : ∀ X : Prop, X ∨ ¬ X := Classical.em
  rcases key (a < 0) with q | q
  case' inr => rcases key (2147483647 < a) with q' | q'
  case' inr.inr => rcases key (b < 0) with q2 | q2
  case' inr.inr.inr => rcases key (d ≤ b) with q3 | q3
  case' inr.inr.inr.inr => rcases key (c < 0) with q4 | q4
  case' inr.inr.inr.inr.inr => have q5 : 27 < c := by have := HN.out; omega
  case' inr.inl => have d1 : decide (a < 0) = false := decide_eq_false (by omega)
  case' inr.inr.inl => have d1 : decide (a < 0) = false := decide_eq_false (by omega); have d2 : decide (2147483647 < a) = false := decide_eq_false (by omega)
  case' inr.inr.inr.inl => have d1 : decide (a < 0) = false := decide_eq_false (by omega); have d2 : decide (2147483647 < a) = false := decide_eq_false (by omega); have d3 : decide (b < 0) = false := decide_eq_false (by omega)
  case' inr.inr.inr.inr.inl => have d1 : decide (a < 0) = false := decide_eq_false (by omega); have d2 : decide (2147483647 < a) = false := decide_eq_false (by omega); have d3 : decide (b < 0) = false := decide_eq_false (by omega); have d4 : decide (d ≤ b) = false := decide_eq_false (by omega)
  case' inr.inr.inr.inr.inr => have d1 : decide (a < 0) = false := decide_eq_false (by omega); have d2 : decide (2147483647 < a) = false := decide_eq_false (by omega); have d3 : decide (b < 0) = false := decide_eq_false (by omega); have d4 : decide (d ≤ b) = false := decide_eq_false (by omega); have d5 : decide (c < 0) = false := decide_eq_false (by omega)
  all_goals
    go_enter Try.func17, Try.ntmps17
    go_wp2_with fail
    refine (HC.out _).mono ?_
    rintro e w1 ⟨rfl, hb⟩
    have hL := ((Blk.new w 23 #[.int .i64 d, .int .i64 s]).alloc (.cells #[.int .i64 a, .int .i64 b, .int .i64 c] 34)).below hb
    have hP := (blk_new1 w (.cells #[.int .i64 d, .int .i64 s] 23) 34 #[.int .i64 a, .int .i64 b, .int .i64 c]).below hb
    have l0 := hL.cell 0
    have p0 := hP.cell 0
    have p1 := hP.cell 1
    have p2 := hP.cell 2
    simp only [List.getElem?_toArray, List.getElem?_cons_zero, List.getElem?_cons_succ] at l0 p0 p1 p2
    have HB := Lib.hid ((((Below.refl _ w).alloc (Nat.le_refl _) (.cells #[.int .i64 d, .int .i64 s] 23)).alloc (by simp) (.cells #[.int .i64 a, .int .i64 b, .int .i64 c] 34)).trans (hb.mono (by simp; omega)))
    clear hb hL hP
    go_wp2_with fail
    go_ret2
    exact ⟨rfl, HB.out⟩
set_option maxRecDepth 100000 in
set_option maxHeartbeats 2000000 in
theorem off_bad (d s a b c : Int) (hok : ¬ okL d s) (w : World) :
    Calls Try.prog 17 #[.agg #[.int .i64 d, .int .i64 s], .agg #[.int .i64 a, .int .i64 b, .int .i64 c]] w (Nn 0 2 w) := by
  have HC := Lib.hid (fun W => check_no d s hok W)
  clear hok
  go_enter Try.func17, Try.ntmps17
  go_wp2_with fail
  refine (HC.out _).mono ?_
  rintro e w1 ⟨rfl, hb⟩
  have HB := Lib.hid ((((Below.refl _ w).alloc (Nat.le_refl _) (.cells #[.int .i64 d, .int .i64 s] 23)).alloc (by simp) (.cells #[.int .i64 a, .int .i64 b, .int .i64 c] 34)).trans (hb.mono (by simp; omega)))
  clear hb
  go_wp2_with fail
  go_ret2
  exact ⟨rfl, HB.out⟩
theorem off_yes (d s a b c : Int) (h : offOk d s a b c) (w : World) :
    Calls Try.prog 17 #[.agg #[.int .i64 d, .int .i64 s], .agg #[.int .i64 a, .int .i64 b, .int .i64 c]] w (Nn (offV d a b c) 0 w) :=
  off_in d s a b c h.1 ⟨h.2.1, h.2.2.1, h.2.2.2.1, h.2.2.2.2.1, h.2.2.2.2.2.1, h.2.2.2.2.2.2.1⟩ _ _ (Lib.hid ⟨fun _ => ⟨rfl, rfl⟩, fun hn => absurd h.2.2.2.2.2.2.2 hn⟩) w
theorem off_no (d s a b c : Int) (h : ¬ offOk d s a b c) (w : World) :
    Calls Try.prog 17 #[.agg #[.int .i64 d, .int .i64 s], .agg #[.int .i64 a, .int .i64 b, .int .i64 c]] w (Nn 0 2 w) := by
  by_cases hok : okL d s
  · by_cases h1 : 0 ≤ a ∧ a ≤ 2147483647 ∧ 0 ≤ b ∧ b < d ∧ 0 ≤ c ∧ c ≤ 27
    · exact off_in d s a b c hok h1 _ _ (Lib.hid ⟨fun hv => absurd ⟨hok, h1.1, h1.2.1, h1.2.2.1, h1.2.2.2.1, h1.2.2.2.2.1, h1.2.2.2.2.2, hv⟩ h, fun _ => ⟨rfl, rfl⟩⟩) w
    · exact off_out d s a b c hok h1 w
  · exact off_bad d s a b c hok w

set_option maxRecDepth 100000 in
set_option maxHeartbeats 2000000 in
theorem roff_in (d s a b c : Int) (hok : okL d s) (h1 : 0 ≤ a ∧ a ≤ 2147483647 ∧ 0 ≤ b ∧ b < d ∧ 0 ≤ c ∧ c ≤ 27) (r er : Int) (hr : Hid ((offV d a b c ≤ 2147483647 → r = offV d a b c ∧ er = 0) ∧ (¬ offV d a b c ≤ 2147483647 → r = 0 ∧ er = 2))) (w : World) :
    Calls Try.prog 18 #[.agg #[.int .i64 d, .int .i64 s], .agg #[.int .i64 a, .int .i64 b, .int .i64 c]] w (Nn r er w) := by
  have HC := Lib.hid (fun W => rcheck_yes d s hok W)
  obtain ⟨h3, h4, _, _⟩ := hok
  obtain ⟨a1, a2, b1, b2, c1, c2⟩ := h1
  have hm := mul_bd a1 a2 h3 h4
  obtain ⟨m1, m2⟩ := hm
  have HM := Lib.hid (show offV d a b c = (a * d + b) * 28 + c from rfl)
  go_enter Try.func18, Try.ntmps18
  go_wp2_with fail
  refine (HC.out _).mono ?_
  rintro e w1 ⟨rfl, hb⟩
  have hL := ((Blk.new w 23 #[.int .i64 d, .int .i64 s]).alloc (.cells #[.int .i64 a, .int .i64 b, .int .i64 c] 34)).below hb
  have hP := (blk_new1 w (.cells #[.int .i64 d, .int .i64 s] 23) 34 #[.int .i64 a, .int .i64 b, .int .i64 c]).below hb
  have l0 := hL.cell 0
  have p0 := hP.cell 0
  have p1 := hP.cell 1
  have p2 := hP.cell 2
  simp only [List.getElem?_toArray, List.getElem?_cons_zero, List.getElem?_cons_succ] at l0 p0 p1 p2
  have HB := Lib.hid ((((Below.refl _ w).alloc (Nat.le_refl _) (.cells #[.int .i64 d, .int .i64 s] 23)).alloc (by simp) (.cells #[.int .i64 a, .int .i64 b, .int .i64 c] 34)).trans (hb.mono (by simp; omega)))
  clear hb hL hP
  by_cases hgt : 2147483647 < (a * d + b) * 28 + c
  · have hr2 := hr.out.2 (by rw [HM.out]; omega)
    obtain ⟨rfl, rfl⟩ := hr2
    go_wp2_with fail
    go_ret2
    exact ⟨rfl, HB.out⟩
  · have hr2 := hr.out.1 (by rw [HM.out]; omega)
    rw [HM.out] at hr2
    obtain ⟨rfl, rfl⟩ := hr2
    go_wp2_with fail
    go_ret2
    exact ⟨rfl, HB.out⟩
set_option maxRecDepth 100000 in
set_option maxHeartbeats 2000000 in
theorem roff_out (d s a b c : Int) (hok : okL d s) (h1 : ¬ (0 ≤ a ∧ a ≤ 2147483647 ∧ 0 ≤ b ∧ b < d ∧ 0 ≤ c ∧ c ≤ 27)) (w : World) :
    Calls Try.prog 18 #[.agg #[.int .i64 d, .int .i64 s], .agg #[.int .i64 a, .int .i64 b, .int .i64 c]] w (Nn 0 2 w) := by
  have HC := Lib.hid (fun W => rcheck_yes d s hok W)
  have HN := Lib.hid h1
  clear h1
  have key : ∀ X : Prop, X ∨ ¬ X := Classical.em
  rcases key (a < 0) with q | q
  case' inr => rcases key (2147483647 < a) with q' | q'
  case' inr.inr => rcases key (b < 0) with q2 | q2
  case' inr.inr.inr => rcases key (d ≤ b) with q3 | q3
  case' inr.inr.inr.inr => rcases key (c < 0) with q4 | q4
  case' inr.inr.inr.inr.inr => have q5 : 27 < c := by have := HN.out; omega
  case' inr.inl => have d1 : decide (a < 0) = false := decide_eq_false (by omega)
  case' inr.inr.inl => have d1 : decide (a < 0) = false := decide_eq_false (by omega); have d2 : decide (2147483647 < a) = false := decide_eq_false (by omega)
  case' inr.inr.inr.inl => have d1 : decide (a < 0) = false := decide_eq_false (by omega); have d2 : decide (2147483647 < a) = false := decide_eq_false (by omega); have d3 : decide (b < 0) = false := decide_eq_false (by omega)
  case' inr.inr.inr.inr.inl => have d1 : decide (a < 0) = false := decide_eq_false (by omega); have d2 : decide (2147483647 < a) = false := decide_eq_false (by omega); have d3 : decide (b < 0) = false := decide_eq_false (by omega); have d4 : decide (d ≤ b) = false := decide_eq_false (by omega)
  case' inr.inr.inr.inr.inr => have d1 : decide (a < 0) = false := decide_eq_false (by omega); have d2 : decide (2147483647 < a) = false := decide_eq_false (by omega); have d3 : decide (b < 0) = false := decide_eq_false (by omega); have d4 : decide (d ≤ b) = false := decide_eq_false (by omega); have d5 : decide (c < 0) = false := decide_eq_false (by omega)
  all_goals
    go_enter Try.func18, Try.ntmps18
    go_wp2_with fail
    refine (HC.out _).mono ?_
    rintro e w1 ⟨rfl, hb⟩
    have hL := ((Blk.new w 23 #[.int .i64 d, .int .i64 s]).alloc (.cells #[.int .i64 a, .int .i64 b, .int .i64 c] 34)).below hb
    have hP := (blk_new1 w (.cells #[.int .i64 d, .int .i64 s] 23) 34 #[.int .i64 a, .int .i64 b, .int .i64 c]).below hb
    have l0 := hL.cell 0
    have p0 := hP.cell 0
    have p1 := hP.cell 1
    have p2 := hP.cell 2
    simp only [List.getElem?_toArray, List.getElem?_cons_zero, List.getElem?_cons_succ] at l0 p0 p1 p2
    have HB := Lib.hid ((((Below.refl _ w).alloc (Nat.le_refl _) (.cells #[.int .i64 d, .int .i64 s] 23)).alloc (by simp) (.cells #[.int .i64 a, .int .i64 b, .int .i64 c] 34)).trans (hb.mono (by simp; omega)))
    clear hb hL hP
    go_wp2_with fail
    go_ret2
    exact ⟨rfl, HB.out⟩
set_option maxRecDepth 100000 in
set_option maxHeartbeats 2000000 in
theorem roff_bad (d s a b c : Int) (hok : ¬ okL d s) (w : World) :
    Calls Try.prog 18 #[.agg #[.int .i64 d, .int .i64 s], .agg #[.int .i64 a, .int .i64 b, .int .i64 c]] w (Nn 0 2 w) := by
  have HC := Lib.hid (fun W => rcheck_no d s hok W)
  clear hok
  go_enter Try.func18, Try.ntmps18
  go_wp2_with fail
  refine (HC.out _).mono ?_
  rintro e w1 ⟨rfl, hb⟩
  have HB := Lib.hid ((((Below.refl _ w).alloc (Nat.le_refl _) (.cells #[.int .i64 d, .int .i64 s] 23)).alloc (by simp) (.cells #[.int .i64 a, .int .i64 b, .int .i64 c] 34)).trans (hb.mono (by simp; omega)))
  clear hb
  go_wp2_with fail
  go_ret2
  exact ⟨rfl, HB.out⟩
theorem roff_yes (d s a b c : Int) (h : offOk d s a b c) (w : World) :
    Calls Try.prog 18 #[.agg #[.int .i64 d, .int .i64 s], .agg #[.int .i64 a, .int .i64 b, .int .i64 c]] w (Nn (offV d a b c) 0 w) :=
  roff_in d s a b c h.1 ⟨h.2.1, h.2.2.1, h.2.2.2.1, h.2.2.2.2.1, h.2.2.2.2.2.1, h.2.2.2.2.2.2.1⟩ _ _ (Lib.hid ⟨fun _ => ⟨rfl, rfl⟩, fun hn => absurd h.2.2.2.2.2.2.2 hn⟩) w
theorem roff_no (d s a b c : Int) (h : ¬ offOk d s a b c) (w : World) :
    Calls Try.prog 18 #[.agg #[.int .i64 d, .int .i64 s], .agg #[.int .i64 a, .int .i64 b, .int .i64 c]] w (Nn 0 2 w) := by
  by_cases hok : okL d s
  · by_cases h1 : 0 ≤ a ∧ a ≤ 2147483647 ∧ 0 ≤ b ∧ b < d ∧ 0 ≤ c ∧ c ≤ 27
    · exact roff_in d s a b c hok h1 _ _ (Lib.hid ⟨fun hv => absurd ⟨hok, h1.1, h1.2.1, h1.2.2.1, h1.2.2.2.1, h1.2.2.2.2.1, h1.2.2.2.2.2, hv⟩ h, fun _ => ⟨rfl, rfl⟩⟩) w
    · exact roff_out d s a b c hok h1 w
  · exact roff_bad d s a b c hok w

end Ly
end Go.Proofs.Ytogcgeiocndlbaa
