/- The examples of the chapter hold: alive answers true. -/
import Derived.Test.YtogcgeiocndlbaaLi
namespace Go.Proofs.Ytogcgeiocndlbaa
open Go.RowKit
set_option linter.unusedVariables false
namespace Ly

theorem loc_ex (w : World) : Calls Try.prog 15 #[.agg #[.int .i64 2, .int .i64 0], .int .i64 60] w (Po 1 0 4 0 w) := loc_yes 2 0 60 (by decide) w
def xs100 : ByteArray := ⟨(Lib.repeatL (⟨#[120]⟩ : ByteArray).data.toList 100).toArray⟩
theorem xs_size : xs100.size = 100 := by
  show (Lib.repeatL [120] 100).toArray.size = 100
  rw [List.size_toArray, Lib.repeatL_length]
  rfl
theorem rep_ex (w : World) : Calls Try.prog 23 #[.string ⟨#[120]⟩, .int .i64 100] w fun e w' => e = .returned (.string xs100) ∧ Below w.heap.size w w' := Try.strings_Repeat ⟨#[120]⟩ 100 w (by omega) (by decide)
theorem strs_ex (w : World) : Calls Try.prog 11 #[.agg #[.int .i64 2, .int .i64 0], .string xs100] w fun e w' => (∃ A c, e = .returned (.tuple #[.slice A 2 c, .int .i64 0])) ∧ Below w.heap.size w w' := by
  refine (stripes_try 2 0 (by omega) (by omega) (by omega) xs100 (by rw [xs_size]; omega) w).mono ?_
  rintro e w' ⟨v, vs, rfl, hown, _, hb⟩
  have hl : (strs 2 0 (bl xs100)).length = 2 := by
    have h1 : (bl xs100).length = 100 := by rw [← xs_size]; simp [bl]
    unfold strs
    rw [List.length_map, List.length_range]
    unfold nst
    rw [h1]
  rw [hl] at hown
  obtain ⟨A, c, rfl, _, _⟩ := own_form hown
  exact ⟨⟨A, c, rfl⟩, hb⟩

set_option maxRecDepth 100000 in
set_option maxHeartbeats 1000000 in
theorem alive_f (w : World) : Calls Try.prog 10 #[] w fun e w' => e = .returned (.bool true) ∧ Below w.heap.size w w' := by
  go_enter Try.func10, Try.ntmps10
  go_wp2_with fail
  refine (loc_ex _).mono ?_
  rintro e w1 ⟨rfl, hb1⟩
  have HP := Lib.hid (Blk.new w1 34 #[.int .i64 1, .int .i64 0, .int .i64 4])
  have HB1 := Lib.hid (hb1.alloc hb1.size (.cells #[.int .i64 1, .int .i64 0, .int .i64 4] 34))
  clear hb1
  go_wp2_with fail
  refine (rep_ex _).mono ?_
  rintro e w2 ⟨rfl, hb2⟩
  have HP2 := Lib.hid (HP.out.below hb2)
  have HB2 := Lib.hid (HB1.out.trans (hb2.mono HB1.out.size))
  clear hb2 HP HB1
  go_wp2_with fail
  refine (strs_ex _).mono ?_
  rintro e w3 ⟨⟨A, c, rfl⟩, hb3⟩
  have hp := HP2.out.below hb3
  have HB3 := Lib.hid (HB2.out.trans (hb3.mono HB2.out.size))
  have a0 := hp.cell 0
  have a1 := hp.cell 1
  have a2 := hp.cell 2
  simp only [List.getElem?_toArray, List.getElem?_cons_zero, List.getElem?_cons_succ] at a0 a1 a2
  clear hb3 hp
  go_wp2_with fail
  go_ret
  exact ⟨rfl, HB3.out⟩

end Ly
end Go.Proofs.Ytogcgeiocndlbaa
