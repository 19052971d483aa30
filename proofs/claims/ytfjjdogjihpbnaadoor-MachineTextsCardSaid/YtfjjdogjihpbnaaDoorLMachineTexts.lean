/- The law MachineTexts of stelelaw17 returns true for every input in a world that holds the table of the powers of ten. -/
import Derived.Test.YtfjjdogjihpbnaaDoorMw
import Derived.Test.YtfjjdogjihpbnaaDoorLMachineArithmetic
namespace Go.Proofs.YtfjjdogjihpbnaaDoor
namespace MachineTexts
open Go.RowKit Mc

theorem signs_f (w : World) : Calls Tryd.prog 11 #[] w fun e w' => e = .returned (.string ⟨#[43, 45, 42, 47, 37, 94, 60, 64, 33, 63, 58, 59, 44, 46, 36]⟩) ∧ w = w' := by
  go_enter Tryd.func11, Tryd.ntmps11
  go_wp2_with fail
  go_ret
  exact ⟨rfl, rfl⟩

set_option maxRecDepth 100000 in
set_option maxHeartbeats 2000000 in
theorem core (w : World) (ht : Tab w) (code : ByteArray) (hcode : code.size ≤ maxLen) (n : Nat) (hn : n < 4294967296) :
    Calls Tryd.prog 4 #[.string code, .int .u32 (n : Int)] w fun e w' => e = .returned (.bool true) ∧ Below w.heap.size w w' := by
  have HT := Lib.hid ht
  have hca : code.size ≤ 9223372036854775807 := by unfold maxLen at hcode; omega
  clear ht hcode
  go_enter Tryd.func4, Tryd.ntmps4
  go_wp2_with fail
  refine (alive_f _).mono ?_
  rintro e w1 ⟨rfl, hb1⟩
  have HB1 := Lib.hid hb1
  have HT1 := Lib.hid (MachineArithmetic.tab_below HT.out hb1)
  clear hb1 HT
  by_cases hl : 3000 < code.size
  · go_wp2_with fail
    go_ret
    exact ⟨rfl, HB1.out⟩
  have hl' : code.size ≤ 100000 := by omega
  go_wp2_with fail
  refine (mcheck_f w1 code hl').mono ?_
  rintro e w' ⟨rfl, rfl⟩
  obtain ⟨R, hR⟩ : ∃ R, R = chkL (bl code) 0 := ⟨_, rfl⟩
  have HC := Lib.hid (rcheck_f w1 code hl')
  unfold ChkPost at HC
  rw [← hR] at HC ⊢
  clear hR
  obtain ⟨r1, r2⟩ := R
  go_wp2_with fail
  refine HC.out.mono ?_
  rintro e w' ⟨rfl, rfl⟩
  go_wp2_with fail
  refine (signs_f _).mono ?_
  rintro e w' ⟨rfl, rfl⟩
  go_wp2_with fail
  refine (lit_f n hn w1 HT1.out).mono ?_
  rintro e w2 ⟨rfl, hb2⟩
  have HB2 := Lib.hid (HB1.out.trans (hb2.mono HB1.out.size))
  clear hb2
  obtain ⟨s, hs⟩ : ∃ s : ByteArray, s = ⟨(Lib.decDigits n).toArray⟩ := ⟨_, rfl⟩
  have HS := Lib.hid hs
  rw [← hs]
  clear hs
  go_wp2_with fail
  refine (rlit_f n hn w2).mono ?_
  rintro e w3 ⟨rfl, hb3⟩
  have HB3 := Lib.hid (HB2.out.trans (hb3.mono HB2.out.size))
  clear hb3
  rw [← HS.out]
  go_wp2_with fail
  go_ret
  exact ⟨rfl, HB3.out⟩

end MachineTexts
end Go.Proofs.YtfjjdogjihpbnaaDoor
