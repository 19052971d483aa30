/- Walks of the machine's execute: the instructions '?' ';' ',' '$'. -/
import Derived.Test.YtfjjdogjihpbnaaDoorMe
namespace Go.Proofs.YtfjjdogjihpbnaaDoor
open Go.RowKit
namespace Mc
section
variable {fix : List (Nat × Obj)} {w0 W : World} {g : Nat} {n : Int} {z : Bool} {bm : Value} {s : St}

set_option maxRecDepth 100000 in
set_option maxHeartbeats 4000000 in
theorem ex_jump (h : MP fix w0 W g n z bm s) (hm : s.data.length ≤ 256) :
    Calls Tryd.prog 33 #[.pointer (some ⟨g, 0, none⟩), .int .u32 63] W (Goes fix w0 g n z bm s.out (stJump s) (.tuple #[])) := by
  cases hD : s.data with
  | nil =>
    have HC := Lib.hid (pop_no h hD)
    have HR := Lib.hid (show stJump s = none by unfold stJump; rw [hD])
    have H := Lib.hid h
    clear h hD hm
    go_enter Tryd.func33, Tryd.ntmps33
    go_wp2_with fail
    refine HC.out.mono ?_
    rintro e w' ⟨rfl, rfl⟩
    exact ⟨rfl, goes_no HR.out ⟨s, H.out, rfl⟩⟩
  | cons t l =>
    have HC := Lib.hid (pop_yes h hD hm)
    rw [hD] at hm
    cases l with
    | nil =>
      have HR := Lib.hid (show stJump s = none by unfold stJump; rw [hD])
      clear h hD hm
      go_enter Tryd.func33, Tryd.ntmps33
      go_wp2_with fail
      refine HC.out.mono ?_
      rintro e w1 ⟨rfl, h1, _⟩
      have H1 := Lib.hid h1
      have HC2 := Lib.hid (pop_no h1 rfl)
      clear h1
      go_wp2_with fail
      refine HC2.out.mono ?_
      rintro e w' ⟨rfl, rfl⟩
      exact ⟨rfl, goes_no HR.out ⟨_, H1.out, rfl⟩⟩
    | cons x l =>
      have HR := Lib.hid (show stJump s = some { s with pc := if x = 0 then t else s.pc, data := l } by unfold stJump; rw [hD])
      have hm2 : (x :: l).length ≤ 256 := by simp at hm ⊢; omega
      have HM := Lib.hid hm2
      clear h hD hm hm2
      by_cases hx : x = 0
      · rw [if_pos hx] at HR
        have hx0 : (x == 0) = true := by simp [hx]
        clear hx
        go_enter Tryd.func33, Tryd.ntmps33
        go_wp2_with fail
        refine HC.out.mono ?_
        rintro e w1 ⟨rfl, h1, _⟩
        have H1 := Lib.hid h1
        have HC2 := Lib.hid (pop_yes h1 rfl HM.out)
        clear h1
        go_wp2_with fail
        refine HC2.out.mono ?_
        rintro e w2 ⟨rfl, h2, _⟩
        have H2 := Lib.hid h2
        have hc1 := h2.pcAt
        have hf1 := h2.fr 1
        clear h2
        go_wp2_with fail
        go_end0
        exact goes_yes HR.out (H2.out.setPc t)
      · rw [if_neg hx] at HR
        have hx0 : (x == 0) = false := by simp [hx]
        clear hx
        go_enter Tryd.func33, Tryd.ntmps33
        go_wp2_with fail
        refine HC.out.mono ?_
        rintro e w1 ⟨rfl, h1, _⟩
        have H1 := Lib.hid h1
        have HC2 := Lib.hid (pop_yes h1 rfl HM.out)
        clear h1
        go_wp2_with fail
        refine HC2.out.mono ?_
        rintro e w2 ⟨rfl, h2, _⟩
        have H2 := Lib.hid h2
        clear h2
        go_wp2_with fail
        go_end0
        exact goes_yes HR.out H2.out

set_option maxRecDepth 100000 in
set_option maxHeartbeats 4000000 in
theorem ex_halt (h : MP fix w0 W g n z bm s) :
    Calls Tryd.prog 33 #[.pointer (some ⟨g, 0, none⟩), .int .u32 36] W fun e w' => e = .returned (.tuple #[]) ∧ MP fix w0 w' g n true bm s := by
  have H := Lib.hid h
  have hc8 := h.zAt
  have hf8 := h.fr 8
  clear h
  go_enter Tryd.func33, Tryd.ntmps33
  go_wp2_with fail
  go_end0
  exact ⟨rfl, H.out.setZ true⟩

set_option maxRecDepth 100000 in
set_option maxHeartbeats 4000000 in
theorem ex_back (h : MP fix w0 W g n z bm s) (hm : s.calls.length ≤ 64) :
    Calls Tryd.prog 33 #[.pointer (some ⟨g, 0, none⟩), .int .u32 59] W (Goes fix w0 g n z bm s.out (stBack s) (.tuple #[])) := by
  cases hC : s.calls with
  | nil =>
    have HR := Lib.hid (show stBack s = none by unfold stBack; rw [hC])
    obtain ⟨A, c, hc3⟩ := h.cAt
    rw [hC] at hc3
    have H := Lib.hid h
    clear h hC hm
    go_enter Tryd.func33, Tryd.ntmps33
    go_wp2_with fail
    refine (check_no _).mono ?_
    rintro e w' ⟨rfl, rfl⟩
    exact ⟨rfl, goes_no HR.out ⟨s, H.out, rfl⟩⟩
  | cons p l =>
    have HR := Lib.hid (show stBack s = some { s with pc := p, calls := l } by unfold stBack; rw [hC])
    obtain ⟨gm, vd, vc, vo, A, ni, ci, h1, h2, h3⟩ := h
    rw [hC] at h2 hm
    obtain ⟨Ad, cd, rfl, hdc, hdm⟩ := own_sl h2.c
    obtain ⟨kb, rfl, hL, hcx, hfx, _⟩ := own_top h2.c
    obtain ⟨T, hl⟩ : ∃ T, l.length = T := ⟨_, rfl⟩
    have hLe : T + 1 = (p :: l).length := by rw [List.length_cons, hl]
    rw [← hLe] at h1 h2 hm hdc
    rw [hl] at hcx hfx
    unfold V at hcx
    have hkg : kb ≠ g := (h2.nc _ rfl).1
    have H1 := Lib.hid h1
    have H2 := Lib.hid h2
    have H3 := Lib.hid h3
    have HL := Lib.hid hl
    have HLE := Lib.hid hLe
    have hc3 := H1.out.cell 3
    rw [show (pcells gm s.pc vd (.slice (some ⟨kb, 0, none⟩) (T + 1) cd) A ni ci vo s.digit n z bm)[3]? = some (.slice (some ⟨kb, 0, none⟩) (T + 1) cd) from rfl] at hc3
    have hc1 := H1.out.cell 1
    rw [show (pcells gm s.pc vd (.slice (some ⟨kb, 0, none⟩) (T + 1) cd) A ni ci vo s.digit n z bm)[1]? = some (.int .u32 s.pc) from rfl] at hc1
    have hf1 := H1.out.frozen 1
    have hf3 := H1.out.frozen 3
    have hr2 : (0 : Int) ≤ (T : Int) := by omega
    have hr3 : (T : Int) < (T : Int) + 1 := by omega
    have hdt : decide (0 < T + 1) = true := by simp
    unfold maxLen at hdm
    clear h1 h2 h3 hl hLe hL hC
    go_enter Tryd.func33, Tryd.ntmps33
    go_wp2_with fail
    refine (check_yes _).mono ?_
    rintro e w' ⟨rfl, rfl⟩
    go_wp2_with fail
    go_end0
    exact goes_yes HR.out ⟨gm, _, _, vo, A, ni, ci, (H1.out.set_ 1 _).set_ 3 _, ((H2.out.setG 1 _).setG 3 _).ctake (m := T) (D' := l) HLE.out HL.out (by rw [← HL.out]; exact take_tail p l) (by omega), H3.out⟩
end
end Mc
end Go.Proofs.YtfjjdogjihpbnaaDoor
