/- Walks of the reference's step, instruction by instruction (fourth part). -/
import Derived.Test.YtfjjdogjihpbnaaRb
import Derived.StillTailTactics
import Derived.Deep.QuietTactic
import Derived.BigQuiet
namespace Go.Proofs.Ytfjjdogjihpbnaa
open Go.RowKit
set_option linter.unusedVariables false
namespace Mc
section
variable {fix : List (Nat × Obj)} {w0 W : World} {g : Nat} {s : St}

set_option maxRecDepth 100000 in
set_option maxHeartbeats 4000000 in
theorem rs_bin (h : MR fix w0 W g s) (hm : s.data.length ≤ 256) (hw : ∀ x ∈ s.data, W32 x) {c : Int} (hb : isBin c) :
    Calls Try.prog 20 #[.pointer (some ⟨g, 0, none⟩), .int .u32 c] W (RGoes fix w0 g s.out (stBin s c)) := by
  match hD : s.data with
  | [] =>
    have HR := Lib.hid (show stBin s c = none by unfold stBin; rw [hD])
    obtain ⟨Ad, cd, hc2⟩ := h.dAt
    rw [hD] at hc2
    have H := Lib.hid h
    clear h hD hm hw
    unfold isBin at hb
    rcases hb with rfl | rfl | rfl | rfl | rfl | rfl | rfl
    all_goals
      go_enter Try.func20, Try.ntmps20
      go_wp2_with fail
      go_ret
      exact rgoes_no HR.out ⟨s, H.out, rfl⟩
  | [x] =>
    have HR := Lib.hid (show stBin s c = none by unfold stBin; rw [hD])
    obtain ⟨Ad, cd, hc2⟩ := h.dAt
    rw [hD] at hc2
    have H := Lib.hid h
    clear h hD hm hw
    unfold isBin at hb
    rcases hb with rfl | rfl | rfl | rfl | rfl | rfl | rfl
    all_goals
      go_enter Try.func20, Try.ntmps20
      go_wp2_with fail
      go_ret
      exact rgoes_no HR.out ⟨s, H.out, rfl⟩
  | x :: y :: l =>
    have hya := hw y (by rw [hD]; simp)
    have hxa := hw x (by rw [hD]; simp)
    have HOP := Lib.hid (fun V => operate_f V hb hya hxa)
    have HMR := Lib.hid h
    clear hw hya hxa
    obtain ⟨gm, vd, vc, vo, A, ni, ci, h1, h2, h3⟩ := h
    rw [hD] at h2 hm
    obtain ⟨Ad, cd, rfl, hdc, hdm⟩ := own_sl h2.d
    obtain ⟨kb, rfl, hL, hcx, hfx, _⟩ := own_top h2.d
    obtain ⟨kb2, hk2, hcy, _⟩ := own_snd h2.d
    obtain rfl : kb = kb2 := by simpa using hk2
    obtain ⟨T, hl⟩ : ∃ T, l.length = T := ⟨_, rfl⟩
    have hLe : T + 2 = (x :: y :: l).length := by rw [List.length_cons, List.length_cons, hl]
    rw [← hLe] at h1 h2 hm hdc
    rw [show (y :: l).length = T + 1 by rw [List.length_cons, hl]] at hcx hfx
    rw [hl] at hcy
    unfold V at hcx hcy
    have H1 := Lib.hid h1
    have H2 := Lib.hid h2
    have H3 := Lib.hid h3
    have HL := Lib.hid hl
    have HLE := Lib.hid hLe
    have hc2 := H1.out.cell 2
    rw [show (rcells gm s.pc (.slice (some ⟨kb, 0, none⟩) (T + 2) cd) vc A ni ci vo s.digit)[2]? = some (.slice (some ⟨kb, 0, none⟩) (T + 2) cd) from rfl] at hc2
    have hf2 := H1.out.frozen 2
    have hr2 : (0 : Int) ≤ (T : Int) := by omega
    have hr5 : (0 : Int) ≤ (T : Int) + 1 := by omega
    have hr3 : (T : Int) + 1 < (T : Int) + 2 := by omega
    have hr4 : (T : Int) < (T : Int) + 2 := by omega
    have hdt2 : decide ((T : Int) + 2 < 2) = false := by simp; omega
    unfold maxLen at hdm
    clear h1 h2 h3 hl hLe hL hk2
    have ho1 := H2.out.d
    have hsz := H2.out.sz
    have HTK := Lib.hid (H2.out.dtake (m := T) (D' := l) HLE.out HL.out (by rw [← HL.out]; exact take_tail2 x y l) (by omega))
    have HRR := Lib.hid (show stBin s c = (bin c y x).map fun v => { s with data := v :: l } by unfold stBin; rw [hD]; simp only []; cases bin c y x <;> rfl)
    obtain ⟨r, hr⟩ : ∃ r, r = bin c y x := ⟨_, rfl⟩
    rw [← hr] at HOP HRR
    clear ho1 hD hr
    unfold isBin at hb
    have hw1 : IntKind.i64.wrap (T : Int) = (T : Int) := IntWalk.i64_in _ (by omega)
    have hw2 : IntKind.i64.wrap ((T : Int) + 1) = (T : Int) + 1 := IntWalk.i64_in _ (by omega)
    have hw3 : IntKind.i64.wrap ((T : Int) + 1 - 1) = (T : Int) := IntWalk.i64_in _ (by omega) |>.trans (by omega)
    have hw4 : IntKind.i64.wrap ((T : Int) + 2 - 1) = (T : Int) + 1 := IntWalk.i64_in _ (by omega) |>.trans (by omega)
    have hw5 : IntKind.i64.wrap ((T : Int) + 2 - 2) = (T : Int) := IntWalk.i64_in _ (by omega) |>.trans (by omega)
    cases r with
    | none =>
      rcases hb with rfl | rfl | rfl | rfl | rfl | rfl | rfl
      all_goals
      go_enter Try.func20, Try.ntmps20
      go_wp2_with fail
      go_quiet ((go_at_call 38; exact Calls.quiet_of_same (HOP.out _)))
      go_wp2_with fail
      go_ret
      exact rgoes_no HRR.out ⟨s, HMR.out.drewN _, rfl⟩
    | some v =>
      have HOW := Lib.hid HTK.out.d
      rcases hb with rfl | rfl | rfl | rfl | rfl | rfl | rfl
      all_goals
      go_enter Try.func20, Try.ntmps20
      go_wp2_with fail
      go_quiet ((go_at_call 38; exact Calls.quiet_of_same (HOP.out _)))
      clear hw1 hw2 hw3 hw4 hw5
      go_wp2_with (at_builtin; refine wpl_push ty_u32 rfl _ _ rfl w0.heap.size (.slice (some ⟨kb, 0, none⟩) T cd) T (iv l.reverse) rfl (own_alloc (show (W.drewN nq).ownsRow _ _ _ _ T _ by have := HOW.out; rwa [HL.out] at this) _) _ (.int .u32 v) rfl (Blk.new _ _ _) rfl (Nat.le_trans hsz (by simp)) (by unfold maxLen; omega) (by omega) ?_; intro v8 w8 hown8 hgrow8 hv8; obtain ⟨A8, c8, rfl, _, _⟩ := own_form hown8; have hb8 := ((H1.out.drewN nq).alloc _).grown hgrow8 (fun e => ((H2.out.nd _ e.symm).1 rfl)); have hp8 := ((HTK.out.drewN nq).alloc _).gd (D' := v :: l) (by rw [List.reverse_cons, iv_app, List.length_cons, HL.out]; exact hown8) hgrow8 hv8; have hc8 := hb8.cell 2; have hf8 := hb8.frozen 2; rw [show (rcells gm s.pc (.slice (some ⟨kb, 0, none⟩) (T + 2) cd) vc A ni ci vo s.digit)[2]? = some (.slice (some ⟨kb, 0, none⟩) (T + 2) cd) from rfl] at hc8; have HB8 := Lib.hid hb8; have HP8 := Lib.hid hp8; clear hown8 hgrow8 hv8 hb8 hp8)
      go_ret
      exact rgoes_yes HRR.out (MR.mk_ (s := { s with data := v :: l }) (HB8.out.set_ 2 _) (HP8.out.setG 2 _) H3.out)

set_option maxRecDepth 100000 in
set_option maxHeartbeats 4000000 in
theorem rs_none (h : MR fix w0 W g s) (hm : s.data.length ≤ 256) {c : Int} (hd : ¬ isDig c) (hb : ¬ isBin c) (hc : ¬ (c = 32 ∨ c = 10 ∨ c = 64 ∨ c = 33 ∨ c = 63 ∨ c = 58 ∨ c = 59 ∨ c = 44 ∨ c = 46)) :
    Calls Try.prog 20 #[.pointer (some ⟨g, 0, none⟩), .int .u32 c] W (RGoes fix w0 g s.out none) := by
  obtain ⟨Ad, cd, hc2⟩ := h.dAt
  obtain ⟨L, hL⟩ : ∃ L, L = s.data.length := ⟨_, rfl⟩
  have HL := Lib.hid hL
  rw [← hL] at hc2 hm
  have H := Lib.hid h
  clear hL
  have ne : ∀ j : Int, c ≠ j → (c == j) = false := fun j h => by simp [h]
  unfold isDig at hd
  unfold isBin at hb
  have e32 : (c == 32) = false := ne 32 (by omega)
  have e10 : (c == 10) = false := ne 10 (by omega)
  have e43 : (c == 43) = false := ne 43 (by omega)
  have e45 : (c == 45) = false := ne 45 (by omega)
  have e42 : (c == 42) = false := ne 42 (by omega)
  have e47 : (c == 47) = false := ne 47 (by omega)
  have e37 : (c == 37) = false := ne 37 (by omega)
  have e94 : (c == 94) = false := ne 94 (by omega)
  have e60 : (c == 60) = false := ne 60 (by omega)
  have e64 : (c == 64) = false := ne 64 (by omega)
  have e33 : (c == 33) = false := ne 33 (by omega)
  have e63 : (c == 63) = false := ne 63 (by omega)
  have e58 : (c == 58) = false := ne 58 (by omega)
  have e59 : (c == 59) = false := ne 59 (by omega)
  have e44 : (c == 44) = false := ne 44 (by omega)
  have e46 : (c == 46) = false := ne 46 (by omega)
  clear h hb hc ne
  by_cases h48 : 48 ≤ c
  · have d1 : decide (48 ≤ c) = true := by simpa using h48
    have d2 : decide (c ≤ 57) = false := by simp; omega
    clear hd h48
    go_enter Try.func20, Try.ntmps20
    go_wp2_with fail
    go_ret
    exact rgoes_no rfl ⟨s, H.out, rfl⟩
  · have d1 : decide (48 ≤ c) = false := by simp; omega
    clear hd h48
    go_enter Try.func20, Try.ntmps20
    go_wp2_with fail
    go_ret
    exact rgoes_no rfl ⟨s, H.out, rfl⟩

end
end Mc
end Go.Proofs.Ytfjjdogjihpbnaa
