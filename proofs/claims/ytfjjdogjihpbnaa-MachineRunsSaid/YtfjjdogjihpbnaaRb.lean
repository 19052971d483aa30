/- Walks of the reference's step, instruction by instruction (first part). -/
import Derived.Test.YtfjjdogjihpbnaaRa
import Derived.StillTailTactics
import Derived.Deep.QuietTactic
import Derived.BigQuiet
namespace Go.Proofs.Ytfjjdogjihpbnaa
open Go.RowKit
set_option linter.unusedVariables false
namespace Mc
section
variable {fix : List (Nat × Obj)} {w0 W : World} {g : Nat} {s : St}

set_option maxRecDepth 100000 in
set_option maxHeartbeats 4000000 in
theorem rs_space (h : MR fix w0 W g s) (hm : s.data.length ≤ 256) {c : Int} (hc : c = 32 ∨ c = 10) :
    Calls Try.prog 20 #[.pointer (some ⟨g, 0, none⟩), .int .u32 c] W (RGoes fix w0 g s.out (some s)) := by
  obtain ⟨Ad, cd, hc2⟩ := h.dAt
  obtain ⟨L, hL⟩ : ∃ L, L = s.data.length := ⟨_, rfl⟩
  have HL := Lib.hid hL
  rw [← hL] at hc2 hm
  have H := Lib.hid h
  clear hL
  clear h
  rcases hc with rfl | rfl
  all_goals
    go_enter Try.func20, Try.ntmps20
    go_wp2_with fail
    go_ret
    exact rgoes_yes rfl H.out

set_option maxRecDepth 100000 in
set_option maxHeartbeats 4000000 in
theorem rs_digp (h : MR fix w0 W g s) (hd : s.digit = false) (hm : s.data.length ≤ 256) {c : Int} (hc : isDig c) :
    Calls Try.prog 20 #[.pointer (some ⟨g, 0, none⟩), .int .u32 c] W (RGoes fix w0 g s.out (psh s (c - 48))) := by
  have h6 := h.digAt
  rw [hd] at h6
  have HP := Lib.hid (rpush h hm (c - 48))
  obtain ⟨Ad, cd, hc2⟩ := h.dAt
  obtain ⟨L, hL⟩ : ∃ L, L = s.data.length := ⟨_, rfl⟩
  have HL := Lib.hid hL
  rw [← hL] at hc2 hm
  have H := Lib.hid h
  clear hL
  obtain ⟨hd0, hd1⟩ := hc
  have hdt : decide (48 ≤ c) = true := by simpa using hd0
  have hdt2 : decide (c ≤ 57) = true := by simpa using hd1
  clear h hd
  go_enter Try.func20, Try.ntmps20
  go_wp2_with fail
  refine HP.out.mono ?_
  intro e w' hg
  rcases rgoes_cases hg with ⟨t, hr, rfl, ht⟩ | ⟨hr, rfl, ht⟩
  · clear hg
    go_wp2_with fail
    go_ret
    exact rgoes_yes (hr.out) ht.out
  · clear hg
    go_wp2_with fail
    go_ret
    exact rgoes_no (hr.out) ht.out

set_option maxRecDepth 100000 in
set_option maxHeartbeats 4000000 in
theorem rs_digm (h : MR fix w0 W g s) (hd : s.digit = true) (hm : s.data.length ≤ 256) {x : Int} {l : List Int} (hD : s.data = x :: l) (hxw : W32 x) {c : Int} (hc : isDig c) :
    Calls Try.prog 20 #[.pointer (some ⟨g, 0, none⟩), .int .u32 c] W (RGoes fix w0 g s.out (some { s with data := u32 (u32 (u32 (x * 10) + c) - 48) :: l })) := by
  obtain ⟨gm, vd, vc, vo, A, ni, ci, h1, h2, h3⟩ := h
  rw [hD] at h2 hm
  obtain ⟨Ad, cd, rfl, hdc, hdm⟩ := own_sl h2.d
  obtain ⟨kb, rfl, hL, hcx, hfx, _⟩ := own_top h2.d
  obtain ⟨T, hl⟩ : ∃ T, l.length = T := ⟨_, rfl⟩
  have hLe : T + 1 = (x :: l).length := by rw [List.length_cons, hl]
  rw [← hLe] at h1 h2 hm hdc
  rw [hl] at hcx hfx
  unfold V at hcx
  have H1 := Lib.hid h1
  have H2 := Lib.hid h2
  have H3 := Lib.hid h3
  have HL := Lib.hid hl
  have HLE := Lib.hid hLe
  have hc2 := H1.out.cell 2
  rw [show (rcells gm s.pc (.slice (some ⟨kb, 0, none⟩) (T + 1) cd) vc A ni ci vo s.digit)[2]? = some (.slice (some ⟨kb, 0, none⟩) (T + 1) cd) from rfl] at hc2
  have hf2 := H1.out.frozen 2
  have hr2 : (0 : Int) ≤ (T : Int) := by omega
  have hr3 : (T : Int) < (T : Int) + 1 := by omega
  have hdt1 : decide ((T : Int) + 1 < 1) = false := by simp; omega
  unfold maxLen at hdm
  clear h1 h2 h3 hl hLe hL
  have h6 := H1.out.cell 6
  rw [show (rcells gm s.pc (.slice (some ⟨kb, 0, none⟩) (T + 1) cd) vc A ni ci vo s.digit)[6]? = some (.bool s.digit) from rfl, hd] at h6
  have hx1 := hxw.1
  have hx2 := hxw.2
  obtain ⟨hd0, hd1⟩ := hc
  have hdt : decide (48 ≤ c) = true := by simpa using hd0
  have hdt2 : decide (c ≤ 57) = true := by simpa using hd1
  clear hD hd hxw
  have hw1 : IntKind.i64.wrap (T : Int) = (T : Int) := IntWalk.i64_in _ (by omega)
  have hw2 : IntKind.i64.wrap ((T : Int) + 1) = (T : Int) + 1 := IntWalk.i64_in _ (by omega)
  have hw3 : IntKind.i64.wrap ((T : Int) + 1 - 1) = (T : Int) := IntWalk.i64_in _ (by omega) |>.trans (by omega)
  have hw4 : IntKind.i64.wrap ((T : Int) + 2 - 1) = (T : Int) + 1 := IntWalk.i64_in _ (by omega) |>.trans (by omega)
  have hw5 : IntKind.i64.wrap ((T : Int) + 2 - 2) = (T : Int) := IntWalk.i64_in _ (by omega) |>.trans (by omega)
  go_enter Try.func20, Try.ntmps20
  go_wp2_with fail
  refine wp_region_still_tail 19 (by kernel_rfl) (by kernel_rfl) ?_
  simp only [List.take_succ_cons, List.take_zero, List.drop_succ_cons, List.drop_zero]
  repeat still_step
  refine wpStill_nil ?_
  change wpList _ _ _ _ _ W.drew
  clear hw1 hw2 hw3 hw4 hw5
  go_wp2_with fail
  go_ret
  exact rgoes_yes rfl (MR.mk_ (H1.out.far (p := ⟨kb, T, none⟩) (fun e => (H2.out.nd _ rfl).1 e.symm) _).drew (H2.out.dset HL.out _).drew H3.out)

set_option maxRecDepth 100000 in
set_option maxHeartbeats 4000000 in
theorem rs_back (h : MR fix w0 W g s) (hm : s.data.length ≤ 256) (hk : s.calls.length ≤ 64) :
    Calls Try.prog 20 #[.pointer (some ⟨g, 0, none⟩), .int .u32 59] W (RGoes fix w0 g s.out (stBack s)) := by
  obtain ⟨Ad, cd, hc2⟩ := h.dAt
  obtain ⟨L, hL⟩ : ∃ L, L = s.data.length := ⟨_, rfl⟩
  rw [← hL] at hc2 hm
  clear hL
  cases hC : s.calls with
  | nil =>
    have HR := Lib.hid (show stBack s = none by unfold stBack; rw [hC])
    obtain ⟨A, c, hc3⟩ := h.cAt
    rw [hC] at hc3
    have H := Lib.hid h
    clear h hC hk
    go_enter Try.func20, Try.ntmps20
    go_wp2_with fail
    go_ret
    exact rgoes_no HR.out ⟨s, H.out, rfl⟩
  | cons p l =>
    have HR := Lib.hid (show stBack s = some { s with pc := p, calls := l } by unfold stBack; rw [hC])
    obtain ⟨gm, vd, vc, vo, A, ni, ci, h1, h2, h3⟩ := h
    rw [hC] at h2 hk
    obtain ⟨Ac, cc, rfl, hdc, hdm⟩ := own_sl h2.c
    obtain ⟨kb, rfl, hL, hcx, hfx, _⟩ := own_top h2.c
    obtain ⟨T, hl⟩ : ∃ T, l.length = T := ⟨_, rfl⟩
    have hLe : T + 1 = (p :: l).length := by rw [List.length_cons, hl]
    rw [← hLe] at h1 h2 hk hdc
    rw [hl] at hcx hfx
    unfold V at hcx
    have hkg : kb ≠ g := (h2.nc _ rfl).1
    have H1 := Lib.hid h1
    have H2 := Lib.hid h2
    have H3 := Lib.hid h3
    have HL := Lib.hid hl
    have HLE := Lib.hid hLe
    have hc3 := H1.out.cell 3
    rw [show (rcells gm s.pc vd (.slice (some ⟨kb, 0, none⟩) (T + 1) cc) A ni ci vo s.digit)[3]? = some (.slice (some ⟨kb, 0, none⟩) (T + 1) cc) from rfl] at hc3
    have hc1 := H1.out.cell 1
    rw [show (rcells gm s.pc vd (.slice (some ⟨kb, 0, none⟩) (T + 1) cc) A ni ci vo s.digit)[1]? = some (.int .u32 s.pc) from rfl] at hc1
    have hf1 := H1.out.frozen 1
    have hf3 := H1.out.frozen 3
    have hr2 : (0 : Int) ≤ (T : Int) := by omega
    have hr3 : (T : Int) < (T : Int) + 1 := by omega
    have hdt : decide ((T : Int) + 1 < 1) = false := by simp; omega
    unfold maxLen at hdm
    clear h1 h2 h3 hl hLe hL hC
    go_enter Try.func20, Try.ntmps20
    go_wp2_with fail
    go_ret
    exact rgoes_yes HR.out (MR.mk_ (s := { s with pc := p, calls := l }) ((H1.out.set_ 1 _).set_ 3 _) (((H2.out.setG 1 _).setG 3 _).ctake (m := T) (D' := l) HLE.out HL.out (by rw [← HL.out]; exact take_tail p l) (by omega)) H3.out)

set_option maxRecDepth 100000 in
set_option maxHeartbeats 4000000 in
theorem rs_read (h : MR fix w0 W g s) (hm : s.data.length ≤ 256) :
    Calls Try.prog 20 #[.pointer (some ⟨g, 0, none⟩), .int .u32 44] W (RGoes fix w0 g s.out (stRead s)) := by
  obtain ⟨Ad, cd, hc2⟩ := h.dAt
  obtain ⟨L, hL⟩ : ∃ L, L = s.data.length := ⟨_, rfl⟩
  rw [← hL] at hc2
  have hm0 : L ≤ 256 := by rw [hL]; exact hm
  have HMR := Lib.hid h
  clear hL
  obtain ⟨gm, vd, vc, vo, A, ni, ci, h1, h2, h3⟩ := h
  have hni : ni = s.input.length := by have := h3.2.2.1; rw [iv_len] at this; omega
  have hnc : ni ≤ ci := h3.1
  have hcm : ci ≤ 9223372036854775807 := h3.2.1
  have HM := Lib.hid hm
  have hc4 := h1.cell 4
  rw [show (rcells gm s.pc vd vc A ni ci vo s.digit)[4]? = some (.slice A ni ci) from rfl] at hc4
  cases hI : s.input with
  | nil =>
    have HR := Lib.hid (show stRead s = psh s 4294967295 by unfold stRead; rw [hI])
    rw [hI] at hni
    obtain rfl : ni = 0 := hni
    have HP := Lib.hid (rpush HMR.out hm 4294967295)
    clear h1 h2 h3 hm hI
    go_enter Try.func20, Try.ntmps20
    go_wp2_with fail
    refine HP.out.mono ?_
    intro e w' hg
    rcases rgoes_cases hg with ⟨t, hr, rfl, ht⟩ | ⟨hr, rfl, ht⟩
    · clear hg
      go_wp2_with fail
      go_ret
      exact rgoes_yes (HR.out.trans hr.out) ht.out
    · clear hg
      go_wp2_with fail
      go_ret
      exact rgoes_no (HR.out.trans hr.out) ht.out
  | cons x l =>
    have HR := Lib.hid (show stRead s = (psh s x).map fun t => { t with input := l } by unfold stRead; rw [hI]; unfold psh; by_cases h9 : s.data.length < 256 <;> simp [h9])
    rw [hI] at hni h3
    obtain ⟨T, hT⟩ : ∃ T, T = l.length := ⟨_, rfl⟩
    obtain rfl : ni = T + 1 := by rw [hni, hT]; rfl
    obtain ⟨ad, u, rfl, _, hu, hcu⟩ := (h3.below h2.bel).at_ (k := 0) (by omega)
    obtain rfl : u = .int .u32 x := by simpa [iv, V] using hu.symm
    rw [show ad.add 0 = ad from rfl] at hcu
    have HI := Lib.hid hI
    have HT := Lib.hid hT
    have HP := Lib.hid (rpush HMR.out hm x)
    have hne : ((T : Int) + 1 == 0) = false := by simp; omega
    clear h1 h2 h3 hm hI hni hu hT
    go_enter Try.func20, Try.ntmps20
    go_wp2_with fail
    refine HP.out.mono ?_
    intro e w' hg
    rcases rgoes_cases hg with ⟨t, hr, rfl, ht⟩ | ⟨hr, rfl, ht⟩
    · obtain ⟨_, ht2⟩ := psh_some hr.out
      obtain ⟨gm2, vd2, vc2, vo2, A2, ni2, ci2, k1, k2, k3⟩ := ht.out
      have hti : t.input = x :: l := by rw [ht2]; exact HI.out
      have hni2 : ni2 = T + 1 := by have := k3.2.2.1; rw [iv_len, hti, List.length_cons, ← HT.out] at this; omega
      subst hni2
      have hnc2 : T + 1 ≤ ci2 := k3.1
      have hcm2 : ci2 ≤ 9223372036854775807 := k3.2.1
      rw [hti] at k3
      obtain ⟨ad2, _, hA2, _, _, _⟩ := (k3.below k2.bel).at_ (k := 0) (by omega)
      subst hA2
      have HD := Lib.hid (k3.drop (k := 1) (by omega))
      rw [show (iv (x :: l)).drop (1 * 1) = iv l from rfl] at HD
      have K1 := Lib.hid k1
      have K2 := Lib.hid k2
      have hd4 := k1.cell 4
      rw [show (rcells gm2 t.pc vd2 vc2 (some ad2) (T + 1) ci2 vo2 t.digit)[4]? = some (.slice (some ad2) (T + 1) ci2) from rfl] at hd4
      have hf4 := k1.frozen 4
      have HR2 := Lib.hid (show stRead s = some { t with input := l } by rw [HR.out, hr.out]; rfl)
      clear hg ht2 k1 k2 k3 hti
      by_cases hc : ci2 = 1
      · subst hc
        obtain rfl : T = 0 := by omega
        go_wp2_with fail
        go_ret
        exact rgoes_yes HR2.out (MR.mk_ (s := { t with input := l }) (K1.out.set_ 4 (.slice (some ad2) 0 0)) (K2.out.setG 4 _) HD.out)
      · rw [if_neg hc] at HD
        go_wp2_with fail
        go_ret
        exact rgoes_yes HR2.out (MR.mk_ (s := { t with input := l }) (K1.out.set_ 4 (.slice (some (ad2.add 1)) T (ci2 - 1))) (K2.out.setG 4 _) HD.out)
    · clear hg
      go_wp2_with fail
      go_ret
      exact rgoes_no (by rw [HR.out, hr.out]; rfl) ht.out

end
end Mc
end Go.Proofs.Ytfjjdogjihpbnaa
