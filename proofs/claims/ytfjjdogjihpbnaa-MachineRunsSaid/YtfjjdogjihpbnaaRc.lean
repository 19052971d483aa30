/- Walks of the reference's step, instruction by instruction (second part). -/
import Derived.Test.YtfjjdogjihpbnaaRb
import Derived.Test.YtfjjdogjihpbnaaOx
import Derived.StillTailTactics
import Derived.Deep.QuietTactic
import Derived.BigQuiet
namespace Go.Proofs.Ytfjjdogjihpbnaa
open Go.RowKit
set_option linter.unusedVariables false
namespace Mc
section
variable {fix : List (Nat × Obj)} {w0 W : World} {g : Nat} {s : St}

set_option maxRecDepth 100000 in
set_option maxHeartbeats 4000000 in
theorem rs_jump (h : MR fix w0 W g s) (hm : s.data.length ≤ 256) (hw : ∀ x ∈ s.data, W32 x) :
    Calls Try.prog 20 #[.pointer (some ⟨g, 0, none⟩), .int .u32 63] W (RGoes fix w0 g s.out (stJump s)) := by
  match hD : s.data with
  | [] =>
    have HR := Lib.hid (show stJump s = none by unfold stJump; rw [hD])
    obtain ⟨Ad, cd, hc2⟩ := h.dAt
    rw [hD] at hc2
    have H := Lib.hid h
    clear h hD hm hw
    go_enter Try.func20, Try.ntmps20
    go_wp2_with fail
    go_ret
    exact rgoes_no HR.out ⟨s, H.out, rfl⟩
  | [x] =>
    have HR := Lib.hid (show stJump s = none by unfold stJump; rw [hD])
    obtain ⟨Ad, cd, hc2⟩ := h.dAt
    rw [hD] at hc2
    have H := Lib.hid h
    clear h hD hm hw
    go_enter Try.func20, Try.ntmps20
    go_wp2_with fail
    go_ret
    exact rgoes_no HR.out ⟨s, H.out, rfl⟩
  | x :: y :: l =>
    have HR := Lib.hid (show stJump s = some { s with pc := if y = 0 then x else s.pc, data := l } by unfold stJump; rw [hD])
    clear hw
    obtain ⟨gm, vd, vc, vo, A, ni, ci, h1, h2, h3⟩ := h
    rw [hD] at h2 hm
    obtain ⟨Ad, cd, rfl, hdc, hdm⟩ := own_sl h2.d
    obtain ⟨kb, rfl, hL, hcx, hfx, _⟩ := own_top h2.d
    obtain ⟨kb2, hk2, hcy, _⟩ := own_snd h2.d
    obtain rfl : kb = kb2 := by simpa using hk2
    obtain ⟨T, hl⟩ : ∃ T, l.length = T := ⟨_, rfl⟩
    have hLe : T + 2 = (x :: y :: l).length := by rw [List.length_cons, List.length_cons, hl]
    rw [← hLe] at h1 h2 hm hdc
    rw [show (y :: l).length = T + 1 by rw [List.length_cons, hl]] at hcx hfx
    rw [hl] at hcy
    unfold V at hcx hcy
    have H1 := Lib.hid h1
    have H2 := Lib.hid h2
    have H3 := Lib.hid h3
    have HL := Lib.hid hl
    have HLE := Lib.hid hLe
    have hc2 := H1.out.cell 2
    rw [show (rcells gm s.pc (.slice (some ⟨kb, 0, none⟩) (T + 2) cd) vc A ni ci vo s.digit)[2]? = some (.slice (some ⟨kb, 0, none⟩) (T + 2) cd) from rfl] at hc2
    have hf2 := H1.out.frozen 2
    have hr2 : (0 : Int) ≤ (T : Int) := by omega
    have hr5 : (0 : Int) ≤ (T : Int) + 1 := by omega
    have hr3 : (T : Int) + 1 < (T : Int) + 2 := by omega
    have hr4 : (T : Int) < (T : Int) + 2 := by omega
    have hdt2 : decide ((T : Int) + 2 < 2) = false := by simp; omega
    unfold maxLen at hdm
    clear h1 h2 h3 hl hLe hL hk2
    have hc1 := H1.out.cell 1
    rw [show (rcells gm s.pc (.slice (some ⟨kb, 0, none⟩) (T + 2) cd) vc A ni ci vo s.digit)[1]? = some (.int .u32 s.pc) from rfl] at hc1
    have hf1 := H1.out.frozen 1
    have hkg : kb ≠ g := (H2.out.nd _ rfl).1
    clear hD
    by_cases hy : y = 0
    · rw [if_pos hy] at HR
      have hy0 : (y == 0) = true := by simp [hy]
      clear hy
      go_enter Try.func20, Try.ntmps20
      go_wp2_with fail
      go_ret
      exact rgoes_yes HR.out (MR.mk_ (s := { s with pc := x, data := l }) ((H1.out.set_ 1 _).set_ 2 _) (((H2.out.setG 1 _).setG 2 _).dtake (m := T) (D' := l) HLE.out HL.out (by rw [← HL.out]; exact take_tail2 x y l) (by omega)) H3.out)
    · rw [if_neg hy] at HR
      have hy0 : (y == 0) = false := by simp [hy]
      clear hy
      go_enter Try.func20, Try.ntmps20
      go_wp2_with fail
      go_ret
      exact rgoes_yes HR.out (MR.mk_ (s := { s with data := l }) (H1.out.set_ 2 _) ((H2.out.setG 2 _).dtake (m := T) (D' := l) HLE.out HL.out (by rw [← HL.out]; exact take_tail2 x y l) (by omega)) H3.out)

set_option maxRecDepth 100000 in
set_option maxHeartbeats 4000000 in
theorem rs_load (h : MR fix w0 W g s) (hm : s.data.length ≤ 256) (hw : ∀ x ∈ s.data, W32 x) :
    Calls Try.prog 20 #[.pointer (some ⟨g, 0, none⟩), .int .u32 64] W (RGoes fix w0 g s.out (stLoad s)) := by
  match hD : s.data with
  | [] =>
    have HR := Lib.hid (show stLoad s = none by unfold stLoad; rw [hD])
    obtain ⟨Ad, cd, hc2⟩ := h.dAt
    rw [hD] at hc2
    have H := Lib.hid h
    clear h hD hm hw
    go_enter Try.func20, Try.ntmps20
    go_wp2_with fail
    go_ret
    exact rgoes_no HR.out ⟨s, H.out, rfl⟩
  | x :: l =>
    have hxw := hw x (by rw [hD]; simp)
    have hx1 := hxw.1
    have hx2 := hxw.2
    by_cases hlt : 262144 ≤ x
    · have HR := Lib.hid (show stLoad s = none by unfold stLoad; rw [hD]; exact if_pos hlt)
      have HMR := Lib.hid h
      have hd9 : decide (262144 ≤ x) = true := by simpa using hlt
      clear hw hxw
      obtain ⟨gm, vd, vc, vo, A, ni, ci, h1, h2, h3⟩ := h
      rw [hD] at h2 hm
      obtain ⟨Ad, cd, rfl, hdc, hdm⟩ := own_sl h2.d
      obtain ⟨kb, rfl, hL, hcx, hfx, _⟩ := own_top h2.d
      obtain ⟨T, hl⟩ : ∃ T, l.length = T := ⟨_, rfl⟩
      have hLe : T + 1 = (x :: l).length := by rw [List.length_cons, hl]
      rw [← hLe] at h1 h2 hm hdc
      rw [hl] at hcx hfx
      unfold V at hcx
      have H1 := Lib.hid h1
      have H2 := Lib.hid h2
      have H3 := Lib.hid h3
      have HL := Lib.hid hl
      have HLE := Lib.hid hLe
      have hc2 := H1.out.cell 2
      rw [show (rcells gm s.pc (.slice (some ⟨kb, 0, none⟩) (T + 1) cd) vc A ni ci vo s.digit)[2]? = some (.slice (some ⟨kb, 0, none⟩) (T + 1) cd) from rfl] at hc2
      have hf2 := H1.out.frozen 2
      have hr2 : (0 : Int) ≤ (T : Int) := by omega
      have hr3 : (T : Int) < (T : Int) + 1 := by omega
      have hdt1 : decide ((T : Int) + 1 < 1) = false := by simp; omega
      unfold maxLen at hdm
      clear h1 h2 h3 hl hLe hL
      clear hD hlt
      go_enter Try.func20, Try.ntmps20
      go_wp2_with fail
      go_ret
      exact rgoes_no HR.out ⟨s, HMR.out, rfl⟩
    · have HR := Lib.hid (show stLoad s = some { s with data := s.mem x.toNat :: l } by unfold stLoad; rw [hD]; exact if_neg hlt)
      have hlt2 : x < 262144 := by omega
      have hd9 : decide (262144 ≤ x) = false := by simpa using hlt
      have HMR := Lib.hid h
      clear hw hxw
      obtain ⟨gm, vd, vc, vo, A, ni, ci, h1, h2, h3⟩ := h
      rw [hD] at h2 hm
      obtain ⟨Ad, cd, rfl, hdc, hdm⟩ := own_sl h2.d
      obtain ⟨kb, rfl, hL, hcx, hfx, _⟩ := own_top h2.d
      obtain ⟨T, hl⟩ : ∃ T, l.length = T := ⟨_, rfl⟩
      have hLe : T + 1 = (x :: l).length := by rw [List.length_cons, hl]
      rw [← hLe] at h1 h2 hm hdc
      rw [hl] at hcx hfx
      unfold V at hcx
      have H1 := Lib.hid h1
      have H2 := Lib.hid h2
      have H3 := Lib.hid h3
      have HL := Lib.hid hl
      have HLE := Lib.hid hLe
      have hc2 := H1.out.cell 2
      rw [show (rcells gm s.pc (.slice (some ⟨kb, 0, none⟩) (T + 1) cd) vc A ni ci vo s.digit)[2]? = some (.slice (some ⟨kb, 0, none⟩) (T + 1) cd) from rfl] at hc2
      have hf2 := H1.out.frozen 2
      have hr2 : (0 : Int) ≤ (T : Int) := by omega
      have hr3 : (T : Int) < (T : Int) + 1 := by omega
      have hdt1 : decide ((T : Int) + 1 < 1) = false := by simp; omega
      unfold maxLen at hdm
      clear h1 h2 h3 hl hLe hL
      have hc0 := H1.out.cell 0
      rw [show (rcells gm s.pc (.slice (some ⟨kb, 0, none⟩) (T + 1) cd) vc A ni ci vo s.digit)[0]? = some (.slice (some ⟨gm, 0, none⟩) 262144 262144) from rfl] at hc0
      have hwd := (HMR.out.word hc0 (a := x.toNat) (by omega)).1
      have hS0 : W.drew.cell? ⟨g, 0, none⟩ = some (.slice (some ⟨gm, 0, none⟩) 262144 262144) ∧ W.drew.cell? ⟨g, 2, none⟩ = some (.slice (some ⟨kb, 0, none⟩) (T + 1) cd) ∧ W.drew.cell? ⟨kb, T, none⟩ = some (.int .u32 x) ∧ W.drew.cell? ⟨gm, x.toNat, none⟩ = some (.int .u32 (s.mem x.toNat)) := ⟨hc0, hc2, hcx, hwd⟩
      clear hD hlt
      have hw1 : IntKind.i64.wrap (T : Int) = (T : Int) := IntWalk.i64_in _ (by omega)
      have hw2 : IntKind.i64.wrap ((T : Int) + 1) = (T : Int) + 1 := IntWalk.i64_in _ (by omega)
      have hw3 : IntKind.i64.wrap ((T : Int) + 1 - 1) = (T : Int) := IntWalk.i64_in _ (by omega) |>.trans (by omega)
      have hw4 : IntKind.i64.wrap ((T : Int) + 2 - 1) = (T : Int) + 1 := IntWalk.i64_in _ (by omega) |>.trans (by omega)
      have hw5 : IntKind.i64.wrap ((T : Int) + 2 - 2) = (T : Int) := IntWalk.i64_in _ (by omega) |>.trans (by omega)
      go_enter Try.func20, Try.ntmps20
      go_wp2_with fail
      refine wp_region_X (fun V => V.cell? ⟨g, 0, none⟩ = some (.slice (some ⟨gm, 0, none⟩) 262144 262144) ∧ V.cell? ⟨g, 2, none⟩ = some (.slice (some ⟨kb, 0, none⟩) (T + 1) cd) ∧ V.cell? ⟨kb, T, none⟩ = some (.int .u32 x) ∧ V.cell? ⟨gm, x.toNat, none⟩ = some (.int .u32 (s.mem x.toNat))) 21 (by kernel_rfl) ?_
      show wpAnyX _ _ _ _ _ _ 22 _ _ _
      refine wpAnyX_pure (i := 0) (v := ?_) rfl (by kernel_rfl) (by kernel_rfl) (by kernel_rfl) (by kernel_rfl) (by kernel_rfl) (fun _ _ _ h => h) (Or.inl ⟨by rfl, ?_⟩) (fun _ => by exact hS0) ?_
      rotate_left
      · intro w hSw; (try dsimp only at hSw); go_simp; (try with_reducible rfl)
      try simp only [List.getElem_toArray, List.getElem_cons_zero, Act.put, List.setIfInBounds_toArray, List.set_cons_zero, List.set_cons_succ]
      refine wpAnyX_pure (i := 1) (v := ?_) rfl (by kernel_rfl) (by kernel_rfl) (by kernel_rfl) (by kernel_rfl) (by kernel_rfl) (fun _ _ _ h => h) (Or.inl ⟨by rfl, ?_⟩) (fun _ => by exact hS0) ?_
      rotate_left
      · intro w hSw; (try dsimp only at hSw); go_simp; (try with_reducible rfl)
      try simp only [List.getElem_toArray, List.getElem_cons_zero, List.getElem_cons_succ, Act.put, List.setIfInBounds_toArray, List.set_cons_zero, List.set_cons_succ]
      refine wpAnyX_pure (i := 2) (v := ?_) rfl (by kernel_rfl) (by kernel_rfl) (by kernel_rfl) (by kernel_rfl) (by kernel_rfl) (fun _ _ _ h => h) (Or.inl ⟨by rfl, ?_⟩) (fun _ => by exact hS0) ?_
      rotate_left
      · intro w hSw; (try dsimp only at hSw); go_simp; (try with_reducible rfl)
      try simp only [List.getElem_toArray, List.getElem_cons_zero, List.getElem_cons_succ, Act.put, List.setIfInBounds_toArray, List.set_cons_zero, List.set_cons_succ]
      refine wpAnyX_take (i := 3) (v := ?_) rfl (by kernel_rfl) (by kernel_rfl) (by kernel_rfl) (by kernel_rfl) (by kernel_rfl) (fun _ _ _ h => h) (Or.inl ⟨by rfl, ?_⟩) (by exact hS0) ?_
      rotate_left
      · intro w hSw; (try dsimp only at hSw); go_simp; (try with_reducible rfl)
      try simp only [List.getElem_toArray, List.getElem_cons_zero, List.getElem_cons_succ, Act.put, List.setIfInBounds_toArray, List.set_cons_zero, List.set_cons_succ]
      refine wpAnyX_pure (i := 4) (v := ?_) rfl (by kernel_rfl) (by kernel_rfl) (by kernel_rfl) (by kernel_rfl) (by kernel_rfl) (fun _ _ _ h => h) (Or.inl ⟨by rfl, ?_⟩) (fun _ => by exact hS0) ?_
      rotate_left
      · intro w hSw; (try dsimp only at hSw); go_simp; (try with_reducible rfl)
      try simp only [List.getElem_toArray, List.getElem_cons_zero, List.getElem_cons_succ, Act.put, List.setIfInBounds_toArray, List.set_cons_zero, List.set_cons_succ]
      refine wpAnyX_pure (i := 5) (v := ?_) rfl (by kernel_rfl) (by kernel_rfl) (by kernel_rfl) (by kernel_rfl) (by kernel_rfl) (fun _ _ _ h => h) (Or.inl ⟨by rfl, ?_⟩) (fun _ => by exact hS0) ?_
      rotate_left
      · intro w hSw; (try dsimp only at hSw); go_simp; (try with_reducible rfl)
      try simp only [List.getElem_toArray, List.getElem_cons_zero, List.getElem_cons_succ, Act.put, List.setIfInBounds_toArray, List.set_cons_zero, List.set_cons_succ]
      refine wpAnyX_pure (i := 6) (v := ?_) rfl (by kernel_rfl) (by kernel_rfl) (by kernel_rfl) (by kernel_rfl) (by kernel_rfl) (fun _ _ _ h => h) (Or.inl ⟨by rfl, ?_⟩) (fun _ => by exact hS0) ?_
      rotate_left
      · intro w hSw; (try dsimp only at hSw); go_simp; (try with_reducible rfl)
      try simp only [List.getElem_toArray, List.getElem_cons_zero, List.getElem_cons_succ, Act.put, List.setIfInBounds_toArray, List.set_cons_zero, List.set_cons_succ]
      refine wpAnyX_pure (i := 7) (v := ?_) rfl (by kernel_rfl) (by kernel_rfl) (by kernel_rfl) (by kernel_rfl) (by kernel_rfl) (fun _ _ _ h => h) (Or.inl ⟨by rfl, ?_⟩) (fun _ => by exact hS0) ?_
      rotate_left
      · intro w hSw; (try dsimp only at hSw); go_simp; (try with_reducible rfl)
      try simp only [List.getElem_toArray, List.getElem_cons_zero, List.getElem_cons_succ, Act.put, List.setIfInBounds_toArray, List.set_cons_zero, List.set_cons_succ]
      refine wpAnyX_pure (i := 8) (v := ?_) rfl (by kernel_rfl) (by kernel_rfl) (by kernel_rfl) (by kernel_rfl) (by kernel_rfl) (fun _ _ _ h => h) (Or.inl ⟨by rfl, ?_⟩) (fun _ => by exact hS0) ?_
      rotate_left
      · intro w hSw; (try dsimp only at hSw); go_simp; (try with_reducible rfl)
      try simp only [List.getElem_toArray, List.getElem_cons_zero, List.getElem_cons_succ, Act.put, List.setIfInBounds_toArray, List.set_cons_zero, List.set_cons_succ]
      refine wpAnyX_take (i := 9) (v := ?_) rfl (by kernel_rfl) (by kernel_rfl) (by kernel_rfl) (by kernel_rfl) (by kernel_rfl) (fun _ _ _ h => h) (Or.inl ⟨by rfl, ?_⟩) (by exact hS0) ?_
      rotate_left
      · intro w hSw; (try dsimp only at hSw); go_simp; (try with_reducible rfl)
      try simp only [List.getElem_toArray, List.getElem_cons_zero, List.getElem_cons_succ, Act.put, List.setIfInBounds_toArray, List.set_cons_zero, List.set_cons_succ]
      refine wpAnyX_pure (i := 10) (v := ?_) rfl (by kernel_rfl) (by kernel_rfl) (by kernel_rfl) (by kernel_rfl) (by kernel_rfl) (fun _ _ _ h => h) (Or.inl ⟨by rfl, ?_⟩) (fun _ => by exact hS0) ?_
      rotate_left
      · intro w hSw; (try dsimp only at hSw); go_simp; (try with_reducible rfl)
      try simp only [List.getElem_toArray, List.getElem_cons_zero, List.getElem_cons_succ, Act.put, List.setIfInBounds_toArray, List.set_cons_zero, List.set_cons_succ]
      refine wpAnyX_pure (i := 11) (v := ?_) rfl (by kernel_rfl) (by kernel_rfl) (by kernel_rfl) (by kernel_rfl) (by kernel_rfl) (fun _ _ _ h => h) (Or.inl ⟨by rfl, ?_⟩) (fun _ => by exact hS0) ?_
      rotate_left
      · intro w hSw; (try dsimp only at hSw); go_simp; (try with_reducible rfl)
      try simp only [List.getElem_toArray, List.getElem_cons_zero, List.getElem_cons_succ, Act.put, List.setIfInBounds_toArray, List.set_cons_zero, List.set_cons_succ]
      refine wpAnyX_pure (i := 12) (v := ?_) rfl (by kernel_rfl) (by kernel_rfl) (by kernel_rfl) (by kernel_rfl) (by kernel_rfl) (fun _ _ _ h => h) (Or.inl ⟨by rfl, ?_⟩) (fun _ => by exact hS0) ?_
      rotate_left
      · intro w hSw; (try dsimp only at hSw); go_simp; (try with_reducible rfl)
      try simp only [List.getElem_toArray, List.getElem_cons_zero, List.getElem_cons_succ, Act.put, List.setIfInBounds_toArray, List.set_cons_zero, List.set_cons_succ]
      refine wpAnyX_take (i := 13) (v := ?_) rfl (by kernel_rfl) (by kernel_rfl) (by kernel_rfl) (by kernel_rfl) (by kernel_rfl) (fun _ _ _ h => h) (Or.inl ⟨by rfl, ?_⟩) (by exact hS0) ?_
      rotate_left
      · intro w hSw; (try dsimp only at hSw); go_simp; (try with_reducible rfl)
      try simp only [List.getElem_toArray, List.getElem_cons_zero, List.getElem_cons_succ, Act.put, List.setIfInBounds_toArray, List.set_cons_zero, List.set_cons_succ]
      refine wpAnyX_pure (i := 14) (v := ?_) rfl (by kernel_rfl) (by kernel_rfl) (by kernel_rfl) (by kernel_rfl) (by kernel_rfl) (fun _ _ _ h => h) (Or.inl ⟨by rfl, ?_⟩) (fun _ => by exact hS0) ?_
      rotate_left
      · intro w hSw; (try dsimp only at hSw); go_simp; (try with_reducible rfl)
      try simp only [List.getElem_toArray, List.getElem_cons_zero, List.getElem_cons_succ, Act.put, List.setIfInBounds_toArray, List.set_cons_zero, List.set_cons_succ]
      refine wpAnyX_pure (i := 15) (v := ?_) rfl (by kernel_rfl) (by kernel_rfl) (by kernel_rfl) (by kernel_rfl) (by kernel_rfl) (fun _ _ _ h => h) (Or.inl ⟨by rfl, ?_⟩) (fun _ => by exact hS0) ?_
      rotate_left
      · intro w hSw; (try dsimp only at hSw); go_simp; (try with_reducible rfl)
      try simp only [List.getElem_toArray, List.getElem_cons_zero, List.getElem_cons_succ, Act.put, List.setIfInBounds_toArray, List.set_cons_zero, List.set_cons_succ]
      refine wpAnyX_pure (i := 16) (v := ?_) rfl (by kernel_rfl) (by kernel_rfl) (by kernel_rfl) (by kernel_rfl) (by kernel_rfl) (fun _ _ _ h => h) (Or.inl ⟨by rfl, ?_⟩) (fun _ => by exact hS0) ?_
      rotate_left
      · intro w hSw; (try dsimp only at hSw); go_simp; (try with_reducible rfl)
      try simp only [List.getElem_toArray, List.getElem_cons_zero, List.getElem_cons_succ, Act.put, List.setIfInBounds_toArray, List.set_cons_zero, List.set_cons_succ]
      refine wpAnyX_take (i := 17) (v := ?_) rfl (by kernel_rfl) (by kernel_rfl) (by kernel_rfl) (by kernel_rfl) (by kernel_rfl) (fun _ _ _ h => h) (Or.inl ⟨by rfl, ?_⟩) (by exact hS0) ?_
      rotate_left
      · intro w hSw; (try dsimp only at hSw); go_simp; (try with_reducible rfl)
      try simp only [List.getElem_toArray, List.getElem_cons_zero, List.getElem_cons_succ, Act.put, List.setIfInBounds_toArray, List.set_cons_zero, List.set_cons_succ]
      refine wpAnyX_pure (i := 18) (v := ?_) rfl (by kernel_rfl) (by kernel_rfl) (by kernel_rfl) (by kernel_rfl) (by kernel_rfl) (fun _ _ _ h => h) (Or.inl ⟨by rfl, ?_⟩) (fun _ => by exact hS0) ?_
      rotate_left
      · intro w hSw; (try dsimp only at hSw); go_simp; (try with_reducible rfl)
      try simp only [List.getElem_toArray, List.getElem_cons_zero, List.getElem_cons_succ, Act.put, List.setIfInBounds_toArray, List.set_cons_zero, List.set_cons_succ]
      refine wpAnyX_take (i := 19) (v := ?_) rfl (by kernel_rfl) (by kernel_rfl) (by kernel_rfl) (by kernel_rfl) (by kernel_rfl) (fun _ _ _ h => h) (Or.inl ⟨by rfl, ?_⟩) (by exact hS0) ?_
      rotate_left
      · intro w hSw; (try dsimp only at hSw); go_simp; (try with_reducible rfl)
      try simp only [List.getElem_toArray, List.getElem_cons_zero, List.getElem_cons_succ, Act.put, List.setIfInBounds_toArray, List.set_cons_zero, List.set_cons_succ]
      refine wpAnyX_pure (i := 20) (v := ?_) rfl (by kernel_rfl) (by kernel_rfl) (by kernel_rfl) (by kernel_rfl) (by kernel_rfl) (fun _ _ _ h => h) (Or.inl ⟨by rfl, ?_⟩) (fun _ => by exact hS0) ?_
      rotate_left
      · intro w hSw; (try dsimp only at hSw); go_simp; (try with_reducible rfl)
      try simp only [List.getElem_toArray, List.getElem_cons_zero, List.getElem_cons_succ, Act.put, List.setIfInBounds_toArray, List.set_cons_zero, List.set_cons_succ]
      refine wpAnyX_one (i := 21) (by kernel_rfl) rfl (fun K hK => ?_)
      go_simp
      refine hK.out _ _ (fun h => absurd h (by decide)) ?_
      clear hK K
      try simp only [List.getElem_toArray, List.getElem_cons_zero, List.getElem_cons_succ, Act.put, List.setIfInBounds_toArray, List.set_cons_zero, List.set_cons_succ]
      refine wpAnyX_done (by kernel_rfl) ?_ _
      clear hw1 hw2 hw3 hw4 hw5
      go_wp2_with fail
      go_ret
      exact rgoes_yes HR.out (MR.mk_ (s := { s with data := s.mem x.toNat :: l }) (H1.out.far (p := ⟨kb, T, none⟩) (fun e => (H2.out.nd _ rfl).1 e.symm) _).drew (H2.out.dset HL.out _).drew H3.out)

end
end Mc
end Go.Proofs.Ytfjjdogjihpbnaa
