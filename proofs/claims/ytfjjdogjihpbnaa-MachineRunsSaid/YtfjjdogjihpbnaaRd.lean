/- Walks of the reference's step, instruction by instruction (third part). -/
import Derived.Test.YtfjjdogjihpbnaaRb
import Derived.Test.YtfjjdogjihpbnaaOx
import Derived.StillTailTactics
import Derived.Deep.QuietTactic
import Derived.BigQuiet
namespace Go.Proofs.Ytfjjdogjihpbnaa
open Go.RowKit
set_option linter.unusedVariables false
namespace Mc
section
variable {fix : List (Nat × Obj)} {w0 W : World} {g : Nat} {s : St}

set_option maxRecDepth 100000 in
set_option maxHeartbeats 4000000 in
theorem rs_store (h : MR fix w0 W g s) (hm : s.data.length ≤ 256) (hw : ∀ x ∈ s.data, W32 x) :
    Calls Try.prog 20 #[.pointer (some ⟨g, 0, none⟩), .int .u32 33] W (RGoes fix w0 g s.out (stStore s)) := by
  match hD : s.data with
  | [] =>
    have HR := Lib.hid (show stStore s = none by unfold stStore; rw [hD])
    obtain ⟨Ad, cd, hc2⟩ := h.dAt
    rw [hD] at hc2
    have H := Lib.hid h
    clear h hD hm hw
    go_enter Try.func20, Try.ntmps20
    go_wp2_with fail
    go_ret
    exact rgoes_no HR.out ⟨s, H.out, rfl⟩
  | [x] =>
    have HR := Lib.hid (show stStore s = none by unfold stStore; rw [hD])
    obtain ⟨Ad, cd, hc2⟩ := h.dAt
    rw [hD] at hc2
    have H := Lib.hid h
    clear h hD hm hw
    go_enter Try.func20, Try.ntmps20
    go_wp2_with fail
    go_ret
    exact rgoes_no HR.out ⟨s, H.out, rfl⟩
  | x :: y :: l =>
    have hxw := hw x (by rw [hD]; simp)
    have hx1 := hxw.1
    have hx2 := hxw.2
    by_cases hlt : 262144 ≤ x
    · have HR := Lib.hid (show stStore s = none by unfold stStore; rw [hD]; exact if_pos hlt)
      have HMR := Lib.hid h
      have hd9 : decide (262144 ≤ x) = true := by simpa using hlt
      clear hw hxw
      obtain ⟨gm, vd, vc, vo, A, ni, ci, h1, h2, h3⟩ := h
      rw [hD] at h2 hm
      obtain ⟨Ad, cd, rfl, hdc, hdm⟩ := own_sl h2.d
      obtain ⟨kb, rfl, hL, hcx, hfx, _⟩ := own_top h2.d
      obtain ⟨kb2, hk2, hcy, _⟩ := own_snd h2.d
      obtain rfl : kb = kb2 := by simpa using hk2
      obtain ⟨T, hl⟩ : ∃ T, l.length = T := ⟨_, rfl⟩
      have hLe : T + 2 = (x :: y :: l).length := by rw [List.length_cons, List.length_cons, hl]
      rw [← hLe] at h1 h2 hm hdc
      rw [show (y :: l).length = T + 1 by rw [List.length_cons, hl]] at hcx hfx
      rw [hl] at hcy
      unfold V at hcx hcy
      have H1 := Lib.hid h1
      have H2 := Lib.hid h2
      have H3 := Lib.hid h3
      have HL := Lib.hid hl
      have HLE := Lib.hid hLe
      have hc2 := H1.out.cell 2
      rw [show (rcells gm s.pc (.slice (some ⟨kb, 0, none⟩) (T + 2) cd) vc A ni ci vo s.digit)[2]? = some (.slice (some ⟨kb, 0, none⟩) (T + 2) cd) from rfl] at hc2
      have hf2 := H1.out.frozen 2
      have hr2 : (0 : Int) ≤ (T : Int) := by omega
      have hr5 : (0 : Int) ≤ (T : Int) + 1 := by omega
      have hr3 : (T : Int) + 1 < (T : Int) + 2 := by omega
      have hr4 : (T : Int) < (T : Int) + 2 := by omega
      have hdt2 : decide ((T : Int) + 2 < 2) = false := by simp; omega
      unfold maxLen at hdm
      clear h1 h2 h3 hl hLe hL hk2
      clear hD hlt
      go_enter Try.func20, Try.ntmps20
      go_wp2_with fail
      go_ret
      exact rgoes_no HR.out ⟨s, HMR.out, rfl⟩
    · have HR := Lib.hid (show stStore s = some { s with mem := put s.mem x.toNat y, data := l } by unfold stStore; rw [hD]; exact if_neg hlt)
      have hlt2 : x < 262144 := by omega
      have hd9 : decide (262144 ≤ x) = false := by simpa using hlt
      have HMR := Lib.hid h
      clear hw hxw
      obtain ⟨gm, vd, vc, vo, A, ni, ci, h1, h2, h3⟩ := h
      rw [hD] at h2 hm
      obtain ⟨Ad, cd, rfl, hdc, hdm⟩ := own_sl h2.d
      obtain ⟨kb, rfl, hL, hcx, hfx, _⟩ := own_top h2.d
      obtain ⟨kb2, hk2, hcy, _⟩ := own_snd h2.d
      obtain rfl : kb = kb2 := by simpa using hk2
      obtain ⟨T, hl⟩ : ∃ T, l.length = T := ⟨_, rfl⟩
      have hLe : T + 2 = (x :: y :: l).length := by rw [List.length_cons, List.length_cons, hl]
      rw [← hLe] at h1 h2 hm hdc
      rw [show (y :: l).length = T + 1 by rw [List.length_cons, hl]] at hcx hfx
      rw [hl] at hcy
      unfold V at hcx hcy
      have H1 := Lib.hid h1
      have H2 := Lib.hid h2
      have H3 := Lib.hid h3
      have HL := Lib.hid hl
      have HLE := Lib.hid hLe
      have hc2 := H1.out.cell 2
      rw [show (rcells gm s.pc (.slice (some ⟨kb, 0, none⟩) (T + 2) cd) vc A ni ci vo s.digit)[2]? = some (.slice (some ⟨kb, 0, none⟩) (T + 2) cd) from rfl] at hc2
      have hf2 := H1.out.frozen 2
      have hr2 : (0 : Int) ≤ (T : Int) := by omega
      have hr5 : (0 : Int) ≤ (T : Int) + 1 := by omega
      have hr3 : (T : Int) + 1 < (T : Int) + 2 := by omega
      have hr4 : (T : Int) < (T : Int) + 2 := by omega
      have hdt2 : decide ((T : Int) + 2 < 2) = false := by simp; omega
      unfold maxLen at hdm
      clear h1 h2 h3 hl hLe hL hk2
      have hc0 := H1.out.cell 0
      rw [show (rcells gm s.pc (.slice (some ⟨kb, 0, none⟩) (T + 2) cd) vc A ni ci vo s.digit)[0]? = some (.slice (some ⟨gm, 0, none⟩) 262144 262144) from rfl] at hc0
      have hwd := (HMR.out.word hc0 (a := x.toNat) (by omega)).1
      have hwf := (HMR.out.word hc0 (a := x.toNat) (by omega)).2
      have hgg : ¬ gm = g := H2.out.mb.2
      have hgg2 : ¬ g = gm := fun e => hgg e.symm
      have hS0 : W.drew.cell? ⟨g, 0, none⟩ = some (.slice (some ⟨gm, 0, none⟩) 262144 262144) ∧ W.drew.cell? ⟨g, 2, none⟩ = some (.slice (some ⟨kb, 0, none⟩) (T + 2) cd) ∧ W.drew.cell? ⟨kb, T + 1, none⟩ = some (.int .u32 x) ∧ W.drew.cell? ⟨kb, T, none⟩ = some (.int .u32 y) := ⟨hc0, hc2, hcx, hcy⟩
      clear hD hlt
      have hw1 : IntKind.i64.wrap (T : Int) = (T : Int) := IntWalk.i64_in _ (by omega)
      have hw2 : IntKind.i64.wrap ((T : Int) + 1) = (T : Int) + 1 := IntWalk.i64_in _ (by omega)
      have hw3 : IntKind.i64.wrap ((T : Int) + 1 - 1) = (T : Int) := IntWalk.i64_in _ (by omega) |>.trans (by omega)
      have hw4 : IntKind.i64.wrap ((T : Int) + 2 - 1) = (T : Int) + 1 := IntWalk.i64_in _ (by omega) |>.trans (by omega)
      have hw5 : IntKind.i64.wrap ((T : Int) + 2 - 2) = (T : Int) := IntWalk.i64_in _ (by omega) |>.trans (by omega)
      go_enter Try.func20, Try.ntmps20
      go_wp2_with fail
      refine wp_region_X (fun V => V.cell? ⟨g, 0, none⟩ = some (.slice (some ⟨gm, 0, none⟩) 262144 262144) ∧ V.cell? ⟨g, 2, none⟩ = some (.slice (some ⟨kb, 0, none⟩) (T + 2) cd) ∧ V.cell? ⟨kb, T + 1, none⟩ = some (.int .u32 x) ∧ V.cell? ⟨kb, T, none⟩ = some (.int .u32 y)) 21 (by kernel_rfl) ?_
      show wpAnyX _ _ _ _ _ _ 22 _ _ _
      refine wpAnyX_pure (i := 0) (v := ?_) rfl (by kernel_rfl) (by kernel_rfl) (by kernel_rfl) (by kernel_rfl) (by kernel_rfl) (fun _ _ _ h => h) (Or.inl ⟨by rfl, ?_⟩) (fun _ => by exact hS0) ?_
      rotate_left
      · intro w hSw; (try dsimp only at hSw); go_simp; (try with_reducible rfl)
      try simp only [List.getElem_toArray, List.getElem_cons_zero, Act.put, List.setIfInBounds_toArray, List.set_cons_zero, List.set_cons_succ]
      refine wpAnyX_pure (i := 1) (v := ?_) rfl (by kernel_rfl) (by kernel_rfl) (by kernel_rfl) (by kernel_rfl) (by kernel_rfl) (fun _ _ _ h => h) (Or.inl ⟨by rfl, ?_⟩) (fun _ => by exact hS0) ?_
      rotate_left
      · intro w hSw; (try dsimp only at hSw); go_simp; (try with_reducible rfl)
      try simp only [List.getElem_toArray, List.getElem_cons_zero, List.getElem_cons_succ, Act.put, List.setIfInBounds_toArray, List.set_cons_zero, List.set_cons_succ]
      refine wpAnyX_pure (i := 2) (v := ?_) rfl (by kernel_rfl) (by kernel_rfl) (by kernel_rfl) (by kernel_rfl) (by kernel_rfl) (fun _ _ _ h => h) (Or.inl ⟨by rfl, ?_⟩) (fun _ => by exact hS0) ?_
      rotate_left
      · intro w hSw; (try dsimp only at hSw); go_simp; (try with_reducible rfl)
      try simp only [List.getElem_toArray, List.getElem_cons_zero, List.getElem_cons_succ, Act.put, List.setIfInBounds_toArray, List.set_cons_zero, List.set_cons_succ]
      refine wpAnyX_take (i := 3) (v := ?_) rfl (by kernel_rfl) (by kernel_rfl) (by kernel_rfl) (by kernel_rfl) (by kernel_rfl) (fun _ _ _ h => h) (Or.inl ⟨by rfl, ?_⟩) (by exact hS0) ?_
      rotate_left
      · intro w hSw; (try dsimp only at hSw); go_simp; (try with_reducible rfl)
      try simp only [List.getElem_toArray, List.getElem_cons_zero, List.getElem_cons_succ, Act.put, List.setIfInBounds_toArray, List.set_cons_zero, List.set_cons_succ]
      refine wpAnyX_pure (i := 4) (v := ?_) rfl (by kernel_rfl) (by kernel_rfl) (by kernel_rfl) (by kernel_rfl) (by kernel_rfl) (fun _ _ _ h => h) (Or.inl ⟨by rfl, ?_⟩) (fun _ => by exact hS0) ?_
      rotate_left
      · intro w hSw; (try dsimp only at hSw); go_simp; (try with_reducible rfl)
      try simp only [List.getElem_toArray, List.getElem_cons_zero, List.getElem_cons_succ, Act.put, List.setIfInBounds_toArray, List.set_cons_zero, List.set_cons_succ]
      refine wpAnyX_pure (i := 5) (v := ?_) rfl (by kernel_rfl) (by kernel_rfl) (by kernel_rfl) (by kernel_rfl) (by kernel_rfl) (fun _ _ _ h => h) (Or.inl ⟨by rfl, ?_⟩) (fun _ => by exact hS0) ?_
      rotate_left
      · intro w hSw; (try dsimp only at hSw); go_simp; (try with_reducible rfl)
      try simp only [List.getElem_toArray, List.getElem_cons_zero, List.getElem_cons_succ, Act.put, List.setIfInBounds_toArray, List.set_cons_zero, List.set_cons_succ]
      refine wpAnyX_pure (i := 6) (v := ?_) rfl (by kernel_rfl) (by kernel_rfl) (by kernel_rfl) (by kernel_rfl) (by kernel_rfl) (fun _ _ _ h => h) (Or.inl ⟨by rfl, ?_⟩) (fun _ => by exact hS0) ?_
      rotate_left
      · intro w hSw; (try dsimp only at hSw); go_simp; (try with_reducible rfl)
      try simp only [List.getElem_toArray, List.getElem_cons_zero, List.getElem_cons_succ, Act.put, List.setIfInBounds_toArray, List.set_cons_zero, List.set_cons_succ]
      refine wpAnyX_take (i := 7) (v := ?_) rfl (by kernel_rfl) (by kernel_rfl) (by kernel_rfl) (by kernel_rfl) (by kernel_rfl) (fun _ _ _ h => h) (Or.inl ⟨by rfl, ?_⟩) (by exact hS0) ?_
      rotate_left
      · intro w hSw; (try dsimp only at hSw); go_simp; (try with_reducible rfl)
      try simp only [List.getElem_toArray, List.getElem_cons_zero, List.getElem_cons_succ, Act.put, List.setIfInBounds_toArray, List.set_cons_zero, List.set_cons_succ]
      refine wpAnyX_pure (i := 8) (v := ?_) rfl (by kernel_rfl) (by kernel_rfl) (by kernel_rfl) (by kernel_rfl) (by kernel_rfl) (fun _ _ _ h => h) (Or.inl ⟨by rfl, ?_⟩) (fun _ => by exact hS0) ?_
      rotate_left
      · intro w hSw; (try dsimp only at hSw); go_simp; (try with_reducible rfl)
      try simp only [List.getElem_toArray, List.getElem_cons_zero, List.getElem_cons_succ, Act.put, List.setIfInBounds_toArray, List.set_cons_zero, List.set_cons_succ]
      refine wpAnyX_pure (i := 9) (v := ?_) rfl (by kernel_rfl) (by kernel_rfl) (by kernel_rfl) (by kernel_rfl) (by kernel_rfl) (fun _ _ _ h => h) (Or.inl ⟨by rfl, ?_⟩) (fun _ => by exact hS0) ?_
      rotate_left
      · intro w hSw; (try dsimp only at hSw); go_simp; (try with_reducible rfl)
      try simp only [List.getElem_toArray, List.getElem_cons_zero, List.getElem_cons_succ, Act.put, List.setIfInBounds_toArray, List.set_cons_zero, List.set_cons_succ]
      refine wpAnyX_pure (i := 10) (v := ?_) rfl (by kernel_rfl) (by kernel_rfl) (by kernel_rfl) (by kernel_rfl) (by kernel_rfl) (fun _ _ _ h => h) (Or.inl ⟨by rfl, ?_⟩) (fun _ => by exact hS0) ?_
      rotate_left
      · intro w hSw; (try dsimp only at hSw); go_simp; (try with_reducible rfl)
      try simp only [List.getElem_toArray, List.getElem_cons_zero, List.getElem_cons_succ, Act.put, List.setIfInBounds_toArray, List.set_cons_zero, List.set_cons_succ]
      refine wpAnyX_take (i := 11) (v := ?_) rfl (by kernel_rfl) (by kernel_rfl) (by kernel_rfl) (by kernel_rfl) (by kernel_rfl) (fun _ _ _ h => h) (Or.inl ⟨by rfl, ?_⟩) (by exact hS0) ?_
      rotate_left
      · intro w hSw; (try dsimp only at hSw); go_simp; (try with_reducible rfl)
      try simp only [List.getElem_toArray, List.getElem_cons_zero, List.getElem_cons_succ, Act.put, List.setIfInBounds_toArray, List.set_cons_zero, List.set_cons_succ]
      refine wpAnyX_pure (i := 12) (v := ?_) rfl (by kernel_rfl) (by kernel_rfl) (by kernel_rfl) (by kernel_rfl) (by kernel_rfl) (fun _ _ _ h => h) (Or.inl ⟨by rfl, ?_⟩) (fun _ => by exact hS0) ?_
      rotate_left
      · intro w hSw; (try dsimp only at hSw); go_simp; (try with_reducible rfl)
      try simp only [List.getElem_toArray, List.getElem_cons_zero, List.getElem_cons_succ, Act.put, List.setIfInBounds_toArray, List.set_cons_zero, List.set_cons_succ]
      refine wpAnyX_pure (i := 13) (v := ?_) rfl (by kernel_rfl) (by kernel_rfl) (by kernel_rfl) (by kernel_rfl) (by kernel_rfl) (fun _ _ _ h => h) (Or.inl ⟨by rfl, ?_⟩) (fun _ => by exact hS0) ?_
      rotate_left
      · intro w hSw; (try dsimp only at hSw); go_simp; (try with_reducible rfl)
      try simp only [List.getElem_toArray, List.getElem_cons_zero, List.getElem_cons_succ, Act.put, List.setIfInBounds_toArray, List.set_cons_zero, List.set_cons_succ]
      refine wpAnyX_pure (i := 14) (v := ?_) rfl (by kernel_rfl) (by kernel_rfl) (by kernel_rfl) (by kernel_rfl) (by kernel_rfl) (fun _ _ _ h => h) (Or.inl ⟨by rfl, ?_⟩) (fun _ => by exact hS0) ?_
      rotate_left
      · intro w hSw; (try dsimp only at hSw); go_simp; (try with_reducible rfl)
      try simp only [List.getElem_toArray, List.getElem_cons_zero, List.getElem_cons_succ, Act.put, List.setIfInBounds_toArray, List.set_cons_zero, List.set_cons_succ]
      refine wpAnyX_take (i := 15) (v := ?_) rfl (by kernel_rfl) (by kernel_rfl) (by kernel_rfl) (by kernel_rfl) (by kernel_rfl) (fun _ _ _ h => h) (Or.inl ⟨by rfl, ?_⟩) (by exact hS0) ?_
      rotate_left
      · intro w hSw; (try dsimp only at hSw); go_simp; (try with_reducible rfl)
      try simp only [List.getElem_toArray, List.getElem_cons_zero, List.getElem_cons_succ, Act.put, List.setIfInBounds_toArray, List.set_cons_zero, List.set_cons_succ]
      refine wpAnyX_pure (i := 16) (v := ?_) rfl (by kernel_rfl) (by kernel_rfl) (by kernel_rfl) (by kernel_rfl) (by kernel_rfl) (fun _ _ _ h => h) (Or.inl ⟨by rfl, ?_⟩) (fun _ => by exact hS0) ?_
      rotate_left
      · intro w hSw; (try dsimp only at hSw); go_simp; (try with_reducible rfl)
      try simp only [List.getElem_toArray, List.getElem_cons_zero, List.getElem_cons_succ, Act.put, List.setIfInBounds_toArray, List.set_cons_zero, List.set_cons_succ]
      refine wpAnyX_pure (i := 17) (v := ?_) rfl (by kernel_rfl) (by kernel_rfl) (by kernel_rfl) (by kernel_rfl) (by kernel_rfl) (fun _ _ _ h => h) (Or.inl ⟨by rfl, ?_⟩) (fun _ => by exact hS0) ?_
      rotate_left
      · intro w hSw; (try dsimp only at hSw); go_simp; (try with_reducible rfl)
      try simp only [List.getElem_toArray, List.getElem_cons_zero, List.getElem_cons_succ, Act.put, List.setIfInBounds_toArray, List.set_cons_zero, List.set_cons_succ]
      refine wpAnyX_pure (i := 18) (v := ?_) rfl (by kernel_rfl) (by kernel_rfl) (by kernel_rfl) (by kernel_rfl) (by kernel_rfl) (fun _ _ _ h => h) (Or.inl ⟨by rfl, ?_⟩) (fun _ => by exact hS0) ?_
      rotate_left
      · intro w hSw; (try dsimp only at hSw); go_simp; (try with_reducible rfl)
      try simp only [List.getElem_toArray, List.getElem_cons_zero, List.getElem_cons_succ, Act.put, List.setIfInBounds_toArray, List.set_cons_zero, List.set_cons_succ]
      refine wpAnyX_take (i := 19) (v := ?_) rfl (by kernel_rfl) (by kernel_rfl) (by kernel_rfl) (by kernel_rfl) (by kernel_rfl) (fun _ _ _ h => h) (Or.inl ⟨by rfl, ?_⟩) (by exact hS0) ?_
      rotate_left
      · intro w hSw; (try dsimp only at hSw); go_simp; (try with_reducible rfl)
      try simp only [List.getElem_toArray, List.getElem_cons_zero, List.getElem_cons_succ, Act.put, List.setIfInBounds_toArray, List.set_cons_zero, List.set_cons_succ]
      refine wpAnyX_pure (i := 20) (v := ?_) rfl (by kernel_rfl) (by kernel_rfl) (by kernel_rfl) (by kernel_rfl) (by kernel_rfl) (fun _ _ _ h => h) (Or.inl ⟨by rfl, ?_⟩) (fun _ => by exact hS0) ?_
      rotate_left
      · intro w hSw; (try dsimp only at hSw); go_simp; (try with_reducible rfl)
      try simp only [List.getElem_toArray, List.getElem_cons_zero, List.getElem_cons_succ, Act.put, List.setIfInBounds_toArray, List.set_cons_zero, List.set_cons_succ]
      refine wpAnyX_one (i := 21) (by kernel_rfl) rfl (fun K hK => ?_)
      go_simp
      refine hK.out _ _ (fun h => absurd h (by decide)) ?_
      clear hK K
      try simp only [List.getElem_toArray, List.getElem_cons_zero, List.getElem_cons_succ, Act.put, List.setIfInBounds_toArray, List.set_cons_zero, List.set_cons_succ]
      refine wpAnyX_done (by kernel_rfl) ?_ _
      clear hw1 hw2 hw3 hw4 hw5
      go_wp2_with fail
      go_ret
      exact rgoes_yes HR.out (MR.mk_ (s := { s with mem := put s.mem x.toNat y, data := l }) ((H1.out.far (p := ⟨gm, x.toNat, none⟩) hgg2 _).set_ 2 _).drew (((H2.out.setM (a := x.toNat) (by omega) y).setG 2 _).dtake (m := T) (D' := l) HLE.out HL.out (by rw [← HL.out]; exact take_tail2 x y l) (by omega)).drew H3.out)

/-- the top of the stack, in whatever world -/
theorem topAt {fix : List (Nat × Obj)} {w0 U : World} {g gm : Nat} {mem : Nat → Int} {kb n c T : Nat} {x : Int} {l C : List Int} {O : List UInt8} {vc vo : Value} (h : Parts fix w0 U g gm mem (.slice (some ⟨kb, 0, none⟩) n c) (x :: l) vc C vo O) (hT : l.length = T) : U.cell? ⟨kb, T, none⟩ = some (.int .u32 x) := by
  obtain ⟨k, e1, _, h3, _⟩ := own_top h.d
  obtain rfl : k = kb := by simpa using e1.symm
  rw [← hT]
  exact h3

set_option maxRecDepth 100000 in
set_option maxHeartbeats 4000000 in
theorem rs_call (h : MR fix w0 W g s) (hm : s.data.length ≤ 256) (hw : ∀ x ∈ s.data, W32 x) (hk : s.calls.length ≤ 64) :
    Calls Try.prog 20 #[.pointer (some ⟨g, 0, none⟩), .int .u32 58] W (RGoes fix w0 g s.out (stCall s)) := by
  match hD : s.data with
  | [] =>
    have HR := Lib.hid (show stCall s = none by unfold stCall; rw [hD])
    obtain ⟨Ad, cd, hc2⟩ := h.dAt
    rw [hD] at hc2
    have H := Lib.hid h
    clear h hD hm hw
    go_enter Try.func20, Try.ntmps20
    go_wp2_with fail
    go_ret
    exact rgoes_no HR.out ⟨s, H.out, rfl⟩
  | x :: l =>
    by_cases hlt : s.calls.length < 64
    · have HR := Lib.hid (show stCall s = some { s with calls := s.pc :: s.calls, pc := x, data := l } by unfold stCall; rw [hD]; exact if_pos hlt)
      clear hw
      obtain ⟨gm, vd, vc, vo, A, ni, ci, h1, h2, h3⟩ := h
      rw [hD] at h2 hm
      obtain ⟨Ad, cd, rfl, hdc, hdm⟩ := own_sl h2.d
      obtain ⟨kb, rfl, hL, hcx, hfx, _⟩ := own_top h2.d
      obtain ⟨T, hl⟩ : ∃ T, l.length = T := ⟨_, rfl⟩
      have hLe : T + 1 = (x :: l).length := by rw [List.length_cons, hl]
      rw [← hLe] at h1 h2 hm hdc
      rw [hl] at hcx hfx
      unfold V at hcx
      have H1 := Lib.hid h1
      have H2 := Lib.hid h2
      have H3 := Lib.hid h3
      have HL := Lib.hid hl
      have HLE := Lib.hid hLe
      have hc2 := H1.out.cell 2
      rw [show (rcells gm s.pc (.slice (some ⟨kb, 0, none⟩) (T + 1) cd) vc A ni ci vo s.digit)[2]? = some (.slice (some ⟨kb, 0, none⟩) (T + 1) cd) from rfl] at hc2
      have hf2 := H1.out.frozen 2
      have hr2 : (0 : Int) ≤ (T : Int) := by omega
      have hr3 : (T : Int) < (T : Int) + 1 := by omega
      have hdt1 : decide ((T : Int) + 1 < 1) = false := by simp; omega
      unfold maxLen at hdm
      clear h1 h2 h3 hl hLe hL
      obtain ⟨Ac, cc, rfl, hcc, hcm⟩ := own_sl (show W.ownsRow _ _ _ vc _ _ from H2.out.c)
      have ho1 := H2.out.c
      have hsz := H2.out.sz
      obtain ⟨KN, hK⟩ : ∃ KN, KN = s.calls.length := ⟨_, rfl⟩
      have HKL := Lib.hid hK
      have hkg : kb ≠ g := (H2.out.nd _ rfl).1
      have hc3 := H1.out.cell 3
      rw [show (rcells gm s.pc (.slice (some ⟨kb, 0, none⟩) (T + 1) cd) (.slice Ac s.calls.length cc) A ni ci vo s.digit)[3]? = some (.slice Ac s.calls.length cc) from rfl] at hc3
      have hc1 := H1.out.cell 1
      rw [show (rcells gm s.pc (.slice (some ⟨kb, 0, none⟩) (T + 1) cd) (.slice Ac s.calls.length cc) A ni ci vo s.digit)[1]? = some (.int .u32 s.pc) from rfl] at hc1
      rw [← hK] at hc3 hcc H1 H2 ho1
      have O1 := Lib.hid ho1
      unfold maxLen at hcm
      clear ho1
      have hlt' : KN < 64 := by rw [hK]; exact hlt
      have hdt : decide ((64 : Int) ≤ (KN : Int)) = false := by simp; omega
      have hS0 : W.drew.cell? ⟨g, 3, none⟩ = some (.slice Ac KN cc) ∧ W.drew.cell? ⟨g, 1, none⟩ = some (.int .u32 s.pc) := ⟨hc3, hc1⟩
      have B1 := Lib.hid H1.out.drew
      have P1 := Lib.hid H2.out.drew
      clear hK hlt hk hD
      go_enter Try.func20, Try.ntmps20
      go_wp2_with fail
      obtain ⟨W1, hW1⟩ : ∃ W1, W1 = W.drew := ⟨_, rfl⟩
      refine wp_region_X (fun V => V.cell? ⟨g, 3, none⟩ = some (.slice Ac KN cc) ∧ V.cell? ⟨g, 1, none⟩ = some (.int .u32 s.pc)) 13 (by kernel_rfl) ?_
      show wpAnyX _ _ _ _ _ _ 14 _ _ _
      have O1d := Lib.hid (show W.drew.ownsRow _ _ _ _ _ _ from O1.out)
      have hcxd : W.drew.cell? ⟨kb, T, none⟩ = some (.int .u32 x) := hcx
      have hszd : w0.heap.size ≤ W.drew.heap.size := hsz
      rw [← hW1] at hS0 B1 P1 O1d hcxd hszd ⊢
      clear hW1
      refine wpAnyX_pure (i := 0) (v := ?_) rfl (by kernel_rfl) (by kernel_rfl) (by kernel_rfl) (by kernel_rfl) (by kernel_rfl) (fun _ _ _ h => h) (Or.inl ⟨by rfl, ?_⟩) (fun _ => by exact hS0) ?_
      rotate_left
      · intro w hSw; (try dsimp only at hSw); go_simp; (try with_reducible rfl)
      try simp only [List.getElem_toArray, List.getElem_cons_zero, Act.put, List.setIfInBounds_toArray, List.set_cons_zero, List.set_cons_succ]
      refine wpAnyX_pure (i := 1) (v := ?_) rfl (by kernel_rfl) (by kernel_rfl) (by kernel_rfl) (by kernel_rfl) (by kernel_rfl) (fun _ _ _ h => h) (Or.inl ⟨by rfl, ?_⟩) (fun _ => by exact hS0) ?_
      rotate_left
      · intro w hSw; (try dsimp only at hSw); go_simp; (try with_reducible rfl)
      try simp only [List.getElem_toArray, List.getElem_cons_zero, List.getElem_cons_succ, Act.put, List.setIfInBounds_toArray, List.set_cons_zero, List.set_cons_succ]
      refine wpAnyX_pure (i := 2) (v := ?_) rfl (by kernel_rfl) (by kernel_rfl) (by kernel_rfl) (by kernel_rfl) (by kernel_rfl) (fun _ _ _ h => h) (Or.inl ⟨by rfl, ?_⟩) (fun _ => by exact hS0) ?_
      rotate_left
      · intro w hSw; (try dsimp only at hSw); go_simp; (try with_reducible rfl)
      try simp only [List.getElem_toArray, List.getElem_cons_zero, List.getElem_cons_succ, Act.put, List.setIfInBounds_toArray, List.set_cons_zero, List.set_cons_succ]
      refine wpAnyX_pure (i := 3) (v := ?_) rfl (by kernel_rfl) (by kernel_rfl) (by kernel_rfl) (by kernel_rfl) (by kernel_rfl) (fun _ _ _ h => h) (Or.inl ⟨by rfl, ?_⟩) (fun _ => by exact hS0) ?_
      rotate_left
      · intro w hSw; (try dsimp only at hSw); go_simp; (try with_reducible rfl)
      try simp only [List.getElem_toArray, List.getElem_cons_zero, List.getElem_cons_succ, Act.put, List.setIfInBounds_toArray, List.set_cons_zero, List.set_cons_succ]
      refine wpAnyX_take (i := 4) (v := ?_) rfl (by kernel_rfl) (by kernel_rfl) (by kernel_rfl) (by kernel_rfl) (by kernel_rfl) (fun _ _ _ h => h) (Or.inl ⟨by rfl, ?_⟩) (by exact hS0) ?_
      rotate_left
      · intro w hSw; (try dsimp only at hSw); go_simp; (try with_reducible rfl)
      try simp only [List.getElem_toArray, List.getElem_cons_zero, List.getElem_cons_succ, Act.put, List.setIfInBounds_toArray, List.set_cons_zero, List.set_cons_succ]
      refine wpAnyX_pure (i := 5) (v := ?_) rfl (by kernel_rfl) (by kernel_rfl) (by kernel_rfl) (by kernel_rfl) (by kernel_rfl) (fun _ _ _ h => h) (Or.inl ⟨by rfl, ?_⟩) (fun _ => by exact hS0) ?_
      rotate_left
      · intro w hSw; (try dsimp only at hSw); go_simp; (try with_reducible rfl)
      try simp only [List.getElem_toArray, List.getElem_cons_zero, List.getElem_cons_succ, Act.put, List.setIfInBounds_toArray, List.set_cons_zero, List.set_cons_succ]
      refine wpAnyX_pure (i := 6) (v := ?_) rfl (by kernel_rfl) (by kernel_rfl) (by kernel_rfl) (by kernel_rfl) (by kernel_rfl) (fun _ _ _ h => h) (Or.inl ⟨by rfl, ?_⟩) (fun _ => by exact hS0) ?_
      rotate_left
      · intro w hSw; (try dsimp only at hSw); go_simp; (try with_reducible rfl)
      try simp only [List.getElem_toArray, List.getElem_cons_zero, List.getElem_cons_succ, Act.put, List.setIfInBounds_toArray, List.set_cons_zero, List.set_cons_succ]
      refine wpAnyX_pure (i := 7) (v := ?_) rfl (by kernel_rfl) (by kernel_rfl) (by kernel_rfl) (by kernel_rfl) (by kernel_rfl) (fun _ _ _ h => h) (Or.inl ⟨by rfl, ?_⟩) (fun _ => by exact hS0) ?_
      rotate_left
      · intro w hSw; (try dsimp only at hSw); go_simp; (try with_reducible rfl)
      try simp only [List.getElem_toArray, List.getElem_cons_zero, List.getElem_cons_succ, Act.put, List.setIfInBounds_toArray, List.set_cons_zero, List.set_cons_succ]
      refine wpAnyX_take (i := 8) (v := ?_) rfl (by kernel_rfl) (by kernel_rfl) (by kernel_rfl) (by kernel_rfl) (by kernel_rfl) (fun _ _ _ h => h) (Or.inl ⟨by rfl, ?_⟩) (by exact hS0) ?_
      rotate_left
      · intro w hSw; (try dsimp only at hSw); go_simp; (try with_reducible rfl)
      try simp only [List.getElem_toArray, List.getElem_cons_zero, List.getElem_cons_succ, Act.put, List.setIfInBounds_toArray, List.set_cons_zero, List.set_cons_succ]
      refine wpAnyX_one (i := 9) (by kernel_rfl) rfl (fun K hK => ?_)
      go_simp
      have B2 := Lib.hid (B1.out.alloc (.cells #[.int .u32 s.pc] 33))
      have P2 := Lib.hid (P1.out.alloc (.cells #[.int .u32 s.pc] 33))
      have hS2 : (W1.alloc (.cells #[.int .u32 s.pc] 33)).cell? ⟨g, 3, none⟩ = some (.slice Ac KN cc) ∧ (W1.alloc (.cells #[.int .u32 s.pc] 33)).cell? ⟨g, 1, none⟩ = some (.int .u32 s.pc) := ⟨B2.out.cell 3, B2.out.cell 1⟩
      refine hK.out _ _ (fun _ => by exact hS2) ?_
      clear hK K
      try simp only [List.getElem_toArray, List.getElem_cons_zero, List.getElem_cons_succ, Act.put, List.setIfInBounds_toArray, List.set_cons_zero, List.set_cons_succ]
      refine wpAnyX_one (i := 10) (by kernel_rfl) rfl (fun K hK => ?_)
      refine step_push ty_u32 (by rfl) _ _ (by rfl) w0.heap.size (.slice Ac KN cc) KN (iv s.calls.reverse) (by rfl) (own_alloc O1d.out _) _ (.int .u32 s.pc) (by rfl) (Blk.new _ _ _) rfl (Nat.le_trans hszd (by simp)) (by unfold maxLen; omega) (by omega) ?_
      intro v8 w8 hown8 hgrow8 hv8
      obtain ⟨A8, c8, rfl, _, _⟩ := own_form hown8
      have hb8 := B2.out.grown hgrow8 (fun e => ((P2.out.nc _ e.symm).1 rfl))
      have hS8 : w8.cell? ⟨g, 3, none⟩ = some (.slice Ac KN cc) ∧ w8.cell? ⟨g, 1, none⟩ = some (.int .u32 s.pc) := ⟨hb8.cell 3, hb8.cell 1⟩
      have hp8 := P2.out.gc (D' := s.pc :: s.calls) (by rw [List.reverse_cons, iv_app, List.length_cons, ← HKL.out]; exact hown8) hgrow8 hv8
      have hx3 := hS8.1
      have hx1 := hS8.2
      have hf3 := hb8.frozen 3
      have hf1 := hb8.frozen 1
      have hg2 : w8.cell? ⟨g, 2, none⟩ = some (.slice (some ⟨kb, 0, none⟩) (T + 1) cd) := hb8.cell 2
      have hgf2 := hb8.frozen 2
      have hg1 := topAt hp8 HL.out
      have HB8 := Lib.hid hb8
      have HP8 := Lib.hid hp8
      clear hown8 hgrow8 hv8 hb8 hp8 hcxd
      refine hK.out _ _ (fun _ => by exact hS8) ?_
      clear hK K
      try simp only [List.getElem_toArray, List.getElem_cons_zero, List.getElem_cons_succ, Act.put, List.setIfInBounds_toArray, List.set_cons_zero, List.set_cons_succ]
      refine wpAnyX_pure (i := 11) (v := ?_) rfl (by kernel_rfl) (by kernel_rfl) (by kernel_rfl) (by kernel_rfl) (by kernel_rfl) (fun _ _ _ h => h) (Or.inl ⟨by rfl, ?_⟩) (fun _ => by exact hS8) ?_
      rotate_left
      · intro w hSw; (try dsimp only at hSw); go_simp; (try with_reducible rfl)
      try simp only [List.getElem_toArray, List.getElem_cons_zero, List.getElem_cons_succ, Act.put, List.setIfInBounds_toArray, List.set_cons_zero, List.set_cons_succ]
      refine wpAnyX_pure (i := 12) (v := ?_) rfl (by kernel_rfl) (by kernel_rfl) (by kernel_rfl) (by kernel_rfl) (by kernel_rfl) (fun _ _ _ h => h) (Or.inl ⟨by rfl, ?_⟩) (fun _ => by exact hS8) ?_
      rotate_left
      · intro w hSw; (try dsimp only at hSw); go_simp; (try with_reducible rfl)
      try simp only [List.getElem_toArray, List.getElem_cons_zero, List.getElem_cons_succ, Act.put, List.setIfInBounds_toArray, List.set_cons_zero, List.set_cons_succ]
      refine wpAnyX_one (i := 13) (by kernel_rfl) rfl (fun K hK => ?_)
      go_simp
      refine hK.out _ _ (fun h => absurd h (by decide)) ?_
      clear hK K
      try simp only [List.getElem_toArray, List.getElem_cons_zero, List.getElem_cons_succ, Act.put, List.setIfInBounds_toArray, List.set_cons_zero, List.set_cons_succ]
      refine wpAnyX_done (by kernel_rfl) ?_ _
      go_wp2_with fail
      go_ret
      exact rgoes_yes HR.out (MR.mk_ (s := { s with calls := s.pc :: s.calls, pc := x, data := l }) (((HB8.out.set_ 3 _).set_ 1 _).set_ 2 _) ((((HP8.out.setG 3 _).setG 1 _).setG 2 _).dtake (m := T) (D' := l) HLE.out HL.out (by rw [← HL.out]; exact take_tail x l) (by omega)) H3.out)
    · have HR := Lib.hid (show stCall s = none by unfold stCall; rw [hD]; exact if_neg hlt)
      have HMR := Lib.hid h
      clear hw
      obtain ⟨gm, vd, vc, vo, A, ni, ci, h1, h2, h3⟩ := h
      rw [hD] at h2 hm
      obtain ⟨Ad, cd, rfl, hdc, hdm⟩ := own_sl h2.d
      obtain ⟨kb, rfl, hL, hcx, hfx, _⟩ := own_top h2.d
      obtain ⟨T, hl⟩ : ∃ T, l.length = T := ⟨_, rfl⟩
      have hLe : T + 1 = (x :: l).length := by rw [List.length_cons, hl]
      rw [← hLe] at h1 h2 hm hdc
      rw [hl] at hcx hfx
      unfold V at hcx
      have H1 := Lib.hid h1
      have H2 := Lib.hid h2
      have H3 := Lib.hid h3
      have HL := Lib.hid hl
      have HLE := Lib.hid hLe
      have hc2 := H1.out.cell 2
      rw [show (rcells gm s.pc (.slice (some ⟨kb, 0, none⟩) (T + 1) cd) vc A ni ci vo s.digit)[2]? = some (.slice (some ⟨kb, 0, none⟩) (T + 1) cd) from rfl] at hc2
      have hf2 := H1.out.frozen 2
      have hr2 : (0 : Int) ≤ (T : Int) := by omega
      have hr3 : (T : Int) < (T : Int) + 1 := by omega
      have hdt1 : decide ((T : Int) + 1 < 1) = false := by simp; omega
      unfold maxLen at hdm
      clear h1 h2 h3 hl hLe hL
      obtain ⟨Ac, cc, rfl, hcc, hcm⟩ := own_sl (show W.ownsRow _ _ _ vc _ _ from H2.out.c)
      have ho1 := H2.out.c
      have hsz := H2.out.sz
      obtain ⟨KN, hK⟩ : ∃ KN, KN = s.calls.length := ⟨_, rfl⟩
      have HKL := Lib.hid hK
      have hkg : kb ≠ g := (H2.out.nd _ rfl).1
      have hc3 := H1.out.cell 3
      rw [show (rcells gm s.pc (.slice (some ⟨kb, 0, none⟩) (T + 1) cd) (.slice Ac s.calls.length cc) A ni ci vo s.digit)[3]? = some (.slice Ac s.calls.length cc) from rfl] at hc3
      have hc1 := H1.out.cell 1
      rw [show (rcells gm s.pc (.slice (some ⟨kb, 0, none⟩) (T + 1) cd) (.slice Ac s.calls.length cc) A ni ci vo s.digit)[1]? = some (.int .u32 s.pc) from rfl] at hc1
      rw [← hK] at hc3 hcc H1 H2 ho1
      have O1 := Lib.hid ho1
      unfold maxLen at hcm
      clear ho1
      have hdt : decide ((64 : Int) ≤ (KN : Int)) = true := by simp; omega
      have hk' : KN ≤ 64 := by rw [hK]; exact hk
      clear hK hlt hk hD
      go_enter Try.func20, Try.ntmps20
      go_wp2_with fail
      go_ret
      exact rgoes_no HR.out ⟨s, HMR.out, rfl⟩

set_option maxRecDepth 100000 in
set_option maxHeartbeats 4000000 in
theorem rs_out (h : MR fix w0 W g s) (hm : s.data.length ≤ 256) (hw : ∀ x ∈ s.data, W32 x) (hk : s.out.length ≤ 1000000000) :
    Calls Try.prog 20 #[.pointer (some ⟨g, 0, none⟩), .int .u32 46] W (RGoes fix w0 g s.out (stOut s)) := by
  match hD : s.data with
  | [] =>
    have HR := Lib.hid (show stOut s = none by unfold stOut; rw [hD])
    obtain ⟨Ad, cd, hc2⟩ := h.dAt
    rw [hD] at hc2
    have H := Lib.hid h
    clear h hD hm hw
    go_enter Try.func20, Try.ntmps20
    go_wp2_with fail
    go_ret
    exact rgoes_no HR.out ⟨s, H.out, rfl⟩
  | x :: l =>
    have HR := Lib.hid (show stOut s = some { s with out := s.out ++ [byte x], data := l } by unfold stOut; rw [hD])
    have hxw := hw x (by rw [hD]; simp)
    have hx1 := hxw.1
    have hx2 := hxw.2
    clear hw hxw
    obtain ⟨gm, vd, vc, vo, A, ni, ci, h1, h2, h3⟩ := h
    rw [hD] at h2 hm
    obtain ⟨Ad, cd, rfl, hdc, hdm⟩ := own_sl h2.d
    obtain ⟨kb, rfl, hL, hcx, hfx, _⟩ := own_top h2.d
    obtain ⟨T, hl⟩ : ∃ T, l.length = T := ⟨_, rfl⟩
    have hLe : T + 1 = (x :: l).length := by rw [List.length_cons, hl]
    rw [← hLe] at h1 h2 hm hdc
    rw [hl] at hcx hfx
    unfold V at hcx
    have H1 := Lib.hid h1
    have H2 := Lib.hid h2
    have H3 := Lib.hid h3
    have HL := Lib.hid hl
    have HLE := Lib.hid hLe
    have hc2 := H1.out.cell 2
    rw [show (rcells gm s.pc (.slice (some ⟨kb, 0, none⟩) (T + 1) cd) vc A ni ci vo s.digit)[2]? = some (.slice (some ⟨kb, 0, none⟩) (T + 1) cd) from rfl] at hc2
    have hf2 := H1.out.frozen 2
    have hr2 : (0 : Int) ≤ (T : Int) := by omega
    have hr3 : (T : Int) < (T : Int) + 1 := by omega
    have hdt1 : decide ((T : Int) + 1 < 1) = false := by simp; omega
    unfold maxLen at hdm
    clear h1 h2 h3 hl hLe hL
    obtain ⟨Ao, co, rfl, hoo, _⟩ := own_form H2.out.o
    have ho1 := H2.out.o
    have hsz := H2.out.sz
    obtain ⟨KN, hK⟩ : ∃ KN, KN = s.out.length := ⟨_, rfl⟩
    have HKL := Lib.hid hK
    have hkg : kb ≠ g := (H2.out.nd _ rfl).1
    have hc5 := H1.out.cell 5
    rw [show (rcells gm s.pc (.slice (some ⟨kb, 0, none⟩) (T + 1) cd) vc A ni ci (.slice Ao s.out.length co) s.digit)[5]? = some (.slice Ao s.out.length co) from rfl] at hc5
    rw [← hK] at hc5 hk H1 H2 ho1
    have O1 := Lib.hid (show W.drew.ownsRow _ _ _ _ _ _ from ho1)
    obtain ⟨b, hb⟩ : ∃ b, b = byte x := ⟨_, rfl⟩
    have hwr : IntKind.u8.wrap x = (b.toNat : Int) := by rw [IntKind.wrap_u8, hb]; unfold byte; rw [UInt8.toNat_ofNat']; omega
    have HBB := Lib.hid hb
    have hS0 : W.drew.cell? ⟨g, 5, none⟩ = some (.slice Ao KN co) ∧ W.drew.cell? ⟨g, 2, none⟩ = some (.slice (some ⟨kb, 0, none⟩) (T + 1) cd) ∧ W.drew.cell? ⟨kb, T, none⟩ = some (.int .u32 x) := ⟨hc5, hc2, hcx⟩
    have B1 := Lib.hid H1.out.drew
    have P1 := Lib.hid H2.out.drew
    have hszd : w0.heap.size ≤ W.drew.heap.size := hsz
    clear hK hD hb ho1 hoo
    have hw1 : IntKind.i64.wrap (T : Int) = (T : Int) := IntWalk.i64_in _ (by omega)
    have hw2 : IntKind.i64.wrap ((T : Int) + 1) = (T : Int) + 1 := IntWalk.i64_in _ (by omega)
    have hw3 : IntKind.i64.wrap ((T : Int) + 1 - 1) = (T : Int) := IntWalk.i64_in _ (by omega) |>.trans (by omega)
    have hw4 : IntKind.i64.wrap ((T : Int) + 2 - 1) = (T : Int) + 1 := IntWalk.i64_in _ (by omega) |>.trans (by omega)
    have hw5 : IntKind.i64.wrap ((T : Int) + 2 - 2) = (T : Int) := IntWalk.i64_in _ (by omega) |>.trans (by omega)
    go_enter Try.func20, Try.ntmps20
    go_wp2_with fail
    obtain ⟨W1, hW1⟩ : ∃ W1, W1 = W.drew := ⟨_, rfl⟩
    refine wp_region_X (fun V => V.cell? ⟨g, 5, none⟩ = some (.slice Ao KN co) ∧ V.cell? ⟨g, 2, none⟩ = some (.slice (some ⟨kb, 0, none⟩) (T + 1) cd) ∧ V.cell? ⟨kb, T, none⟩ = some (.int .u32 x)) 18 (by kernel_rfl) ?_
    show wpAnyX _ _ _ _ _ _ 19 _ _ _
    rw [← hW1] at hS0 B1 P1 O1 hszd ⊢
    clear hW1
    refine wpAnyX_pure (i := 0) (v := ?_) rfl (by kernel_rfl) (by kernel_rfl) (by kernel_rfl) (by kernel_rfl) (by kernel_rfl) (fun _ _ _ h => h) (Or.inl ⟨by rfl, ?_⟩) (fun _ => by exact hS0) ?_
    rotate_left
    · intro w hSw; (try dsimp only at hSw); go_simp; (try with_reducible rfl)
    try simp only [List.getElem_toArray, List.getElem_cons_zero, Act.put, List.setIfInBounds_toArray, List.set_cons_zero, List.set_cons_succ]
    refine wpAnyX_pure (i := 1) (v := ?_) rfl (by kernel_rfl) (by kernel_rfl) (by kernel_rfl) (by kernel_rfl) (by kernel_rfl) (fun _ _ _ h => h) (Or.inl ⟨by rfl, ?_⟩) (fun _ => by exact hS0) ?_
    rotate_left
    · intro w hSw; (try dsimp only at hSw); go_simp; (try with_reducible rfl)
    try simp only [List.getElem_toArray, List.getElem_cons_zero, List.getElem_cons_succ, Act.put, List.setIfInBounds_toArray, List.set_cons_zero, List.set_cons_succ]
    refine wpAnyX_pure (i := 2) (v := ?_) rfl (by kernel_rfl) (by kernel_rfl) (by kernel_rfl) (by kernel_rfl) (by kernel_rfl) (fun _ _ _ h => h) (Or.inl ⟨by rfl, ?_⟩) (fun _ => by exact hS0) ?_
    rotate_left
    · intro w hSw; (try dsimp only at hSw); go_simp; (try with_reducible rfl)
    try simp only [List.getElem_toArray, List.getElem_cons_zero, List.getElem_cons_succ, Act.put, List.setIfInBounds_toArray, List.set_cons_zero, List.set_cons_succ]
    refine wpAnyX_pure (i := 3) (v := ?_) rfl (by kernel_rfl) (by kernel_rfl) (by kernel_rfl) (by kernel_rfl) (by kernel_rfl) (fun _ _ _ h => h) (Or.inl ⟨by rfl, ?_⟩) (fun _ => by exact hS0) ?_
    rotate_left
    · intro w hSw; (try dsimp only at hSw); go_simp; (try with_reducible rfl)
    try simp only [List.getElem_toArray, List.getElem_cons_zero, List.getElem_cons_succ, Act.put, List.setIfInBounds_toArray, List.set_cons_zero, List.set_cons_succ]
    refine wpAnyX_take (i := 4) (v := ?_) rfl (by kernel_rfl) (by kernel_rfl) (by kernel_rfl) (by kernel_rfl) (by kernel_rfl) (fun _ _ _ h => h) (Or.inl ⟨by rfl, ?_⟩) (by exact hS0) ?_
    rotate_left
    · intro w hSw; (try dsimp only at hSw); go_simp; (try with_reducible rfl)
    try simp only [List.getElem_toArray, List.getElem_cons_zero, List.getElem_cons_succ, Act.put, List.setIfInBounds_toArray, List.set_cons_zero, List.set_cons_succ]
    refine wpAnyX_pure (i := 5) (v := ?_) rfl (by kernel_rfl) (by kernel_rfl) (by kernel_rfl) (by kernel_rfl) (by kernel_rfl) (fun _ _ _ h => h) (Or.inl ⟨by rfl, ?_⟩) (fun _ => by exact hS0) ?_
    rotate_left
    · intro w hSw; (try dsimp only at hSw); go_simp; (try with_reducible rfl)
    try simp only [List.getElem_toArray, List.getElem_cons_zero, List.getElem_cons_succ, Act.put, List.setIfInBounds_toArray, List.set_cons_zero, List.set_cons_succ]
    refine wpAnyX_pure (i := 6) (v := ?_) rfl (by kernel_rfl) (by kernel_rfl) (by kernel_rfl) (by kernel_rfl) (by kernel_rfl) (fun _ _ _ h => h) (Or.inl ⟨by rfl, ?_⟩) (fun _ => by exact hS0) ?_
    rotate_left
    · intro w hSw; (try dsimp only at hSw); go_simp; (try with_reducible rfl)
    try simp only [List.getElem_toArray, List.getElem_cons_zero, List.getElem_cons_succ, Act.put, List.setIfInBounds_toArray, List.set_cons_zero, List.set_cons_succ]
    refine wpAnyX_pure (i := 7) (v := ?_) rfl (by kernel_rfl) (by kernel_rfl) (by kernel_rfl) (by kernel_rfl) (by kernel_rfl) (fun _ _ _ h => h) (Or.inl ⟨by rfl, ?_⟩) (fun _ => by exact hS0) ?_
    rotate_left
    · intro w hSw; (try dsimp only at hSw); go_simp; (try with_reducible rfl)
    try simp only [List.getElem_toArray, List.getElem_cons_zero, List.getElem_cons_succ, Act.put, List.setIfInBounds_toArray, List.set_cons_zero, List.set_cons_succ]
    refine wpAnyX_take (i := 8) (v := ?_) rfl (by kernel_rfl) (by kernel_rfl) (by kernel_rfl) (by kernel_rfl) (by kernel_rfl) (fun _ _ _ h => h) (Or.inl ⟨by rfl, ?_⟩) (by exact hS0) ?_
    rotate_left
    · intro w hSw; (try dsimp only at hSw); go_simp; (try with_reducible rfl)
    try simp only [List.getElem_toArray, List.getElem_cons_zero, List.getElem_cons_succ, Act.put, List.setIfInBounds_toArray, List.set_cons_zero, List.set_cons_succ]
    refine wpAnyX_pure (i := 9) (v := ?_) rfl (by kernel_rfl) (by kernel_rfl) (by kernel_rfl) (by kernel_rfl) (by kernel_rfl) (fun _ _ _ h => h) (Or.inl ⟨by rfl, ?_⟩) (fun _ => by exact hS0) ?_
    rotate_left
    · intro w hSw; (try dsimp only at hSw); go_simp; (try with_reducible rfl)
    try simp only [List.getElem_toArray, List.getElem_cons_zero, List.getElem_cons_succ, Act.put, List.setIfInBounds_toArray, List.set_cons_zero, List.set_cons_succ]
    refine wpAnyX_pure (i := 10) (v := ?_) rfl (by kernel_rfl) (by kernel_rfl) (by kernel_rfl) (by kernel_rfl) (by kernel_rfl) (fun _ _ _ h => h) (Or.inl ⟨by rfl, ?_⟩) (fun _ => by exact hS0) ?_
    rotate_left
    · intro w hSw; (try dsimp only at hSw); go_simp; (try with_reducible rfl)
    try simp only [List.getElem_toArray, List.getElem_cons_zero, List.getElem_cons_succ, Act.put, List.setIfInBounds_toArray, List.set_cons_zero, List.set_cons_succ]
    refine wpAnyX_pure (i := 11) (v := ?_) rfl (by kernel_rfl) (by kernel_rfl) (by kernel_rfl) (by kernel_rfl) (by kernel_rfl) (fun _ _ _ h => h) (Or.inl ⟨by rfl, ?_⟩) (fun _ => by exact hS0) ?_
    rotate_left
    · intro w hSw; (try dsimp only at hSw); go_simp; (try with_reducible rfl)
    try simp only [List.getElem_toArray, List.getElem_cons_zero, List.getElem_cons_succ, Act.put, List.setIfInBounds_toArray, List.set_cons_zero, List.set_cons_succ]
    refine wpAnyX_take (i := 12) (v := ?_) rfl (by kernel_rfl) (by kernel_rfl) (by kernel_rfl) (by kernel_rfl) (by kernel_rfl) (fun _ _ _ h => h) (Or.inl ⟨by rfl, ?_⟩) (by exact hS0) ?_
    rotate_left
    · intro w hSw; (try dsimp only at hSw); go_simp; (try with_reducible rfl)
    try simp only [List.getElem_toArray, List.getElem_cons_zero, List.getElem_cons_succ, Act.put, List.setIfInBounds_toArray, List.set_cons_zero, List.set_cons_succ]
    refine wpAnyX_pure (i := 13) (v := ?_) rfl (by kernel_rfl) (by kernel_rfl) (by kernel_rfl) (by kernel_rfl) (by kernel_rfl) (fun _ _ _ h => h) (Or.inl ⟨by rfl, ?_⟩) (fun _ => by exact hS0) ?_
    rotate_left
    · intro w hSw; (try dsimp only at hSw); go_simp; (try with_reducible rfl)
    try simp only [List.getElem_toArray, List.getElem_cons_zero, List.getElem_cons_succ, Act.put, List.setIfInBounds_toArray, List.set_cons_zero, List.set_cons_succ]
    refine wpAnyX_one (i := 14) (by kernel_rfl) rfl (fun K hK => ?_)
    go_simp
    have B2 := Lib.hid (B1.out.alloc (.cells #[.int .u8 (b.toNat : Int)] 5))
    have P2 := Lib.hid (P1.out.alloc (.cells #[.int .u8 (b.toNat : Int)] 5))
    have hS2 : (W1.alloc (.cells #[.int .u8 (b.toNat : Int)] 5)).cell? ⟨g, 5, none⟩ = some (.slice Ao KN co) ∧ (W1.alloc (.cells #[.int .u8 (b.toNat : Int)] 5)).cell? ⟨g, 2, none⟩ = some (.slice (some ⟨kb, 0, none⟩) (T + 1) cd) ∧ (W1.alloc (.cells #[.int .u8 (b.toNat : Int)] 5)).cell? ⟨kb, T, none⟩ = some (.int .u32 x) := ⟨B2.out.cell 5, B2.out.cell 2, topAt P2.out HL.out⟩
    refine hK.out _ _ (fun _ => by exact hS2) ?_
    clear hK K
    try simp only [List.getElem_toArray, List.getElem_cons_zero, List.getElem_cons_succ, Act.put, List.setIfInBounds_toArray, List.set_cons_zero, List.set_cons_succ]
    refine wpAnyX_one (i := 15) (by kernel_rfl) rfl (fun K hK => ?_)
    refine step_push ty_u8m (by rfl) _ _ (by rfl) w0.heap.size (.slice Ao KN co) KN (bv s.out) (by rfl) (own_alloc O1.out _) _ (B b) (by rfl) (Blk.new _ _ _) rfl (Nat.le_trans hszd (by simp)) (by unfold maxLen; omega) (by omega) ?_
    intro v8 w8 hown8 hgrow8 hv8
    obtain ⟨A8, c8, rfl, _, _⟩ := own_form hown8
    have hb8 := B2.out.grown hgrow8 (fun e => ((P2.out.no _ e.symm).1 rfl))
    have hp8 := P2.out.go (O' := s.out ++ [b]) (by rw [bv_append, List.length_append, ← HKL.out]; exact hown8) hgrow8 hv8
    have hS8 : w8.cell? ⟨g, 5, none⟩ = some (.slice Ao KN co) ∧ w8.cell? ⟨g, 2, none⟩ = some (.slice (some ⟨kb, 0, none⟩) (T + 1) cd) ∧ w8.cell? ⟨kb, T, none⟩ = some (.int .u32 x) := ⟨hb8.cell 5, hb8.cell 2, topAt hp8 HL.out⟩
    have hx5 := hS8.1
    have hg2 := hS8.2.1
    have hf5 := hb8.frozen 5
    have hgf2 := hb8.frozen 2
    have HB8 := Lib.hid hb8
    have HP8 := Lib.hid hp8
    clear hown8 hgrow8 hv8 hb8 hp8
    refine hK.out _ _ (fun _ => by exact hS8) ?_
    clear hK K
    try simp only [List.getElem_toArray, List.getElem_cons_zero, List.getElem_cons_succ, Act.put, List.setIfInBounds_toArray, List.set_cons_zero, List.set_cons_succ]
    refine wpAnyX_pure (i := 16) (v := ?_) rfl (by kernel_rfl) (by kernel_rfl) (by kernel_rfl) (by kernel_rfl) (by kernel_rfl) (fun _ _ _ h => h) (Or.inl ⟨by rfl, ?_⟩) (fun _ => by exact hS8) ?_
    rotate_left
    · intro w hSw; (try dsimp only at hSw); go_simp; (try with_reducible rfl)
    try simp only [List.getElem_toArray, List.getElem_cons_zero, List.getElem_cons_succ, Act.put, List.setIfInBounds_toArray, List.set_cons_zero, List.set_cons_succ]
    refine wpAnyX_pure (i := 17) (v := ?_) rfl (by kernel_rfl) (by kernel_rfl) (by kernel_rfl) (by kernel_rfl) (by kernel_rfl) (fun _ _ _ h => h) (Or.inl ⟨by rfl, ?_⟩) (fun _ => by exact hS8) ?_
    rotate_left
    · intro w hSw; (try dsimp only at hSw); go_simp; (try with_reducible rfl)
    try simp only [List.getElem_toArray, List.getElem_cons_zero, List.getElem_cons_succ, Act.put, List.setIfInBounds_toArray, List.set_cons_zero, List.set_cons_succ]
    refine wpAnyX_one (i := 18) (by kernel_rfl) rfl (fun K hK => ?_)
    go_simp
    refine hK.out _ _ (fun h => absurd h (by decide)) ?_
    clear hK K
    try simp only [List.getElem_toArray, List.getElem_cons_zero, List.getElem_cons_succ, Act.put, List.setIfInBounds_toArray, List.set_cons_zero, List.set_cons_succ]
    refine wpAnyX_done (by kernel_rfl) ?_ _
    clear hw1 hw2 hw3 hw4 hw5
    go_wp2_with fail
    go_ret
    have hp9 := ((HP8.out.setG 5 (.slice A8 (KN + 1) c8)).setG 2 (.slice (some ⟨kb, 0, none⟩) T cd)).dtake (m := T) (D' := l) HLE.out HL.out (by rw [← HL.out]; exact take_tail x l) (by omega)
    rw [HBB.out] at hp9
    exact rgoes_yes HR.out (MR.mk_ (s := { s with out := s.out ++ [byte x], data := l }) ((HB8.out.set_ 5 _).set_ 2 _) hp9 H3.out)

end
end Mc
end Go.Proofs.Ytfjjdogjihpbnaa
