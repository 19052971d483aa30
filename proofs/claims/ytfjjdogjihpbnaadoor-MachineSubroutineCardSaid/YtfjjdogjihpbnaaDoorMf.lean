/- Walks of the machine's execute: a digit behind a digit. -/
import Derived.Test.YtfjjdogjihpbnaaDoorMe
import Derived.StillTailTactics
namespace Go.Proofs.YtfjjdogjihpbnaaDoor
open Go.RowKit
namespace Mc
section
variable {fix : List (Nat × Obj)} {w0 W : World} {g : Nat} {n : Int} {z : Bool} {bm : Value} {s : St}
set_option maxRecDepth 100000 in
set_option maxHeartbeats 4000000 in
theorem ex_digm (h : MP fix w0 W g n z bm s) (hd : s.digit = true) (hm : s.data.length ≤ 256) {x : Int} {l : List Int} (hx : s.data = x :: l) (hxw : W32 x) {c : Int} (hc : isDig c) :
    Calls Tryd.prog 33 #[.pointer (some ⟨g, 0, none⟩), .int .u32 c] W (Goes fix w0 g n z bm s.out (some { s with data := u32 (u32 (u32 (x * 10) + c) - 48) :: l }) (.tuple #[])) := by
  obtain ⟨gm, vd, vc, vo, A, ni, ci, h1, h2, h3⟩ := h
  rw [hx] at h2 hm
  obtain ⟨Ad, cd, rfl, hdc, hdm⟩ := own_sl h2.d
  obtain ⟨kb, rfl, hL, hcx, hfx, _⟩ := own_top h2.d
  obtain ⟨T, hl⟩ : ∃ T, l.length = T := ⟨_, rfl⟩
  have hLe : T + 1 = (x :: l).length := by rw [List.length_cons, hl]
  rw [← hLe] at h1 h2 hm hdc
  rw [hl] at hcx hfx
  unfold V at hcx
  have H1 := Lib.hid h1
  have H2 := Lib.hid h2
  have H3 := Lib.hid h3
  have HL := Lib.hid hl
  have HLE := Lib.hid hLe
  have hc2 := H1.out.cell 2
  rw [show (pcells gm s.pc (.slice (some ⟨kb, 0, none⟩) (T + 1) cd) vc A ni ci vo s.digit n z bm)[2]? = some (.slice (some ⟨kb, 0, none⟩) (T + 1) cd) from rfl] at hc2
  have h6 := H1.out.cell 6
  rw [show (pcells gm s.pc (.slice (some ⟨kb, 0, none⟩) (T + 1) cd) vc A ni ci vo s.digit n z bm)[6]? = some (.bool s.digit) from rfl, hd] at h6
  have hx1 := hxw.1
  have hx2 := hxw.2
  have hr2 : (0 : Int) ≤ (T : Int) := by omega
  have hr3 : (T : Int) < (T : Int) + 1 := by omega
  unfold maxLen at hdm
  have hcs : c = 48 ∨ c = 49 ∨ c = 50 ∨ c = 51 ∨ c = 52 ∨ c = 53 ∨ c = 54 ∨ c = 55 ∨ c = 56 ∨ c = 57 := by unfold isDig at hc; omega
  clear h1 h2 h3 hl hLe hL hx hd hc hxw
  rcases hcs with rfl | rfl | rfl | rfl | rfl | rfl | rfl | rfl | rfl | rfl
  all_goals
    go_enter Tryd.func33, Tryd.ntmps33
    go_wp2_with fail
    refine wp_region_still_tail 17 (by kernel_rfl) (by kernel_rfl) ?_
    simp only [List.take_succ_cons, List.take_zero, List.drop_succ_cons, List.drop_zero]
    repeat still_step
    refine wpStill_nil ?_
    change wpList _ _ _ _ _ W.drew
    go_wp2
    go_end0
    exact goes_yes rfl ⟨gm, _, vc, vo, A, ni, ci, (H1.out.far (p := ⟨kb, T, none⟩) (fun e => (H2.out.nd _ rfl).1 e.symm) _).drew, (H2.out.dset HL.out _).drew, H3.out⟩

end
end Mc
end Go.Proofs.YtfjjdogjihpbnaaDoor
