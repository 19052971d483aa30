/- Walks of the machine's execute, instruction by instruction (first part). -/
import Derived.Test.YtfjjdogjihpbnaaDoorMd
import Derived.StillTailTactics
namespace Go.Proofs.YtfjjdogjihpbnaaDoor
open Go.RowKit
namespace Mc

section
variable {fix : List (Nat × Obj)} {w0 W : World} {g : Nat} {n : Int} {z : Bool} {bm : Value} {s : St}

theorem goes_push {v : Int} (h : MP fix w0 W g n z bm s) (hm : s.data.length ≤ 256) : Calls Tryd.prog 41 #[.pointer (some ⟨g, 0, none⟩), .int .u32 v] W (Goes fix w0 g n z bm s.out (psh s v) (.tuple #[])) := by
  unfold psh
  by_cases hl : s.data.length < 256
  · rw [if_pos hl]
    exact (push_yes h hl v).mono fun e w' ⟨h1, h2, _⟩ => ⟨h1, h2⟩
  · rw [if_neg hl]
    exact (push_no h hl hm v).mono fun e w' ⟨h1, h2⟩ => ⟨h1, s, h2 ▸ h, rfl⟩

theorem goes_yes {O : List UInt8} {r : Option St} {v : Value} {w' : World} {t : St} (hr : r = some t) (h : MP fix w0 w' g n z bm t) : Goes fix w0 g n z bm O r v (.returned v) w' := by
  subst hr; exact ⟨rfl, h⟩
theorem goes_no {O : List UInt8} {r : Option St} {v : Value} {w' : World} (hr : r = none) (h : ∃ t, MP fix w0 w' g n z bm t ∧ t.out = O) : Goes fix w0 g n z bm O r v trapE w' := by
  subst hr; exact ⟨rfl, h⟩
theorem goes_cases {O : List UInt8} {r : Option St} {v : Value} {e : Ending} {w' : World} (h : Goes fix w0 g n z bm O r v e w') : (∃ t, Hid (r = some t) ∧ e = .returned v ∧ Hid (MP fix w0 w' g n z bm t)) ∨ (Hid (r = none) ∧ e = trapE ∧ Hid (∃ t, MP fix w0 w' g n z bm t ∧ t.out = O)) := by
  cases r with
  | some t => exact .inl ⟨t, rfl, h.1, h.2⟩
  | none => exact .inr ⟨rfl, h.1, h.2⟩

set_option maxRecDepth 100000 in
set_option maxHeartbeats 1000000 in
theorem ex_space (h : MP fix w0 W g n z bm s) {c : Int} (hc : c = 32 ∨ c = 10) :
    Calls Tryd.prog 33 #[.pointer (some ⟨g, 0, none⟩), .int .u32 c] W (Goes fix w0 g n z bm s.out (some s) (.tuple #[])) := by
  have H := Lib.hid h
  clear h
  rcases hc with rfl | rfl
  all_goals
    go_enter Tryd.func33, Tryd.ntmps33
    go_wp2_with fail
    go_end0
    exact ⟨rfl, H.out⟩

set_option maxRecDepth 100000 in
set_option maxHeartbeats 4000000 in
theorem ex_digp (h : MP fix w0 W g n z bm s) (hd : s.digit = false) (hm : s.data.length ≤ 256) {c : Int} (hc : isDig c) :
    Calls Tryd.prog 33 #[.pointer (some ⟨g, 0, none⟩), .int .u32 c] W (Goes fix w0 g n z bm s.out (psh s (c - 48)) (.tuple #[])) := by
  obtain ⟨Ad, cd, h2⟩ := h.dAt
  have h6 := h.digAt
  rw [hd] at h6
  have HP := Lib.hid (fun v => goes_push (v := v) h hm)
  obtain ⟨L, hL⟩ : ∃ L, L = s.data.length := ⟨_, rfl⟩
  rw [← hL] at h2 hm
  have H := Lib.hid h
  have hcs : c = 48 ∨ c = 49 ∨ c = 50 ∨ c = 51 ∨ c = 52 ∨ c = 53 ∨ c = 54 ∨ c = 55 ∨ c = 56 ∨ c = 57 := by unfold isDig at hc; omega
  clear h hd hL hc
  rcases hcs with rfl | rfl | rfl | rfl | rfl | rfl | rfl | rfl | rfl | rfl
  all_goals
    go_enter Tryd.func33, Tryd.ntmps33
    go_wp2_with fail
    refine (HP.out _).mono ?_
    intro e w' hg
    rcases goes_cases hg with ⟨t, hr, rfl, ht⟩ | ⟨hr, rfl, ht⟩
    · clear hg
      go_wp2_with fail
      go_end0
      exact goes_yes hr.out ht.out
    · exact ⟨rfl, goes_no hr.out ht.out⟩

end

end Mc
end Go.Proofs.YtfjjdogjihpbnaaDoor
