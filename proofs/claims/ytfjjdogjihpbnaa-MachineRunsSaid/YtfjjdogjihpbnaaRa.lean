/- The reference's machine in memory; walks of its push and operate. -/
import Derived.Test.YtfjjdogjihpbnaaMj
namespace Go.Proofs.Ytfjjdogjihpbnaa
open Go.RowKit
namespace Mc

/-- the struct of the reference's machine -/
def rcells (gm : Nat) (pc : Int) (vd vc : Value) (A : Option Addr) (ni ci : Nat) (vo : Value) (dg : Bool) : Array Value :=
  #[.slice (some ⟨gm, 0, none⟩) 262144 262144, .int .u32 pc, vd, vc, .slice A ni ci, vo, .bool dg]
/-- block g of W is the reference's machine in state s -/
def MR (fix : List (Nat × Obj)) (w0 W : World) (g : Nat) (s : St) : Prop :=
  ∃ gm vd vc vo A ni ci, Blk W g 60 (rcells gm s.pc vd vc A ni ci vo s.digit) ∧ Parts fix w0 W g gm s.mem vd s.data vc s.calls vo s.out ∧ Sl w0 1 A ni ci (iv s.input)
/-- what a step of the reference leaves -/
def RGoes (fix : List (Nat × Obj)) (w0 : World) (g : Nat) (O : List UInt8) (r : Option St) (e : Ending) (w' : World) : Prop :=
  match r with
  | some t => e = .returned (.bool true) ∧ MR fix w0 w' g t
  | none => e = .returned (.bool false) ∧ ∃ t, MR fix w0 w' g t ∧ t.out = O
section
variable {fix : List (Nat × Obj)} {w0 W : World} {g gm : Nat} {s : St}
theorem rgoes_yes {O : List UInt8} {r : Option St} {w' : World} {t : St} (hr : r = some t) (h : MR fix w0 w' g t) : RGoes fix w0 g O r (.returned (.bool true)) w' := by
  subst hr; exact ⟨rfl, h⟩
theorem rgoes_no {O : List UInt8} {r : Option St} {w' : World} (hr : r = none) (h : ∃ t, MR fix w0 w' g t ∧ t.out = O) : RGoes fix w0 g O r (.returned (.bool false)) w' := by
  subst hr; exact ⟨rfl, h⟩
theorem rgoes_cases {O : List UInt8} {r : Option St} {e : Ending} {w' : World} (h : RGoes fix w0 g O r e w') : (∃ t, Hid (r = some t) ∧ e = .returned (.bool true) ∧ Hid (MR fix w0 w' g t)) ∨ (Hid (r = none) ∧ e = .returned (.bool false) ∧ Hid (∃ t, MR fix w0 w' g t ∧ t.out = O)) := by
  cases r with
  | some t => exact .inl ⟨t, rfl, h.1, h.2⟩
  | none => exact .inr ⟨rfl, h.1, h.2⟩
theorem MR.bel (h : MR fix w0 W g s) : Below w0.heap.size w0 W := by
  obtain ⟨gm, vd, vc, vo, A, ni, ci, h1, h2, h3⟩ := h
  exact h2.bel
theorem MR.drewN (h : MR fix w0 W g s) (k : Nat) : MR fix w0 (W.drewN k) g s := by
  obtain ⟨gm, vd, vc, vo, A, ni, ci, h1, h2, h3⟩ := h
  exact ⟨gm, vd, vc, vo, A, ni, ci, h1.drewN k, h2.drewN k, h3⟩
theorem MR.drew (h : MR fix w0 W g s) : MR fix w0 W.drew g s := by
  obtain ⟨gm, vd, vc, vo, A, ni, ci, h1, h2, h3⟩ := h
  exact ⟨gm, vd, vc, vo, A, ni, ci, h1.drew, h2.drew, h3⟩
theorem MR.mem0 (h : MR fix w0 W g s) : ∃ gm, W.cell? ⟨g, 0, none⟩ = some (.slice (some ⟨gm, 0, none⟩) 262144 262144) := by
  obtain ⟨gm, vd, vc, vo, A, ni, ci, h1, h2, h3⟩ := h
  exact ⟨gm, h1.cell 0⟩
theorem MR.word (h : MR fix w0 W g s) (hc : W.cell? ⟨g, 0, none⟩ = some (.slice (some ⟨gm, 0, none⟩) 262144 262144)) {a : Nat} (ha : a < 262144) : W.cell? ⟨gm, a, none⟩ = some (.int .u32 (s.mem a)) ∧ W.frozen? ⟨gm, a, none⟩ = false := by
  obtain ⟨gm', vd, vc, vo, A, ni, ci, h1, h2, h3⟩ := h
  have h4 := h1.cell 0
  rw [hc] at h4
  have h5 : some (Value.slice (some ⟨gm, 0, none⟩) 262144 262144) = some (Value.slice (some ⟨gm', 0, none⟩) 262144 262144) := h4
  simp only [Option.some.injEq, Value.slice.injEq, Addr.mk.injEq, and_true] at h5
  subst h5
  exact ⟨h2.word ha, h2.wordF a⟩
theorem MR.setM (h : MR fix w0 W g s) (hc : W.cell? ⟨g, 0, none⟩ = some (.slice (some ⟨gm, 0, none⟩) 262144 262144)) {a : Nat} (ha : a < 262144) (x : Int) : MR fix w0 (W.setCell ⟨gm, a, none⟩ (.int .u32 x)) g { s with mem := put s.mem a x } := by
  obtain ⟨gm', vd, vc, vo, A, ni, ci, h1, h2, h3⟩ := h
  have h4 := h1.cell 0
  rw [hc] at h4
  have h5 : some (Value.slice (some ⟨gm, 0, none⟩) 262144 262144) = some (Value.slice (some ⟨gm', 0, none⟩) 262144 262144) := h4
  simp only [Option.some.injEq, Value.slice.injEq, Addr.mk.injEq, and_true] at h5
  subst h5
  exact ⟨gm, vd, vc, vo, A, ni, ci, h1.far (p := ⟨gm, a, none⟩) (fun e => h2.mb.2 e.symm) _, h2.setM ha x, h3⟩
theorem MR.fr (h : MR fix w0 W g s) (i : Nat) : W.frozen? ⟨g, i, none⟩ = false := by
  obtain ⟨gm, vd, vc, vo, A, ni, ci, h1, h2, h3⟩ := h
  exact h1.frozen i
theorem MR.pcAt (h : MR fix w0 W g s) : W.cell? ⟨g, 1, none⟩ = some (.int .u32 s.pc) := by
  obtain ⟨gm, vd, vc, vo, A, ni, ci, h1, h2, h3⟩ := h
  exact h1.cell 1
theorem MR.setPc (h : MR fix w0 W g s) (x : Int) : MR fix w0 (W.setCell ⟨g, 1, none⟩ (.int .u32 x)) g { s with pc := x } := by
  obtain ⟨gm, vd, vc, vo, A, ni, ci, h1, h2, h3⟩ := h
  exact ⟨gm, vd, vc, vo, A, ni, ci, h1.set_ 1 _, h2.setG 1 _, h3⟩
theorem MR.digAt (h : MR fix w0 W g s) : W.cell? ⟨g, 6, none⟩ = some (.bool s.digit) := by
  obtain ⟨gm, vd, vc, vo, A, ni, ci, h1, h2, h3⟩ := h
  exact h1.cell 6
theorem MR.setDig (h : MR fix w0 W g s) (x : Bool) : MR fix w0 (W.setCell ⟨g, 6, none⟩ (.bool x)) g { s with digit := x } := by
  obtain ⟨gm, vd, vc, vo, A, ni, ci, h1, h2, h3⟩ := h
  exact ⟨gm, vd, vc, vo, A, ni, ci, h1.set_ 6 _, h2.setG 6 _, h3⟩
theorem MR.dAt (h : MR fix w0 W g s) : ∃ A c, W.cell? ⟨g, 2, none⟩ = some (.slice A s.data.length c) := by
  obtain ⟨gm, vd, vc, vo, A, ni, ci, h1, h2, h3⟩ := h
  obtain ⟨Ad, cd, rfl, hdc, hdm⟩ := own_sl h2.d
  exact ⟨Ad, cd, h1.cell 2⟩
theorem MR.cAt (h : MR fix w0 W g s) : ∃ A c, W.cell? ⟨g, 3, none⟩ = some (.slice A s.calls.length c) := by
  obtain ⟨gm, vd, vc, vo, A, ni, ci, h1, h2, h3⟩ := h
  obtain ⟨Ad, cd, rfl, hdc, hdm⟩ := own_sl h2.c
  exact ⟨Ad, cd, h1.cell 3⟩
theorem MR.mk_ {vd vc vo : Value} {A : Option Addr} {ni ci : Nat} (h1 : Blk W g 60 (rcells gm s.pc vd vc A ni ci vo s.digit)) (h2 : Parts fix w0 W g gm s.mem vd s.data vc s.calls vo s.out) (h3 : Sl w0 1 A ni ci (iv s.input)) : MR fix w0 W g s := ⟨gm, vd, vc, vo, A, ni, ci, h1, h2, h3⟩

set_option maxRecDepth 100000 in
set_option maxHeartbeats 1000000 in
theorem rpush (h : MR fix w0 W g s) (hm : s.data.length ≤ 256) (x : Int) :
    Calls Try.prog 37 #[.pointer (some ⟨g, 0, none⟩), .int .u32 x] W (RGoes fix w0 g s.out (psh s x)) := by
  by_cases hl : s.data.length < 256
  · have HR := Lib.hid (show psh s x = some { s with data := x :: s.data } by unfold psh; rw [if_pos hl])
    obtain ⟨gm, vd, vc, vo, A, ni, ci, h1, h2, h3⟩ := h
    obtain ⟨Ad, cd, rfl, hdc, hdm⟩ := own_sl h2.d
    have H1 := Lib.hid h1
    have H2 := Lib.hid h2
    have H3 := Lib.hid h3
    have hd := h2.d
    have hsz := h2.sz
    obtain ⟨L, hL⟩ : ∃ L, L = s.data.length := ⟨_, rfl⟩
    have HL := Lib.hid hL
    rw [← hL] at hl hdc H2 hd H1
    have HD := Lib.hid hd
    have hc2 := H1.out.cell 2
    rw [show (rcells gm s.pc (.slice Ad L cd) vc A ni ci vo s.digit)[2]? = some (.slice Ad L cd) from rfl] at hc2
    have hf2 := H1.out.frozen 2
    clear h1 h2 h3 hL hd hm
    have hdt : decide ((256 : Int) ≤ (L : Int)) = false := by simp; omega
    unfold maxLen at hdm
    go_enter Try.func37, Try.ntmps37
    go_wp2_with (at_builtin; refine wpl_push ty_u32 rfl _ _ rfl w0.heap.size (.slice Ad L cd) L (iv s.data.reverse) rfl (own_alloc HD.out _) _ (.int .u32 x) rfl (Blk.new _ _ _) rfl (Nat.le_trans hsz (by simp)) (by unfold maxLen; omega) (by omega) ?_; intro v8 w8 hown8 hgrow8 hv8; obtain ⟨A8, c8, rfl, _, _⟩ := own_form hown8; have hb8 := (H1.out.alloc _).grown hgrow8 (fun e => ((H2.out.nd _ e.symm).1 rfl)); have hc8 := hb8.cell 2; have hf8 := hb8.frozen 2; rw [show (rcells gm s.pc (.slice Ad L cd) vc A ni ci vo s.digit)[2]? = some (.slice Ad L cd) from rfl] at hc8; have HO8 := Lib.hid hown8; have HG8 := Lib.hid hgrow8; have HV8 := Lib.hid hv8; have HB8 := Lib.hid hb8; clear hown8 hgrow8 hv8 hb8)
    go_ret
    refine rgoes_yes HR.out (MR.mk_ (HB8.out.set_ 2 _) (((H2.out.alloc _).gd (D' := x :: s.data) ?_ HG8.out HV8.out).setG 2 _) H3.out)
    rw [List.reverse_cons, iv_app, List.length_cons, ← HL.out]
    exact HO8.out
  · have HR := Lib.hid (show psh s x = none by unfold psh; rw [if_neg hl])
    obtain ⟨Ad, cd, hc2⟩ := h.dAt
    have H := Lib.hid h
    obtain ⟨L, hL⟩ : ∃ L, L = s.data.length := ⟨_, rfl⟩
    rw [← hL] at hl hc2 hm
    clear h hL
    have hdt : decide ((256 : Int) ≤ (L : Int)) = true := by simp; omega
    go_enter Try.func37, Try.ntmps37
    go_wp2_with fail
    go_ret
    exact rgoes_no HR.out ⟨s, H.out, rfl⟩
end

/-- what operate leaves -/
def OpPost (r : Option Int) (w : World) (e : Ending) (w' : World) : Prop := e = .returned (.tuple #[.int .u32 (r.getD 0), .bool r.isSome]) ∧ w' = w
set_option maxRecDepth 100000 in
set_option maxHeartbeats 2000000 in
theorem operate_f (w : World) {c a b : Int} (hc : isBin c) (ha : W32 a) (hb : W32 b) : Calls Try.prog 38 #[.int .u32 c, .int .u32 a, .int .u32 b] w (OpPost (bin c a b) w) := by
  have h1 := ha.1
  have h2 := ha.2
  have h3 := hb.1
  have h4 := hb.2
  unfold isBin at hc
  unfold OpPost
  rcases hc with rfl | rfl | rfl | rfl | rfl | rfl | rfl
  · rw [show bin 43 a b = some (u32 (a + b)) from rfl]
    go_enter Try.func38, Try.ntmps38
    go_wp2
    go_ret2
    exact ⟨rfl, rfl⟩
  · rw [show bin 45 a b = some (u32 (a - b)) from rfl]
    go_enter Try.func38, Try.ntmps38
    go_wp2
    go_ret2
    exact ⟨rfl, rfl⟩
  · rw [show bin 42 a b = some (u32 (a * b)) from rfl]
    go_enter Try.func38, Try.ntmps38
    go_wp2
    go_ret2
    exact ⟨rfl, rfl⟩
  · by_cases h0 : b = 0
    · subst h0
      rw [show bin 47 a 0 = none from rfl]
      go_enter Try.func38, Try.ntmps38
      go_wp2
      go_ret2
      exact ⟨rfl, rfl⟩
    · rw [show bin 47 a b = some (a / b) by simp [bin, h0]]
      have h5 : (b == 0) = false := by simp [h0]
      have h6 : 1 ≤ b := by omega
      clear h0
      go_enter Try.func38, Try.ntmps38
      go_wp2
      go_ret2
      exact ⟨rfl, rfl⟩
  · by_cases h0 : b = 0
    · subst h0
      rw [show bin 37 a 0 = none from rfl]
      go_enter Try.func38, Try.ntmps38
      go_wp2
      go_ret2
      exact ⟨rfl, rfl⟩
    · rw [show bin 37 a b = some (a % b) by simp [bin, h0]]
      have h5 : (b == 0) = false := by simp [h0]
      have h6 : 1 ≤ b := by omega
      clear h0
      go_enter Try.func38, Try.ntmps38
      go_wp2
      go_ret2
      exact ⟨rfl, rfl⟩
  · rw [show bin 94 a b = some ((a.toNat ^^^ b.toNat : Nat) : Int) from rfl]
    go_enter Try.func38, Try.ntmps38
    go_wp2
    go_ret2
    rw [← u32_xor a b h1 (by omega) h3 (by omega)]
    exact ⟨rfl, rfl⟩
  · by_cases h : a < b
    · rw [show bin 60 a b = some 1 by simp [bin, h]]
      go_enter Try.func38, Try.ntmps38
      go_wp2
      go_ret2
      exact ⟨rfl, rfl⟩
    · rw [show bin 60 a b = some 0 by simp [bin, h]]
      go_enter Try.func38, Try.ntmps38
      go_wp2
      go_ret2
      exact ⟨rfl, rfl⟩

end Mc
end Go.Proofs.Ytfjjdogjihpbnaa
