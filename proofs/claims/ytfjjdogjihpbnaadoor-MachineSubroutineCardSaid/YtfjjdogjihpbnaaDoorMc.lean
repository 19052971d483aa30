/- Walks of the machine's small functions: check, push, pop, address. -/
import Derived.Test.YtfjjdogjihpbnaaDoorMb
import Derived.Test.YtfjjdogjihpbnaaDoorRows
namespace Go.Proofs.YtfjjdogjihpbnaaDoor
open Go.RowKit
namespace Mc

theorem ty_u32 : OneTy Tryd.prog 41 22 (.int .u32 0) 4 := ⟨Tryd.underlying41, by
  obtain ⟨i0, hi, hz0, hz1, hz2⟩ := info_parts (show (Tryd.prog.info? 22).map (fun i => (i.zero, i.size, i.bytes)) = some (some (.int .u32 0), 1, 4) by kernel_rfl)
  exact ⟨i0, hi, hz0, hz1, hz2⟩, rfl⟩

/-- the panic of a trap -/
def trapE : Ending := .panicked [{ v := .iface 65 (.agg #[]), recovered := false }]

theorem check_yes (w : World) : Calls Tryd.prog 28 #[.bool true] w fun e w' => e = .returned (.tuple #[]) ∧ w = w' := by
  go_enter Tryd.func28, Tryd.ntmps28
  go_wp2
  go_end0
  exact ⟨rfl, rfl⟩
theorem check_no (w : World) : Calls Tryd.prog 28 #[.bool false] w fun e w' => e = trapE ∧ w = w' := by
  go_enter Tryd.func28, Tryd.ntmps28
  go_wp2
  exact ⟨rfl, rfl, rfl⟩

/-- the struct of the program's machine -/
def pcells (gm : Nat) (pc : Int) (vd vc : Value) (A : Option Addr) (ni ci : Nat) (vo : Value) (dg : Bool) (n : Int) (z : Bool) (bm : Value) : Array Value :=
  #[.slice (some ⟨gm, 0, none⟩) 262144 262144, .int .u32 pc, vd, vc, .slice A ni ci, vo, .bool dg, .int .i64 n, .bool z, bm]
/-- block g of W is the program's machine in state s, after n steps -/
def MP (fix : List (Nat × Obj)) (w0 W : World) (g : Nat) (n : Int) (z : Bool) (bm : Value) (s : St) : Prop :=
  ∃ gm vd vc vo A ni ci, Blk W g 46 (pcells gm s.pc vd vc A ni ci vo s.digit n z bm) ∧ Parts fix w0 W g gm s.mem vd s.data vc s.calls vo s.out ∧ Sl w0 1 A ni ci (iv s.input)
section
variable {fix : List (Nat × Obj)} {w0 W : World} {g : Nat} {n : Int} {z : Bool} {bm : Value} {s : St}
theorem MP.drewN (h : MP fix w0 W g n z bm s) (k : Nat) : MP fix w0 (W.drewN k) g n z bm s := by
  obtain ⟨gm, vd, vc, vo, A, ni, ci, h1, h2, h3⟩ := h
  exact ⟨gm, vd, vc, vo, A, ni, ci, h1.drewN k, h2.drewN k, h3⟩
theorem MP.bel (h : MP fix w0 W g n z bm s) : Below w0.heap.size w0 W := by
  obtain ⟨gm, vd, vc, vo, A, ni, ci, h1, h2, h3⟩ := h
  exact h2.bel
end

/-- of the struct, only the stack may have turned -/
def Keep2 (W w' : World) (g : Nat) : Prop := ∀ i, i ≠ 2 → w'.cell? ⟨g, i, none⟩ = W.cell? ⟨g, i, none⟩
theorem keep2_of {W w' : World} {g : Nat} {t : TypeId} {cs : Array Value} {u : Value} (h : Blk W g t cs) (h' : Blk w' g t (cs.setIfInBounds 2 u)) : Keep2 W w' g := fun i hi => by
  rw [h.cell, h'.cell, Array.getElem?_setIfInBounds, if_neg (fun e => hi e.symm)]
theorem Keep2.trans {a b c : World} {g : Nat} (h : Keep2 a b g) (k : Keep2 b c g) : Keep2 a c g := fun i hi => (k i hi).trans (h i hi)
section
variable {fix : List (Nat × Obj)} {w0 W : World} {g gm : Nat} {n : Int} {z : Bool} {bm : Value} {s : St}
theorem MP.mem0 (h : MP fix w0 W g n z bm s) : ∃ gm, W.cell? ⟨g, 0, none⟩ = some (.slice (some ⟨gm, 0, none⟩) 262144 262144) := by
  obtain ⟨gm, vd, vc, vo, A, ni, ci, h1, h2, h3⟩ := h
  exact ⟨gm, h1.cell 0⟩
theorem MP.word (h : MP fix w0 W g n z bm s) (hc : W.cell? ⟨g, 0, none⟩ = some (.slice (some ⟨gm, 0, none⟩) 262144 262144)) {a : Nat} (ha : a < 262144) : W.cell? ⟨gm, a, none⟩ = some (.int .u32 (s.mem a)) ∧ W.frozen? ⟨gm, a, none⟩ = false := by
  obtain ⟨gm', vd, vc, vo, A, ni, ci, h1, h2, h3⟩ := h
  have h4 := h1.cell 0
  rw [hc] at h4
  have h5 : some (Value.slice (some ⟨gm, 0, none⟩) 262144 262144) = some (Value.slice (some ⟨gm', 0, none⟩) 262144 262144) := h4
  simp only [Option.some.injEq, Value.slice.injEq, Addr.mk.injEq, and_true] at h5
  subst h5
  exact ⟨h2.word ha, h2.wordF a⟩
theorem MP.setM (h : MP fix w0 W g n z bm s) (hc : W.cell? ⟨g, 0, none⟩ = some (.slice (some ⟨gm, 0, none⟩) 262144 262144)) {a : Nat} (ha : a < 262144) (x : Int) : MP fix w0 (W.setCell ⟨gm, a, none⟩ (.int .u32 x)) g n z bm { s with mem := put s.mem a x } := by
  obtain ⟨gm', vd, vc, vo, A, ni, ci, h1, h2, h3⟩ := h
  have h4 := h1.cell 0
  rw [hc] at h4
  have h5 : some (Value.slice (some ⟨gm, 0, none⟩) 262144 262144) = some (Value.slice (some ⟨gm', 0, none⟩) 262144 262144) := h4
  simp only [Option.some.injEq, Value.slice.injEq, Addr.mk.injEq, and_true] at h5
  subst h5
  exact ⟨gm, vd, vc, vo, A, ni, ci, h1.far (p := ⟨gm, a, none⟩) (fun e => h2.mb.2 e.symm) _, h2.setM ha x, h3⟩
theorem MP.pcAt (h : MP fix w0 W g n z bm s) : W.cell? ⟨g, 1, none⟩ = some (.int .u32 s.pc) := by
  obtain ⟨gm, vd, vc, vo, A, ni, ci, h1, h2, h3⟩ := h
  exact h1.cell 1
theorem MP.fr (h : MP fix w0 W g n z bm s) (i : Nat) : W.frozen? ⟨g, i, none⟩ = false := by
  obtain ⟨gm, vd, vc, vo, A, ni, ci, h1, h2, h3⟩ := h
  exact h1.frozen i
theorem MP.setPc (h : MP fix w0 W g n z bm s) (x : Int) : MP fix w0 (W.setCell ⟨g, 1, none⟩ (.int .u32 x)) g n z bm { s with pc := x } := by
  obtain ⟨gm, vd, vc, vo, A, ni, ci, h1, h2, h3⟩ := h
  exact ⟨gm, vd, vc, vo, A, ni, ci, h1.set_ 1 _, h2.setG 1 _, h3⟩
theorem MP.dAt (h : MP fix w0 W g n z bm s) : ∃ A c, W.cell? ⟨g, 2, none⟩ = some (.slice A s.data.length c) := by
  obtain ⟨gm, vd, vc, vo, A, ni, ci, h1, h2, h3⟩ := h
  obtain ⟨Ad, cd, rfl, hdc, hdm⟩ := own_sl h2.d
  exact ⟨Ad, cd, h1.cell 2⟩
theorem MP.cAt (h : MP fix w0 W g n z bm s) : ∃ A c, W.cell? ⟨g, 3, none⟩ = some (.slice A s.calls.length c) := by
  obtain ⟨gm, vd, vc, vo, A, ni, ci, h1, h2, h3⟩ := h
  obtain ⟨Ad, cd, rfl, hdc, hdm⟩ := own_sl h2.c
  exact ⟨Ad, cd, h1.cell 3⟩
theorem MP.digAt (h : MP fix w0 W g n z bm s) : W.cell? ⟨g, 6, none⟩ = some (.bool s.digit) := by
  obtain ⟨gm, vd, vc, vo, A, ni, ci, h1, h2, h3⟩ := h
  exact h1.cell 6
theorem MP.setDig (h : MP fix w0 W g n z bm s) (x : Bool) : MP fix w0 (W.setCell ⟨g, 6, none⟩ (.bool x)) g n z bm { s with digit := x } := by
  obtain ⟨gm, vd, vc, vo, A, ni, ci, h1, h2, h3⟩ := h
  exact ⟨gm, vd, vc, vo, A, ni, ci, h1.set_ 6 _, h2.setG 6 _, h3⟩
theorem MP.stAt (h : MP fix w0 W g n z bm s) : W.cell? ⟨g, 7, none⟩ = some (.int .i64 n) := by
  obtain ⟨gm, vd, vc, vo, A, ni, ci, h1, h2, h3⟩ := h
  exact h1.cell 7
theorem MP.setSt (h : MP fix w0 W g n z bm s) (m : Int) : MP fix w0 (W.setCell ⟨g, 7, none⟩ (.int .i64 m)) g m z bm s := by
  obtain ⟨gm, vd, vc, vo, A, ni, ci, h1, h2, h3⟩ := h
  exact ⟨gm, vd, vc, vo, A, ni, ci, h1.set_ 7 _, h2.setG 7 _, h3⟩
theorem MP.zAt (h : MP fix w0 W g n z bm s) : W.cell? ⟨g, 8, none⟩ = some (.bool z) := by
  obtain ⟨gm, vd, vc, vo, A, ni, ci, h1, h2, h3⟩ := h
  exact h1.cell 8
theorem MP.setZ (h : MP fix w0 W g n z bm s) (m : Bool) : MP fix w0 (W.setCell ⟨g, 8, none⟩ (.bool m)) g n m bm s := by
  obtain ⟨gm, vd, vc, vo, A, ni, ci, h1, h2, h3⟩ := h
  exact ⟨gm, vd, vc, vo, A, ni, ci, h1.set_ 8 _, h2.setG 8 _, h3⟩
theorem MP.bmAt (h : MP fix w0 W g n z bm s) : W.cell? ⟨g, 9, none⟩ = some bm := by
  obtain ⟨gm, vd, vc, vo, A, ni, ci, h1, h2, h3⟩ := h
  exact h1.cell 9
theorem MP.fixAt (h : MP fix w0 W g n z bm s) {p : Nat × Obj} (hp : p ∈ fix) : W.heap[p.1]? = some p.2 := by
  obtain ⟨gm, vd, vc, vo, A, ni, ci, h1, h2, h3⟩ := h
  exact (h2.f p hp).1
theorem MP.drew (h : MP fix w0 W g n z bm s) : MP fix w0 W.drew g n z bm s := by
  obtain ⟨gm, vd, vc, vo, A, ni, ci, h1, h2, h3⟩ := h
  exact ⟨gm, vd, vc, vo, A, ni, ci, h1.drew, h2.drew, h3⟩
theorem MP.alloc (h : MP fix w0 W g n z bm s) (o : Obj) : MP fix w0 (W.alloc o) g n z bm s := by
  obtain ⟨gm, vd, vc, vo, A, ni, ci, h1, h2, h3⟩ := h
  exact ⟨gm, vd, vc, vo, A, ni, ci, h1.alloc o, h2.alloc o, h3⟩
end

/-- a call that traps leaves the output as it was -/
def Traps (fix : List (Nat × Obj)) (w0 : World) (g : Nat) (n : Int) (z : Bool) (bm : Value) (O : List UInt8) (e : Ending) (w' : World) : Prop := e = trapE ∧ ∃ t, MP fix w0 w' g n z bm t ∧ t.out = O
/-- what a call of the machine leaves: the next state, or a trap -/
def Goes (fix : List (Nat × Obj)) (w0 : World) (g : Nat) (n : Int) (z : Bool) (bm : Value) (O : List UInt8) (r : Option St) (v : Value) (e : Ending) (w' : World) : Prop :=
  match r with
  | some t => e = .returned v ∧ MP fix w0 w' g n z bm t
  | none => Traps fix w0 g n z bm O e w'

set_option maxRecDepth 100000 in
set_option maxHeartbeats 1000000 in
theorem push_yes {fix : List (Nat × Obj)} {w0 W : World} {g : Nat} {n : Int} {z : Bool} {bm : Value} {s : St} (h : MP fix w0 W g n z bm s) (hl : s.data.length < 256) (x : Int) :
    Calls Tryd.prog 41 #[.pointer (some ⟨g, 0, none⟩), .int .u32 x] W fun e w' => e = .returned (.tuple #[]) ∧ MP fix w0 w' g n z bm { s with data := x :: s.data } ∧ Keep2 W w' g := by
  obtain ⟨gm, vd, vc, vo, A, ni, ci, h1, h2, h3⟩ := h
  obtain ⟨Ad, cd, rfl, hdc, hdm⟩ := own_sl h2.d
  have H1 := Lib.hid h1
  have H2 := Lib.hid h2
  have H3 := Lib.hid h3
  have hd := h2.d
  have hsz := h2.sz
  obtain ⟨L, hL⟩ : ∃ L, L = s.data.length := ⟨_, rfl⟩
  have HL := Lib.hid hL
  rw [← hL] at hl hdc H2 hd H1
  have HD := Lib.hid hd
  have hc2 := H1.out.cell 2
  rw [show (pcells gm s.pc (.slice Ad L cd) vc A ni ci vo s.digit n z bm)[2]? = some (.slice Ad L cd) from rfl] at hc2
  have hf2 := H1.out.frozen 2
  clear h1 h2 h3 hL hd
  have hdt : decide ((L : Int) < 256) = true := by simp; omega
  unfold maxLen at hdm
  go_enter Tryd.func41, Tryd.ntmps41
  go_wp2_with fail
  refine (check_yes _).mono ?_
  rintro e w' ⟨rfl, rfl⟩
  go_wp2_with (at_builtin; refine wpl_push ty_u32 rfl _ _ rfl w0.heap.size (.slice Ad L cd) L (iv s.data.reverse) rfl (own_alloc HD.out _) _ (.int .u32 x) rfl (Blk.new _ _ _) rfl (Nat.le_trans hsz (by simp)) (by unfold maxLen; omega) (by omega) ?_; intro v8 w8 hown8 hgrow8 hv8; obtain ⟨A8, c8, rfl, _, _⟩ := own_form hown8; have hb8 := (H1.out.alloc _).grown hgrow8 (fun e => ((H2.out.nd _ e.symm).1 rfl)); have hc8 := hb8.cell 2; have hf8 := hb8.frozen 2; rw [show (pcells gm s.pc (.slice Ad L cd) vc A ni ci vo s.digit n z bm)[2]? = some (.slice Ad L cd) from rfl] at hc8; have HO8 := Lib.hid hown8; have HG8 := Lib.hid hgrow8; have HV8 := Lib.hid hv8; have HB8 := Lib.hid hb8; clear hown8 hgrow8 hv8 hb8)
  go_end0
  have hk : Keep2 W (w8.setCell ⟨g, 2, none⟩ (.slice A8 (L + 1) c8)) g := fun i hi => by
    rw [(HB8.out.set_ 2 _).cell, Array.getElem?_setIfInBounds, if_neg (fun e => hi e.symm), H1.out.cell]
  refine ⟨rfl, ⟨gm, _, vc, vo, A, ni, ci, HB8.out.set_ 2 _, ((H2.out.alloc _).gd (D' := x :: s.data) ?_ HG8.out HV8.out).setG 2 _, H3.out⟩, hk⟩
  rw [List.reverse_cons, iv_app, List.length_cons, ← HL.out]
  exact HO8.out

set_option maxRecDepth 100000 in
set_option maxHeartbeats 1000000 in
theorem push_no {fix : List (Nat × Obj)} {w0 W : World} {g : Nat} {n : Int} {z : Bool} {bm : Value} {s : St} (h : MP fix w0 W g n z bm s) (hl : ¬ s.data.length < 256) (hm : s.data.length ≤ 256) (x : Int) :
    Calls Tryd.prog 41 #[.pointer (some ⟨g, 0, none⟩), .int .u32 x] W fun e w' => e = trapE ∧ W = w' := by
  obtain ⟨gm, vd, vc, vo, A, ni, ci, h1, h2, h3⟩ := h
  obtain ⟨Ad, cd, rfl, hdc, hdm⟩ := own_sl h2.d
  obtain ⟨L, hL⟩ : ∃ L, L = s.data.length := ⟨_, rfl⟩
  have hc2 := h1.cell 2
  rw [show (pcells gm s.pc (.slice Ad s.data.length cd) vc A ni ci vo s.digit n z bm)[2]? = some (.slice Ad s.data.length cd) from rfl, ← hL] at hc2
  rw [← hL] at hl hm
  clear h1 h2 h3 hL hdc
  have hdt : decide ((L : Int) < 256) = false := by simp; omega
  go_enter Tryd.func41, Tryd.ntmps41
  go_wp2_with fail
  refine (check_no _).mono ?_
  rintro e w' ⟨rfl, rfl⟩
  exact ⟨rfl, rfl, rfl⟩

set_option maxRecDepth 100000 in
set_option maxHeartbeats 1000000 in
theorem pop_yes {fix : List (Nat × Obj)} {w0 W : World} {g : Nat} {n : Int} {z : Bool} {bm : Value} {s : St} (h : MP fix w0 W g n z bm s) {x : Int} {l : List Int} (hx : s.data = x :: l) (hm : s.data.length ≤ 256) :
    Calls Tryd.prog 43 #[.pointer (some ⟨g, 0, none⟩)] W fun e w' => e = .returned (.int .u32 x) ∧ MP fix w0 w' g n z bm { s with data := l } ∧ Keep2 W w' g := by
  obtain ⟨gm, vd, vc, vo, A, ni, ci, h1, h2, h3⟩ := h
  rw [hx] at h2
  obtain ⟨Ad, cd, rfl, hdc, hdm⟩ := own_sl h2.d
  obtain ⟨kb, rfl, hL, hcx, hfx, _⟩ := own_top h2.d
  rw [hx] at hm
  obtain ⟨L, hLe⟩ : ∃ L, L = (x :: l).length := ⟨_, rfl⟩
  rw [← hLe] at h1 h2 hm hdc
  have hl : l.length = L - 1 := by rw [hLe]; simp
  have hL1 : 1 ≤ L := by rw [hLe]; simp
  rw [hl] at hcx hfx
  unfold V at hcx
  have H1 := Lib.hid h1
  have H2 := Lib.hid h2
  have H3 := Lib.hid h3
  have HL := Lib.hid hl
  have HLE := Lib.hid hLe
  have hc2 := H1.out.cell 2
  rw [show (pcells gm s.pc (.slice (some ⟨kb, 0, none⟩) L cd) vc A ni ci vo s.digit n z bm)[2]? = some (.slice (some ⟨kb, 0, none⟩) L cd) from rfl] at hc2
  have hf2 := H1.out.frozen 2
  clear h1 h2 h3 hl hLe hL hx
  have hdt : decide (0 < (L : Int)) = true := by simp; omega
  have hdt2 : decide (0 < L) = true := by simp; omega
  have hne : ¬ L = 0 := by omega
  unfold maxLen at hdm
  go_enter Tryd.func43, Tryd.ntmps43
  go_wp2_with fail
  refine (check_yes _).mono ?_
  rintro e w' ⟨rfl, rfl⟩
  go_wp2_with fail
  go_ret
  exact ⟨rfl, ⟨gm, _, vc, vo, A, ni, ci, H1.out.set_ 2 _, (H2.out.dtake (m := L - 1) (D' := l) HLE.out HL.out (by rw [← HL.out]; exact take_tail x l) (by omega)).setG 2 _, H3.out⟩, keep2_of H1.out (H1.out.set_ 2 _)⟩

set_option maxRecDepth 100000 in
set_option maxHeartbeats 1000000 in
theorem pop_no {fix : List (Nat × Obj)} {w0 W : World} {g : Nat} {n : Int} {z : Bool} {bm : Value} {s : St} (h : MP fix w0 W g n z bm s) (hx : s.data = []) :
    Calls Tryd.prog 43 #[.pointer (some ⟨g, 0, none⟩)] W fun e w' => e = trapE ∧ W = w' := by
  obtain ⟨gm, vd, vc, vo, A, ni, ci, h1, h2, h3⟩ := h
  rw [hx] at h2
  obtain ⟨Ad, cd, rfl, hdc, hdm⟩ := own_sl h2.d
  have hc2 := h1.cell 2
  rw [show (pcells gm s.pc (.slice Ad ([] : List Int).length cd) vc A ni ci vo s.digit n z bm)[2]? = some (.slice Ad 0 cd) from rfl] at hc2
  clear h1 h2 h3 hdc hx
  go_enter Tryd.func43, Tryd.ntmps43
  go_wp2_with fail
  refine (check_no _).mono ?_
  rintro e w' ⟨rfl, rfl⟩
  exact ⟨rfl, rfl, rfl⟩

set_option maxHeartbeats 1000000 in
theorem addr_yes {fix : List (Nat × Obj)} {w0 W : World} {g : Nat} {n : Int} {z : Bool} {bm : Value} {s : St} (h : MP fix w0 W g n z bm s) {x : Int} {l : List Int} (hx : s.data = x :: l) (hm : s.data.length ≤ 256) (hlt : x < 262144) :
    Calls Tryd.prog 42 #[.pointer (some ⟨g, 0, none⟩)] W fun e w' => e = .returned (.int .u32 x) ∧ MP fix w0 w' g n z bm { s with data := l } ∧ Keep2 W w' g := by
  have HC := Lib.hid (pop_yes h hx hm)
  clear h hx hm
  have hdt : decide (x < 262144) = true := by simpa using hlt
  go_enter Tryd.func42, Tryd.ntmps42
  go_wp2_with fail
  refine HC.out.mono ?_
  rintro e w1 ⟨rfl, h1, k1⟩
  have H1 := Lib.hid h1
  have K1 := Lib.hid k1
  clear h1 k1
  go_wp2_with fail
  refine (check_yes _).mono ?_
  rintro e w' ⟨rfl, rfl⟩
  go_wp2_with fail
  go_ret
  exact ⟨rfl, H1.out, K1.out⟩
set_option maxHeartbeats 1000000 in
theorem addr_far {fix : List (Nat × Obj)} {w0 W : World} {g : Nat} {n : Int} {z : Bool} {bm : Value} {s : St} (h : MP fix w0 W g n z bm s) {x : Int} {l : List Int} (hx : s.data = x :: l) (hm : s.data.length ≤ 256) (hlt : 262144 ≤ x) :
    Calls Tryd.prog 42 #[.pointer (some ⟨g, 0, none⟩)] W (Traps fix w0 g n z bm s.out) := by
  have HC := Lib.hid (pop_yes h hx hm)
  clear h hx hm
  have hdt : decide (x < 262144) = false := by simp; omega
  go_enter Tryd.func42, Tryd.ntmps42
  go_wp2_with fail
  refine HC.out.mono ?_
  rintro e w1 ⟨rfl, h1, _⟩
  have H1 := Lib.hid h1
  clear h1
  go_wp2_with fail
  refine (check_no _).mono ?_
  rintro e w' ⟨rfl, rfl⟩
  exact ⟨rfl, rfl, _, H1.out, rfl⟩
set_option maxHeartbeats 1000000 in
theorem addr_no {fix : List (Nat × Obj)} {w0 W : World} {g : Nat} {n : Int} {z : Bool} {bm : Value} {s : St} (h : MP fix w0 W g n z bm s) (hx : s.data = []) :
    Calls Tryd.prog 42 #[.pointer (some ⟨g, 0, none⟩)] W fun e w' => e = trapE ∧ W = w' := by
  have HC := Lib.hid (pop_no h hx)
  clear h hx
  go_enter Tryd.func42, Tryd.ntmps42
  go_wp2_with fail
  refine HC.out.mono ?_
  rintro e w1 ⟨rfl, rfl⟩
  exact ⟨rfl, rfl, rfl⟩

end Mc
end Go.Proofs.YtfjjdogjihpbnaaDoor
