/- The lexer's walks: literal, name, number. -/
import Derived.Test.YtnfgjbeifdfkaaaDoorTe
namespace Go.Proofs.YtnfgjbeifdfkaaaDoor
open Go.RowKit
set_option linter.unusedVariables false
namespace Lx

/-- a token that has been found; an error -/
def OkP (w : World) (k : Nat) (t : Bs) (n : Nat) (e : Ending) (w' : World) : Prop := e = .returned (.tuple #[.agg #[.int .i64 (k : Int), .string (ofL t), .int .i64 0], .int .i64 (n : Int), .int .i64 0]) ∧ Below w.heap.size w w'
def ErrP (w : World) (x : Nat) (e : Ending) (w' : World) : Prop := e = .returned (.tuple #[.agg #[.int .i64 0, .string ⟨#[]⟩, .int .i64 0], .int .i64 0, .int .i64 (x : Int)]) ∧ Below w.heap.size w w'

theorem res_three {P : Program} {fn : Func} {p u q : Tmp} {ty : TypeId} (h : fn.results = #[.cell p ty, .tmp u, .tmp q]) (tmps : Array Value) (W : World) {g : Nat} {v v2 v3 : Value} (hp : tmps.getD p undef = .pointer (some ⟨g, 0, none⟩)) (hu : tmps.getD u undef = v2) (hq : tmps.getD q undef = v3)
    (hld : (loadVar ty ⟨g, 0, none⟩).run P W = .ok v W) : (results fn tmps).run P W = .ok (.tuple #[v, v2, v3]) W := by
  have e : (results fn tmps).run P W = ((asAddr (tmps.getD p undef)).run P W).andThen fun a w₁ => ((loadVar ty a).run P w₁).andThen fun v w₂ => .ok (.tuple #[v, tmps.getD u undef, tmps.getD q undef]) w₂ := by
    simp only [results, h]
    simp [Sem.run_bind, Result.andThen]
  rw [e, hp, hu, hq]
  show (Sem.run P (loadVar ty ⟨g, 0, none⟩) W).andThen _ = _
  rw [hld]
  rfl
theorem blk_tok {W : World} {g : Nat} {cs : Array Value} (h : Blk W g 33 cs) (hs : cs.size = 3) (a b c : Value) :
    Blk (((W.setCell ⟨g, 0, none⟩ a).setCell ⟨g, 1, none⟩ b).setCell ⟨g, 2, none⟩ c) g 33 #[a, b, c] := by
  have h1 := ((h.set_ 0 a).set_ 1 b).set_ 2 c
  obtain ⟨l⟩ := cs
  match l, hs with
  | [x, y, z], _ => exact h1
theorem bel_tok {w W : World} {g : Nat} (h : Below w.heap.size w W) (hg : w.heap.size ≤ g) (a b c : Value) : Below w.heap.size w (((W.setCell ⟨g, 0, none⟩ a).setCell ⟨g, 1, none⟩ b).setCell ⟨g, 2, none⟩ c) :=
  ((h.setCell (p := ⟨g, 0, none⟩) hg a).setCell (p := ⟨g, 1, none⟩) hg b).setCell (p := ⟨g, 2, none⟩) hg c
/-- the end of a function that hands back a token, a length and an error -/
theorem tok_ret {fn : Func} (h : fn.results = #[.cell 2 33, .tmp 3, .tmp 4]) {Q : Ending → World → Prop} (tmps : Array Value) (W : World) {g : Nat} {v0 v1 v2 v3 v4 : Value} (hb : Blk W g 33 #[v0, v1, v2])
    (hp : tmps.getD 2 undef = .pointer (some ⟨g, 0, none⟩)) (hu : tmps.getD 3 undef = v3) (hq : tmps.getD 4 undef = v4) (hQ : Q (.returned (.tuple #[.agg #[v0, v1, v2], v3, v4])) W) : bodyPost Tryd.prog fn Q .ret ⟨tmps, []⟩ W := by
  have hld := run_loadVar_row (P := Tryd.prog) W g 33 33 #[v0, v1, v2] (0, 0) _ hb Tryd.underlying33 rfl (by kernel_rfl)
  exact bodyPost_ret (v := .tuple #[.agg #[v0, v1, v2], v3, v4]) (res_three h tmps W hp hu hq hld) rfl hQ
set_option maxRecDepth 100000 in
theorem literal_ok (s : ByteArray) (hs : s.size ≤ 100000) (w : World) (ht : Tab w) (h : litOk (bl s) = true) :
    Calls Tryd.prog 26 #[.string s] w (OkP w 1 (Lib.decDigits ((bl s).getD 1 0).toNat) 3) := by
  have h3 : 3 ≤ s.size := by
    unfold litOk at h
    simp only [Bool.and_eq_true, decide_eq_true_eq] at h
    rw [bl_len] at h
    exact h.1
  have g1 := get_d s (i := 1) (by omega)
  have g2 := get_d s (i := 2) (by omega)
  unfold litOk at h
  rw [g1, g2] at h
  rw [g1]
  obtain ⟨a, ha⟩ : ∃ a, s[1] = a := ⟨_, rfl⟩
  obtain ⟨b, hb⟩ : ∃ a, s[2] = a := ⟨_, rfl⟩
  rw [ha, hb] at h
  rw [ha]
  have e39 : (b == 39) = decide (b.toNat = 39) := eq_nat b 39 (by omega)
  have e39' : (a == 39) = decide (a.toNat = 39) := eq_nat a 39 (by omega)
  have e92 : (a == 92) = decide (a.toNat = 92) := eq_nat a 92 (by omega)
  simp only [Bool.and_eq_true, decide_eq_true_eq, bne, e39, e39', e92, Bool.not_eq_true', decide_eq_false_iff_not] at h
  obtain ⟨_, ⟨⟨⟨q1, q2⟩, q3⟩, q4⟩, q5⟩ := h
  have f1 : ((b.toNat : Int) != 39) = false := by simp; omega
  have f2 : (32 : Int) ≤ (a.toNat : Int) := by omega
  have f3 : (a.toNat : Int) ≤ 126 := by omega
  have f4 : ((a.toNat : Int) == 39) = false := by simp; omega
  have f5 : ((a.toNat : Int) == 92) = false := by simp; omega
  have f6 : (3 : Int) ≤ (s.size : Int) := by omega
  have f7 : IntKind.i64.wrap (a.toNat : Int) = (a.toNat : Int) := by simp [IntKind.wrap, IntKind.bits, IntKind.signed]; omega
  have HI := Lib.hid (fun V (hV : Tab V) => itoa_f a.toNat (by omega) V hV)
  have HT := Lib.hid ht
  clear g1 g2 q1 q2 q3 q4 q5 e39 e39' e92 ht
  go_enter Tryd.func26, Tryd.ntmps26
  go_wp2_with fail
  have HB0 := Lib.hid ((Below.refl w.heap.size w).alloc (Nat.le_refl _) (.cells #[.int .i64 0, .string ⟨#[]⟩, .int .i64 0] 33))
  have HK0 := Lib.hid (Blk.new w 33 #[.int .i64 0, .string ⟨#[]⟩, .int .i64 0])
  refine (HI.out _ (HT.out.alloc _)).mono ?_
  rintro e w1 ⟨rfl, hb1⟩
  have HB1 := Lib.hid (HB0.out.trans (hb1.mono (by simp)))
  have HK1 := Lib.hid (HK0.out.below hb1)
  have c0 := HK1.out.cell 0
  have c1 := HK1.out.cell 1
  have c2 := HK1.out.cell 2
  have d0 := HK1.out.frozen 0
  have d1 := HK1.out.frozen 1
  have d2 := HK1.out.frozen 2
  simp only [List.getElem?_toArray, List.getElem?_cons_zero, List.getElem?_cons_succ] at c0 c1 c2
  clear hb1
  go_wp2_with fail
  exact tok_ret rfl _ _ (blk_tok HK1.out rfl _ _ _) rfl rfl rfl ⟨rfl, bel_tok HB1.out (Nat.le_refl _) _ _ _⟩
set_option maxRecDepth 100000 in
set_option maxHeartbeats 4000000 in
theorem literal_err (s : ByteArray) (hs : s.size ≤ 100000) (w : World) (h : litOk (bl s) = false) :
    Calls Tryd.prog 26 #[.string s] w (ErrP w 3) := by
  have HB0 := Lib.hid ((Below.refl w.heap.size w).alloc (Nat.le_refl _) (.cells #[.int .i64 0, .string ⟨#[]⟩, .int .i64 0] 33))
  have HK0 := Lib.hid (Blk.new w 33 #[.int .i64 0, .string ⟨#[]⟩, .int .i64 0])
  have H := Lib.hid h
  clear h
  by_cases h3 : s.size < 3
  · have f6 : (s.size : Int) < 3 := by omega
    go_enter Tryd.func26, Tryd.ntmps26
    go_wp2_with fail
    exact tok_ret rfl _ _ HK0.out rfl rfl rfl ⟨rfl, HB0.out⟩
  have h := H.out
  have g1 := get_d s (i := 1) (by omega)
  have g2 := get_d s (i := 2) (by omega)
  unfold litOk at h
  rw [g1, g2, bl_len, decide_eq_true (show 3 ≤ s.size by omega)] at h
  obtain ⟨a, ha⟩ : ∃ a, s[1] = a := ⟨_, rfl⟩
  obtain ⟨b, hb⟩ : ∃ a, s[2] = a := ⟨_, rfl⟩
  rw [ha, hb] at h
  have e39 : (b == 39) = decide (b.toNat = 39) := eq_nat b 39 (by omega)
  have e39' : (a == 39) = decide (a.toNat = 39) := eq_nat a 39 (by omega)
  have e92 : (a == 92) = decide (a.toNat = 92) := eq_nat a 92 (by omega)
  simp only [bne, e39, e39', e92, Bool.true_and] at h
  have f6 : (3 : Int) ≤ (s.size : Int) := by omega
  clear g1 g2 e39 e39' e92
  by_cases h39 : b.toNat = 39
  · have f1 : ((b.toNat : Int) != 39) = false := by simp; omega
    by_cases h32 : 32 ≤ a.toNat
    · have f2 : (32 : Int) ≤ (a.toNat : Int) := by omega
      by_cases h126 : a.toNat ≤ 126
      · have f3 : (a.toNat : Int) ≤ 126 := by omega
        by_cases ha39 : a.toNat = 39
        · have f4 : ((a.toNat : Int) == 39) = true := by simp; omega
          clear h
          go_enter Tryd.func26, Tryd.ntmps26
          go_wp2_with fail
          exact tok_ret rfl _ _ HK0.out rfl rfl rfl ⟨rfl, HB0.out⟩
        · have f4 : ((a.toNat : Int) == 39) = false := by simp; omega
          by_cases ha92 : a.toNat = 92
          · have f5 : ((a.toNat : Int) == 92) = true := by simp; omega
            clear h
            go_enter Tryd.func26, Tryd.ntmps26
            go_wp2_with fail
            exact tok_ret rfl _ _ HK0.out rfl rfl rfl ⟨rfl, HB0.out⟩
          · simp [h39, h32, h126, ha39, ha92] at h
      · have f3 : (126 : Int) < (a.toNat : Int) := by omega
        clear h
        go_enter Tryd.func26, Tryd.ntmps26
        go_wp2_with fail
        exact tok_ret rfl _ _ HK0.out rfl rfl rfl ⟨rfl, HB0.out⟩
    · have f2 : (a.toNat : Int) < 32 := by omega
      clear h
      go_enter Tryd.func26, Tryd.ntmps26
      go_wp2_with fail
      exact tok_ret rfl _ _ HK0.out rfl rfl rfl ⟨rfl, HB0.out⟩
  · have f1 : ((b.toNat : Int) != 39) = true := by simp; omega
    clear h
    go_enter Tryd.func26, Tryd.ntmps26
    go_wp2_with fail
    exact tok_ret rfl _ _ HK0.out rfl rfl rfl ⟨rfl, HB0.out⟩

set_option maxRecDepth 100000 in
theorem keywords_f (w : World) : Calls Tryd.prog 11 #[] w fun e w' => e = .returned (.slice (some ⟨w.heap.size, 0, none⟩) 8 8) ∧ w' = w.alloc (.cells (kws.map fun t => Value.string (ofL t)).toArray 9) := by
  go_enter Tryd.func11, Tryd.ntmps11
  go_wp2_with fail
  go_ret
  exact ⟨rfl, rfl⟩
set_option maxRecDepth 100000 in
theorem signs_f (w : World) : Calls Tryd.prog 27 #[] w fun e w' => e = .returned (.slice (some ⟨w.heap.size, 0, none⟩) 24 24) ∧ w' = w.alloc (.cells (sgs.map fun t => Value.string (ofL t)).toArray 9) := by
  go_enter Tryd.func27, Tryd.ntmps27
  go_wp2_with fail
  go_ret
  exact ⟨rfl, rfl⟩
theorem keys_f (w W : World) (g : Nat) (hb : Blk W g 9 (kws.map fun t => Value.string (ofL t)).toArray) (x : ByteArray) :
    Calls Tryd.prog 35 #[.slice (some ⟨g, 0, none⟩) 8 8, .string x] W fun e w' => e = .returned (.bool (decide (bl x ∈ kws))) ∧ w' = W :=
  (Tryd.slices_Contains_string g 0 8 8 (kws.map ofL) x W (by decide) (by decide) (fun j hj => by
    rw [Nat.zero_add, hb.cell]
    have hj' : j < kws.length := by simpa using hj
    simp [List.getElem?_eq_getElem hj', List.getD])).mono fun e w' ⟨h1, h2⟩ => ⟨by
      rw [h1]
      congr 2
      rw [Bool.eq_iff_iff, Lib.containsS_iff, decide_eq_true_iff, List.take_of_length_le (by decide)]
      constructor
      · intro h
        obtain ⟨t, h3, h4⟩ := List.mem_map.1 h
        rw [← h4, bl_ofL]; exact h3
      · intro h
        exact List.mem_map.2 ⟨bl x, h, ofL_bl x⟩, h2⟩
end Lx
end Go.Proofs.YtnfgjbeifdfkaaaDoor
