/- Walks of the machine's execute: the instruction ',', the signs with two operands, other numbers. -/
import Derived.Test.YtfjjdogjihpbnaaDoorMg
namespace Go.Proofs.YtfjjdogjihpbnaaDoor
open Go.RowKit
namespace Mc
section
variable {fix : List (Nat × Obj)} {w0 W : World} {g : Nat} {n : Int} {z : Bool} {bm : Value} {s : St}

set_option maxRecDepth 100000 in
set_option maxHeartbeats 4000000 in
theorem ex_read (h : MP fix w0 W g n z bm s) (hm : s.data.length ≤ 256) :
    Calls Tryd.prog 33 #[.pointer (some ⟨g, 0, none⟩), .int .u32 44] W (Goes fix w0 g n z bm s.out (stRead s) (.tuple #[])) := by
  obtain ⟨gm, vd, vc, vo, A, ni, ci, h1, h2, h3⟩ := h
  have hni : ni = s.input.length := by have := h3.2.2.1; rw [iv_len] at this; omega
  have hnc : ni ≤ ci := h3.1
  have hcm : ci ≤ 9223372036854775807 := h3.2.1
  have H1 := Lib.hid h1
  have H2 := Lib.hid h2
  have H3 := Lib.hid h3
  have HM := Lib.hid hm
  have hc4 := H1.out.cell 4
  rw [show (pcells gm s.pc vd vc A ni ci vo s.digit n z bm)[4]? = some (.slice A ni ci) from rfl] at hc4
  have hf4 := H1.out.frozen 4
  cases hI : s.input with
  | nil =>
    have HR := Lib.hid (show stRead s = psh s 4294967295 by unfold stRead; rw [hI])
    rw [hI] at hni
    obtain rfl : ni = 0 := hni
    have HP := Lib.hid (goes_push (v := 4294967295) ⟨gm, vd, vc, vo, A, 0, ci, h1, h2, h3⟩ hm)
    clear h1 h2 h3 hm hI
    go_enter Tryd.func33, Tryd.ntmps33
    go_wp2_with fail
    refine HP.out.mono ?_
    intro e w' hg
    rcases goes_cases hg with ⟨t, hr, rfl, ht⟩ | ⟨hr, rfl, ht⟩
    · clear hg
      go_wp2_with fail
      go_end0
      exact goes_yes (HR.out.trans hr.out) ht.out
    · exact ⟨rfl, goes_no (HR.out.trans hr.out) ht.out⟩
  | cons x l =>
    have HR := Lib.hid (show stRead s = psh { s with input := l } x by unfold stRead; rw [hI])
    rw [hI] at hni h3
    obtain ⟨T, hT⟩ : ∃ T, T = l.length := ⟨_, rfl⟩
    obtain rfl : ni = T + 1 := by rw [hni, hT]; rfl
    obtain ⟨ad, u, rfl, _, hu, hcu⟩ := (h3.below h2.bel).at_ (k := 0) (by omega)
    obtain rfl : u = .int .u32 x := by simpa [iv, V] using hu.symm
    rw [show ad.add 0 = ad from rfl] at hcu
    have HD := Lib.hid (h3.drop (k := 1) (by omega))
    rw [show (iv (x :: l)).drop (1 * 1) = iv l from rfl] at HD
    clear h1 h2 h3 hm hI hni hu hT
    by_cases hc : ci = 1
    · subst hc
      obtain rfl : T = 0 := by omega
      go_enter Tryd.func33, Tryd.ntmps33
      go_wp2_with fail
      have HP := Lib.hid (goes_push (s := { s with input := l }) (v := x) ⟨gm, vd, vc, vo, _, _, _, H1.out.set_ 4 (.slice (some ad) 0 0), H2.out.setG 4 _, HD.out⟩ HM.out)
      refine HP.out.mono ?_
      intro e w' hg
      rcases goes_cases hg with ⟨t, hr, rfl, ht⟩ | ⟨hr, rfl, ht⟩
      · clear hg
        go_wp2_with fail
        go_end0
        exact goes_yes (HR.out.trans hr.out) ht.out
      · exact ⟨rfl, goes_no (HR.out.trans hr.out) ht.out⟩
    · rw [if_neg hc] at HD
      go_enter Tryd.func33, Tryd.ntmps33
      go_wp2_with fail
      have HP := Lib.hid (goes_push (s := { s with input := l }) (v := x) ⟨gm, vd, vc, vo, _, _, _, H1.out.set_ 4 (.slice (some (ad.add 1)) T (ci - 1)), H2.out.setG 4 _, HD.out⟩ HM.out)
      refine HP.out.mono ?_
      intro e w' hg
      rcases goes_cases hg with ⟨t, hr, rfl, ht⟩ | ⟨hr, rfl, ht⟩
      · clear hg
        go_wp2_with fail
        go_end0
        exact goes_yes (HR.out.trans hr.out) ht.out
      · exact ⟨rfl, goes_no (HR.out.trans hr.out) ht.out⟩
end

section
variable {fix : List (Nat × Obj)} {w0 W : World} {g : Nat} {n : Int} {z : Bool} {bb : Nat} {s : St}

set_option maxRecDepth 100000 in
set_option maxHeartbeats 4000000 in
theorem ex_none (h : MP fix w0 W g n z (.map (some bb)) s) (hfx : (bb, .map ents 7) ∈ fix) {c : Int} (hd : ¬ isDig c) (hb : ¬ isBin c) (hc : ¬ (c = 32 ∨ c = 10 ∨ c = 64 ∨ c = 33 ∨ c = 63 ∨ c = 58 ∨ c = 59 ∨ c = 44 ∨ c = 46 ∨ c = 36)) :
    Calls Tryd.prog 33 #[.pointer (some ⟨g, 0, none⟩), .int .u32 c] W (Goes fix w0 g n z (.map (some bb)) s.out none (.tuple #[])) := by
  have hlk := run_miss W bb 7 (h.fixAt hfx) c hb
  have hc9 := h.bmAt
  have H := Lib.hid h
  unfold isDig at hd
  have ne : ∀ j : Int, c ≠ j → (c == j) = false := fun j h => by simp [h]
  have e48 : (c == 48) = false := ne 48 (by omega)
  have e49 : (c == 49) = false := ne 49 (by omega)
  have e50 : (c == 50) = false := ne 50 (by omega)
  have e51 : (c == 51) = false := ne 51 (by omega)
  have e52 : (c == 52) = false := ne 52 (by omega)
  have e53 : (c == 53) = false := ne 53 (by omega)
  have e54 : (c == 54) = false := ne 54 (by omega)
  have e55 : (c == 55) = false := ne 55 (by omega)
  have e56 : (c == 56) = false := ne 56 (by omega)
  have e57 : (c == 57) = false := ne 57 (by omega)
  have e32 : (c == 32) = false := ne 32 (by omega)
  have e10 : (c == 10) = false := ne 10 (by omega)
  have e64 : (c == 64) = false := ne 64 (by omega)
  have e33 : (c == 33) = false := ne 33 (by omega)
  have e63 : (c == 63) = false := ne 63 (by omega)
  have e58 : (c == 58) = false := ne 58 (by omega)
  have e59 : (c == 59) = false := ne 59 (by omega)
  have e44 : (c == 44) = false := ne 44 (by omega)
  have e46 : (c == 46) = false := ne 46 (by omega)
  have e36 : (c == 36) = false := ne 36 (by omega)
  clear h hfx hd hb hc ne
  go_enter Tryd.func33, Tryd.ntmps33
  go_wp2_with fail
  refine (check_no _).mono ?_
  rintro e w' ⟨rfl, rfl⟩
  exact ⟨rfl, goes_no rfl ⟨s, H.out, rfl⟩⟩

theorem op2_cases {r : Option Int} {w : World} {e : Ending} {w' : World} (h : Op2 r w e w') : (∃ v, Hid (r = some v) ∧ e = .returned (.int .u32 v) ∧ w = w') ∨ (Hid (r = none) ∧ e = trapE ∧ w = w') := by
  cases r with
  | some v => exact .inl ⟨v, rfl, h.1, h.2⟩
  | none => exact .inr ⟨rfl, h.1, h.2⟩

set_option maxRecDepth 100000 in
set_option maxHeartbeats 4000000 in
theorem ex_bin1 (h : MP fix w0 W g n z (.map (some bb)) s) (hm : s.data.length ≤ 256) {c : Int} (hb : isBin c) {f : FuncId} (hlk : (Instr.lookup 43 (.map (some bb)) (.int .u32 c) true).run Tryd.prog W = .ok (.tuple #[.func (.func f) #[] #[], .bool true]) W)
    (ef : ∀ args w, (callFunc f args).run Tryd.prog w = .ok (.enter f args) w) (hop : ∀ a b, a ∈ s.data → b ∈ s.data → ∀ V, Calls Tryd.prog f #[.int .u32 a, .int .u32 b] V (Op2 (bin c a b) V)) :
    Calls Tryd.prog 33 #[.pointer (some ⟨g, 0, none⟩), .int .u32 c] W (Goes fix w0 g n z (.map (some bb)) s.out (stBin s c) (.tuple #[])) := by
  have hc9 := h.bmAt
  unfold isBin at hb
  have ne : ∀ j : Int, c ≠ j → (c == j) = false := fun j h => by simp [h]
  have e48 : (c == 48) = false := ne 48 (by omega)
  have e49 : (c == 49) = false := ne 49 (by omega)
  have e50 : (c == 50) = false := ne 50 (by omega)
  have e51 : (c == 51) = false := ne 51 (by omega)
  have e52 : (c == 52) = false := ne 52 (by omega)
  have e53 : (c == 53) = false := ne 53 (by omega)
  have e54 : (c == 54) = false := ne 54 (by omega)
  have e55 : (c == 55) = false := ne 55 (by omega)
  have e56 : (c == 56) = false := ne 56 (by omega)
  have e57 : (c == 57) = false := ne 57 (by omega)
  have e32 : (c == 32) = false := ne 32 (by omega)
  have e10 : (c == 10) = false := ne 10 (by omega)
  have e64 : (c == 64) = false := ne 64 (by omega)
  have e33 : (c == 33) = false := ne 33 (by omega)
  have e63 : (c == 63) = false := ne 63 (by omega)
  have e58 : (c == 58) = false := ne 58 (by omega)
  have e59 : (c == 59) = false := ne 59 (by omega)
  have e44 : (c == 44) = false := ne 44 (by omega)
  have e46 : (c == 46) = false := ne 46 (by omega)
  have e36 : (c == 36) = false := ne 36 (by omega)
  cases hD : s.data with
  | nil =>
    have HC := Lib.hid (pop_no h hD)
    have HR := Lib.hid (show stBin s c = none by unfold stBin; rw [hD])
    have H := Lib.hid h
    clear h hD hm hb ne hop
    go_enter Tryd.func33, Tryd.ntmps33
    go_wp2_with fail
    refine (check_yes _).mono ?_
    rintro e w' ⟨rfl, rfl⟩
    go_wp2_with fail
    refine HC.out.mono ?_
    rintro e w' ⟨rfl, rfl⟩
    exact ⟨rfl, goes_no HR.out ⟨s, H.out, rfl⟩⟩
  | cons b l =>
    have HC := Lib.hid (pop_yes h hD hm)
    rw [hD] at hm
    cases l with
    | nil =>
      have HR := Lib.hid (show stBin s c = none by unfold stBin; rw [hD])
      clear h hD hm hb ne hop
      go_enter Tryd.func33, Tryd.ntmps33
      go_wp2_with fail
      refine (check_yes _).mono ?_
      rintro e w' ⟨rfl, rfl⟩
      go_wp2_with fail
      refine HC.out.mono ?_
      rintro e w1 ⟨rfl, h1, _⟩
      have H1 := Lib.hid h1
      have HC2 := Lib.hid (pop_no h1 rfl)
      clear h1
      go_wp2_with fail
      refine HC2.out.mono ?_
      rintro e w' ⟨rfl, rfl⟩
      exact ⟨rfl, goes_no HR.out ⟨_, H1.out, rfl⟩⟩
    | cons a l =>
      have HR := Lib.hid (show stBin s c = match bin c a b with | some v => some { s with data := v :: l } | none => none by unfold stBin; rw [hD]; rfl)
      have hm2 : (a :: l).length ≤ 256 := by simp at hm ⊢; omega
      have hm3 : l.length < 256 := by simp at hm ⊢; omega
      have HM := Lib.hid hm2
      have HM3 := Lib.hid hm3
      have HOP := Lib.hid (hop a b (by rw [hD]; simp) (by rw [hD]; simp))
      clear h hD hm hm2 hm3 hb ne hop
      go_enter Tryd.func33, Tryd.ntmps33
      go_wp2_with fail
      refine (check_yes _).mono ?_
      rintro e w' ⟨rfl, rfl⟩
      go_wp2_with fail
      refine HC.out.mono ?_
      rintro e w1 ⟨rfl, h1, _⟩
      have H1 := Lib.hid h1
      have HC2 := Lib.hid (pop_yes h1 rfl HM.out)
      clear h1
      go_wp2_with fail
      refine HC2.out.mono ?_
      rintro e w2 ⟨rfl, h2, _⟩
      have H2 := Lib.hid h2
      clear h2
      go_wp2_with fail
      refine (HOP.out _).mono ?_
      intro e w' ho
      rcases op2_cases ho with ⟨v, hv, rfl, rfl⟩ | ⟨hv, rfl, rfl⟩
      · have HP := Lib.hid (push_yes H2.out HM3.out v)
        clear ho
        go_wp2_with fail
        refine HP.out.mono ?_
        rintro e w3 ⟨rfl, h3, _⟩
        have H3 := Lib.hid h3
        clear h3
        go_wp2_with fail
        go_end0
        exact goes_yes (by rw [HR.out, hv.out]) H3.out
      · exact ⟨rfl, goes_no (by rw [HR.out, hv.out]) ⟨_, H2.out, rfl⟩⟩
theorem op2_of {r : Option Int} {w : World} {f : FuncId} {args : Array Value} {v : Int} (h : Calls Tryd.prog f args w fun e w' => e = .returned (.int .u32 v) ∧ w = w') (hr : r = some v) : Calls Tryd.prog f args w (Op2 r w) := h.mono fun e w' ⟨h1, h2⟩ => by
  subst hr; exact ⟨h1, h2⟩
theorem op2_no {r : Option Int} {w : World} {f : FuncId} {args : Array Value} (h : Calls Tryd.prog f args w fun e w' => e = trapE ∧ w = w') (hr : r = none) : Calls Tryd.prog f args w (Op2 r w) := h.mono fun e w' ⟨h1, h2⟩ => by
  subst hr; exact ⟨h1, h2⟩
theorem ex_bin (h : MP fix w0 W g n z (.map (some bb)) s) (hfx : (bb, .map ents 7) ∈ fix) (hm : s.data.length ≤ 256) (hw : ∀ x ∈ s.data, W32 x) {c : Int} (hb : isBin c) :
    Calls Tryd.prog 33 #[.pointer (some ⟨g, 0, none⟩), .int .u32 c] W (Goes fix w0 g n z (.map (some bb)) s.out (stBin s c) (.tuple #[])) := by
  have hb2 := hb
  unfold isBin at hb2
  have hx := h.fixAt hfx
  rcases hb2 with rfl | rfl | rfl | rfl | rfl | rfl | rfl
  · exact ex_bin1 h hm hb (run_look W bb 7 hx 43 0 _ rfl) (fun _ _ => rfl) fun a b ha hb V => op2_of (bin_add a b V) rfl
  · exact ex_bin1 h hm hb (run_look W bb 7 hx 45 1 _ rfl) (fun _ _ => rfl) fun a b ha hb V => op2_of (bin_sub a b V) rfl
  · exact ex_bin1 h hm hb (run_look W bb 7 hx 42 2 _ rfl) (fun _ _ => rfl) fun a b ha hb V => op2_of (bin_mul a b V) rfl
  · refine ex_bin1 h hm hb (run_look W bb 7 hx 47 3 _ rfl) (fun _ _ => rfl) fun a b ha hb V => ?_
    by_cases h0 : b = 0
    · subst h0; exact op2_no (bin_quo0 a V) rfl
    · exact op2_of (bin_quo a b V (hw a ha) (hw b hb) h0) (by simp [bin, h0])
  · refine ex_bin1 h hm hb (run_look W bb 7 hx 37 4 _ rfl) (fun _ _ => rfl) fun a b ha hb V => ?_
    by_cases h0 : b = 0
    · subst h0; exact op2_no (bin_rem0 a V) rfl
    · exact op2_of (bin_rem a b V (hw a ha) (hw b hb) h0) (by simp [bin, h0])
  · exact ex_bin1 h hm hb (run_look W bb 7 hx 94 5 _ rfl) (fun _ _ => rfl) fun a b ha hb V => op2_of (bin_xor a b V (hw a ha) (hw b hb)) rfl
  · exact ex_bin1 h hm hb (run_look W bb 7 hx 60 6 _ rfl) (fun _ _ => rfl) fun a b ha hb V => op2_of (bin_lss a b V) rfl
end
end Mc
end Go.Proofs.YtfjjdogjihpbnaaDoor
