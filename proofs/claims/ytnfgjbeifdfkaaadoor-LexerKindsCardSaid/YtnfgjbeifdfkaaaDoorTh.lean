/- The lexer's walks: token. -/
import Derived.Test.YtnfgjbeifdfkaaaDoorTg
namespace Go.Proofs.YtnfgjbeifdfkaaaDoor
open Go.RowKit
set_option linter.unusedVariables false
namespace Lx

theorem find_at {p : Bs → Bool} : ∀ (l : List Bs) (k : Nat), k < l.length → (∀ j, j < k → p (l.getD j []) = false) → p (l.getD k []) = true → l.find? p = some (l.getD k [])
  | [], k, hk, _, _ => absurd hk (by simp)
  | a :: l, 0, _, _, h => by
    simp only [List.getD_cons_zero] at h ⊢
    simp [h]
  | a :: l, k + 1, hk, h0, h => by
    have h1 := h0 0 (by omega)
    simp only [List.getD_cons_zero] at h1
    simp only [List.getD_cons_succ] at h ⊢
    rw [List.find?_cons, h1]
    exact find_at l k (by simpa using hk) (fun j hj => by have := h0 (j + 1) (by omega); simpa only [List.getD_cons_succ] using this) h
theorem find_none {p : Bs → Bool} (l : List Bs) (h0 : ∀ j, j < l.length → p (l.getD j []) = false) : l.find? p = none := by
  rw [List.find?_eq_none]
  intro x hx
  obtain ⟨j, hj, rfl⟩ := List.mem_iff_getElem.1 hx
  have := h0 j hj
  rw [List.getD, List.getElem?_eq_getElem hj] at this
  simpa using this
theorem sgs_cell {W : World} {g : Nat} (hb : Blk W g 9 (sgs.map fun t => Value.string (ofL t)).toArray) {k : Nat} (hk : k < 24) : W.cell? ⟨g, k, none⟩ = some (.string (ofL (sgs.getD k []))) := by
  rw [hb.cell]
  have hk' : k < sgs.length := hk
  simp [List.getElem?_eq_getElem hk', List.getD]
theorem sgs_size {k : Nat} (hk : k < 24) : (ofL (sgs.getD k [])).size ≤ 2 := by
  have hk' : k < sgs.length := hk
  rw [ofL_size, List.getD, List.getElem?_eq_getElem hk']
  exact (sgs_pos _ (List.getElem_mem hk')).2
set_option maxRecDepth 100000 in
set_option maxHeartbeats 2000000 in
theorem token_ok_f (s : ByteArray) (hs : s.size ≤ 100000) (hs0 : 0 < s.size) (w : World) (ht0 : Tab w) {k : Nat} {t : Bs} {n : Nat} (h : token (bl s) = .ok k t n) :
    Calls Tryd.prog 16 #[.string s] w (OkP w k t n) := by
  have h0 := get_0 s (by omega)
  have hsI : (0 : Int) < (s.size : Int) := by omega
  unfold token at h
  rw [h0] at h
  obtain ⟨c, hc⟩ : ∃ c, s[0] = c := ⟨_, rfl⟩
  rw [hc] at h h0
  have HD := Lib.hid (fun w => digit_f c w)
  have HL := Lib.hid (fun w => letter_f c w)
  have HB0 := Lib.hid ((Below.refl w.heap.size w).alloc (Nat.le_refl _) (.cells #[.int .i64 0, .string ⟨#[]⟩, .int .i64 0] 33))
  have HK0 := Lib.hid (Blk.new w 33 #[.int .i64 0, .string ⟨#[]⟩, .int .i64 0])
  have HT0 := Lib.hid (ht0.alloc (.cells #[.int .i64 0, .string ⟨#[]⟩, .int .i64 0] 33))
  have HH0 := Lib.hid h0
  have HTT := Lib.hid ht0
  clear h0 ht0
  cases hd : dgt c with
  | true =>
    rw [hd] at HD h
    rw [if_pos rfl] at h
    have hn0 : (bl s).takeWhile dgt ≠ [] := fun e => by
      have := tw_pos (p := dgt) (s := bl s) (by rw [HH0.out]; exact hd) (fun e => by have := bl_len s; rw [e] at this; simp at this; omega)
      rw [e] at this
      simp at this
    unfold number at h
    simp only at h
    cases hb : (ltr (((bl s).drop ((bl s).takeWhile dgt).length).headD 0) || ((bl s).drop ((bl s).takeWhile dgt).length).headD 0 == 95) with
    | true =>
      rw [if_pos hb] at h
      cases h
    | false =>
      rw [if_neg (by rw [hb]; decide)] at h
      by_cases hv : 4294967295 < val ((bl s).takeWhile dgt)
      · rw [if_pos hv] at h
        cases h
      · rw [if_neg hv] at h
        injection h with h1 h2 h3
        have HC := Lib.hid (number_ok s hs (w.alloc (.cells #[.int .i64 0, .string ⟨#[]⟩, .int .i64 0] 33)) HT0.out hn0 hb hv)
        rw [h2, h3] at HC
        subst h1
        clear hb hn0 hd hv h2 h3
        go_enter Tryd.func16, Tryd.ntmps16
        go_wp2_with fail
        refine (HD.out _).mono ?_
        rintro e w' ⟨rfl, rfl⟩
        go_wp2_with fail
        refine (HC.out).mono ?_
        rintro e w1 ⟨rfl, hb1⟩
        have HB1 := Lib.hid (HB0.out.trans (hb1.mono (by simp)))
        have HK1 := Lib.hid (HK0.out.below hb1)
        have c0 := HK1.out.cell 0
        have c1 := HK1.out.cell 1
        have c2 := HK1.out.cell 2
        have d0 := HK1.out.frozen 0
        have d1 := HK1.out.frozen 1
        have d2 := HK1.out.frozen 2
        simp only [List.getElem?_toArray, List.getElem?_cons_zero, List.getElem?_cons_succ] at c0 c1 c2
        clear hb1
        go_wp2_with fail
        exact tok_ret rfl _ _ (blk_tok HK1.out rfl _ _ _) rfl rfl rfl ⟨rfl, bel_tok HB1.out (Nat.le_refl _) _ _ _⟩
  | false =>
    rw [hd] at HD h
    rw [if_neg (by decide)] at h
    clear hd
    cases hl : ltr c with
    | true =>
      rw [hl] at HL h
      rw [if_pos rfl] at h
      unfold name at h
      simp only at h
      by_cases h24 : 24 < ((bl s).takeWhile inn).length
      · rw [if_pos h24] at h
        cases h
      · rw [if_neg h24] at h
        injection h with h1 h2 h3
        have HC := Lib.hid (name_ok s hs (w.alloc (.cells #[.int .i64 0, .string ⟨#[]⟩, .int .i64 0] 33)) h24 k h1.symm)
        rw [h3, h2] at HC
        clear hl h1 h2 h3 h24
        go_enter Tryd.func16, Tryd.ntmps16
        go_wp2_with fail
        refine (HD.out _).mono ?_
        rintro e w' ⟨rfl, rfl⟩
        go_wp2_with fail
        refine (HL.out _).mono ?_
        rintro e w' ⟨rfl, rfl⟩
        go_wp2_with fail
        refine (HC.out).mono ?_
        rintro e w1 ⟨rfl, hb1⟩
        have HB1 := Lib.hid (HB0.out.trans (hb1.mono (by simp)))
        have HK1 := Lib.hid (HK0.out.below hb1)
        have c0 := HK1.out.cell 0
        have c1 := HK1.out.cell 1
        have c2 := HK1.out.cell 2
        have d0 := HK1.out.frozen 0
        have d1 := HK1.out.frozen 1
        have d2 := HK1.out.frozen 2
        simp only [List.getElem?_toArray, List.getElem?_cons_zero, List.getElem?_cons_succ] at c0 c1 c2
        clear hb1
        go_wp2_with fail
        exact tok_ret rfl _ _ (blk_tok HK1.out rfl _ _ _) rfl rfl rfl ⟨rfl, bel_tok HB1.out (Nat.le_refl _) _ _ _⟩
    | false =>
      rw [hl] at HL h
      rw [if_neg (by decide), show (c == 39) = decide (c.toNat = 39) from eq_nat c 39 (by omega)] at h
      clear hl
      by_cases hq : c.toNat = 39
      · rw [decide_eq_true hq, if_pos rfl] at h
        have hq' : ((c.toNat : Int) == 39) = true := by simp; omega
        unfold literal at h
        by_cases hk : litOk (bl s) = true
        · rw [if_pos hk] at h
          injection h with h1 h2 h3
          have HC := Lib.hid (literal_ok s hs (w.alloc (.cells #[.int .i64 0, .string ⟨#[]⟩, .int .i64 0] 33)) HT0.out hk)
          rw [h2] at HC
          subst h1
          subst h3
          clear hk h2 hq
          go_enter Tryd.func16, Tryd.ntmps16
          go_wp2_with fail
          refine (HD.out _).mono ?_
          rintro e w' ⟨rfl, rfl⟩
          go_wp2_with fail
          refine (HL.out _).mono ?_
          rintro e w' ⟨rfl, rfl⟩
          go_wp2_with fail
          refine (HC.out).mono ?_
          rintro e w1 ⟨rfl, hb1⟩
          have HB1 := Lib.hid (HB0.out.trans (hb1.mono (by simp)))
          have HK1 := Lib.hid (HK0.out.below hb1)
          have c0 := HK1.out.cell 0
          have c1 := HK1.out.cell 1
          have c2 := HK1.out.cell 2
          have d0 := HK1.out.frozen 0
          have d1 := HK1.out.frozen 1
          have d2 := HK1.out.frozen 2
          simp only [List.getElem?_toArray, List.getElem?_cons_zero, List.getElem?_cons_succ] at c0 c1 c2
          clear hb1
          go_wp2_with fail
          exact tok_ret rfl _ _ (blk_tok HK1.out rfl _ _ _) rfl rfl rfl ⟨rfl, bel_tok HB1.out (Nat.le_refl _) _ _ _⟩
        · rw [if_neg hk] at h
          cases h
      · rw [decide_eq_false hq, if_neg (by decide)] at h
        have hq' : ((c.toNat : Int) == 39) = false := by simp; omega
        have HS := Lib.hid (show sign (bl s) = _ from h)
        clear h hq
        go_enter Tryd.func16, Tryd.ntmps16
        go_wp2_with fail
        refine (HD.out _).mono ?_
        rintro e w' ⟨rfl, rfl⟩
        go_wp2_with fail
        refine (HL.out _).mono ?_
        rintro e w' ⟨rfl, rfl⟩
        go_wp2_with fail
        refine (signs_f _).mono ?_
        rintro e w' ⟨rfl, rfl⟩
        have HK1 := Lib.hid (HK0.out.alloc (.cells (sgs.map fun t => Value.string (ofL t)).toArray 9))
        have HB1 := Lib.hid (HB0.out.alloc HB0.out.size (.cells (sgs.map fun t => Value.string (ofL t)).toArray 9))
        have HSG := Lib.hid (Blk.new (w.alloc (.cells #[.int .i64 0, .string ⟨#[]⟩, .int .i64 0] 33)) 9 (sgs.map fun t => Value.string (ofL t)).toArray)
        generalize (w.alloc (.cells #[.int .i64 0, .string ⟨#[]⟩, .int .i64 0] 33)).alloc (.cells (sgs.map fun t => Value.string (ofL t)).toArray 9) = w1 at *
        generalize (w.alloc (.cells #[.int .i64 0, .string ⟨#[]⟩, .int .i64 0] 33)).heap.size = gs at *
        go_wp2_with fail
        go_loop [36] (fun y => ∃ j : Nat, j ≤ 24 ∧ y = .int .i64 (j : Int) ∧ Hid (∀ i, i < j → pre (sgs.getD i []) (bl s) = false)) (fun y => 24 - (intOf y).toNat)
        case atStart => exact ⟨0, by omega, rfl, Lib.hid (fun i hi => absurd hi (by omega))⟩
        case round =>
          obtain ⟨j, hj, rfl, HJ⟩ := hrel
          by_cases hj24 : j < 24
          · have hcell := sgs_cell HSG.out hj24
            have hz := sgs_size hj24
            have HP := Lib.hid (fun w => has_f s (ofL (sgs.getD j [])) w)
            rw [bl_ofL] at HP
            obtain ⟨x, hx⟩ : ∃ x, x = sgs.getD j [] := ⟨_, rfl⟩
            have HX := Lib.hid hx
            rw [← hx] at hcell hz HP
            have HXS := Lib.hid (ofL_size x)
            obtain ⟨y, hy⟩ : ∃ y, y = ofL x := ⟨_, rfl⟩
            have HY := Lib.hid hy
            rw [← hy] at hcell hz HP HXS
            clear hx hy
            have c0 := HK1.out.cell 0
            have c1 := HK1.out.cell 1
            have c2 := HK1.out.cell 2
            have d0 := HK1.out.frozen 0
            have d1 := HK1.out.frozen 1
            have d2 := HK1.out.frozen 2
            simp only [List.getElem?_toArray, List.getElem?_cons_zero, List.getElem?_cons_succ] at c0 c1 c2
            cases hp : pre x (bl s) with
            | true =>
              rw [hp] at HP
              have HE := Lib.hid (show sign (bl s) = .ok 4 x x.length by
                unfold sign
                rw [find_at sgs j hj24 HJ.out (by rw [← HX.out]; exact hp), ← HX.out])
              clear hp
              have HQ := Lib.hid (HE.out.symm.trans HS.out)
              go_wp2_with fail
              refine (HP.out _).mono ?_
              rintro e w' ⟨rfl, rfl⟩
              go_wp2_with fail
              have h := HQ.out
              injection h with h1 h2 h3
              subst h1
              subst h2
              subst h3
              exact tok_ret rfl _ _ (blk_tok HK1.out rfl _ _ _) rfl rfl rfl ⟨by rw [← HXS.out, ← HY.out]; rfl, bel_tok HB1.out (Nat.le_refl _) _ _ _⟩
            | false =>
              rw [hp] at HP
              have HN := Lib.hid (show ∀ i, i < j + 1 → pre (sgs.getD i []) (bl s) = false from fun i hi => by
                rcases Nat.lt_or_ge i j with h1 | h1
                · exact HJ.out i h1
                · obtain rfl : i = j := by omega
                  rw [← HX.out]; exact hp)
              clear hp
              go_wp2_with fail
              refine (HP.out _).mono ?_
              rintro e w' ⟨rfl, rfl⟩
              go_wp2_with fail
              go_round
              case rel => exact ⟨j + 1, by omega, by go_num, HN⟩
              case measure => simp [intOf]; omega
          · have HE := Lib.hid (show sign (bl s) = .err 3 by
              unfold sign
              rw [find_none sgs (fun i hi => HJ.out i (by have : sgs.length = 24 := rfl; omega))])
            exact absurd (HE.out.symm.trans HS.out) (fun e => by cases e)
set_option maxRecDepth 100000 in
set_option maxHeartbeats 2000000 in
theorem token_err_f (s : ByteArray) (hs : s.size ≤ 100000) (hs0 : 0 < s.size) (w : World) (ht0 : Tab w) {x : Nat} (h : token (bl s) = .err x) :
    Calls Tryd.prog 16 #[.string s] w (ErrP w x) := by
  have h0 := get_0 s (by omega)
  have hsI : (0 : Int) < (s.size : Int) := by omega
  unfold token at h
  rw [h0] at h
  obtain ⟨c, hc⟩ : ∃ c, s[0] = c := ⟨_, rfl⟩
  rw [hc] at h h0
  have HD := Lib.hid (fun w => digit_f c w)
  have HL := Lib.hid (fun w => letter_f c w)
  have HB0 := Lib.hid ((Below.refl w.heap.size w).alloc (Nat.le_refl _) (.cells #[.int .i64 0, .string ⟨#[]⟩, .int .i64 0] 33))
  have HK0 := Lib.hid (Blk.new w 33 #[.int .i64 0, .string ⟨#[]⟩, .int .i64 0])
  have HT0 := Lib.hid (ht0.alloc (.cells #[.int .i64 0, .string ⟨#[]⟩, .int .i64 0] 33))
  have HH0 := Lib.hid h0
  have HTT := Lib.hid ht0
  clear h0 ht0
  cases hd : dgt c with
  | true =>
    rw [hd] at HD h
    rw [if_pos rfl] at h
    have hn0 : (bl s).takeWhile dgt ≠ [] := fun e => by
      have := tw_pos (p := dgt) (s := bl s) (by rw [HH0.out]; exact hd) (fun e => by have := bl_len s; rw [e] at this; simp at this; omega)
      rw [e] at this
      simp at this
    unfold number at h
    simp only at h
    cases hb : (ltr (((bl s).drop ((bl s).takeWhile dgt).length).headD 0) || ((bl s).drop ((bl s).takeWhile dgt).length).headD 0 == 95) with
    | true =>
      rw [if_pos hb] at h
      injection h with h
      subst h
      have HC := Lib.hid (number_syn s hs (w.alloc (.cells #[.int .i64 0, .string ⟨#[]⟩, .int .i64 0] 33)) hb)
      clear hb hn0 hd
      go_enter Tryd.func16, Tryd.ntmps16
      go_wp2_with fail
      refine (HD.out _).mono ?_
      rintro e w' ⟨rfl, rfl⟩
      go_wp2_with fail
      refine (HC.out).mono ?_
      rintro e w1 ⟨rfl, hb1⟩
      have HB1 := Lib.hid (HB0.out.trans (hb1.mono (by simp)))
      have HK1 := Lib.hid (HK0.out.below hb1)
      have c0 := HK1.out.cell 0
      have c1 := HK1.out.cell 1
      have c2 := HK1.out.cell 2
      have d0 := HK1.out.frozen 0
      have d1 := HK1.out.frozen 1
      have d2 := HK1.out.frozen 2
      simp only [List.getElem?_toArray, List.getElem?_cons_zero, List.getElem?_cons_succ] at c0 c1 c2
      clear hb1
      go_wp2_with fail
      exact tok_ret rfl _ _ (blk_tok HK1.out rfl _ _ _) rfl rfl rfl ⟨rfl, bel_tok HB1.out (Nat.le_refl _) _ _ _⟩
    | false =>
      rw [if_neg (by rw [hb]; decide)] at h
      by_cases hv : 4294967295 < val ((bl s).takeWhile dgt)
      · rw [if_pos hv] at h
        injection h with h
        subst h
        have HC := Lib.hid (number_rng s hs (w.alloc (.cells #[.int .i64 0, .string ⟨#[]⟩, .int .i64 0] 33)) HT0.out hn0 hb hv)
        clear hb hn0 hd hv
        go_enter Tryd.func16, Tryd.ntmps16
        go_wp2_with fail
        refine (HD.out _).mono ?_
        rintro e w' ⟨rfl, rfl⟩
        go_wp2_with fail
        refine (HC.out).mono ?_
        rintro e w1 ⟨rfl, hb1⟩
        have HB1 := Lib.hid (HB0.out.trans (hb1.mono (by simp)))
        have HK1 := Lib.hid (HK0.out.below hb1)
        have c0 := HK1.out.cell 0
        have c1 := HK1.out.cell 1
        have c2 := HK1.out.cell 2
        have d0 := HK1.out.frozen 0
        have d1 := HK1.out.frozen 1
        have d2 := HK1.out.frozen 2
        simp only [List.getElem?_toArray, List.getElem?_cons_zero, List.getElem?_cons_succ] at c0 c1 c2
        clear hb1
        go_wp2_with fail
        exact tok_ret rfl _ _ (blk_tok HK1.out rfl _ _ _) rfl rfl rfl ⟨rfl, bel_tok HB1.out (Nat.le_refl _) _ _ _⟩
      · rw [if_neg hv] at h
        cases h
  | false =>
    rw [hd] at HD h
    rw [if_neg (by decide)] at h
    clear hd
    cases hl : ltr c with
    | true =>
      rw [hl] at HL h
      rw [if_pos rfl] at h
      unfold name at h
      simp only at h
      by_cases h24 : 24 < ((bl s).takeWhile inn).length
      · rw [if_pos h24] at h
        injection h with h
        subst h
        have HC := Lib.hid (name_err s hs (w.alloc (.cells #[.int .i64 0, .string ⟨#[]⟩, .int .i64 0] 33)) h24)
        clear hl h24
        go_enter Tryd.func16, Tryd.ntmps16
        go_wp2_with fail
        refine (HD.out _).mono ?_
        rintro e w' ⟨rfl, rfl⟩
        go_wp2_with fail
        refine (HL.out _).mono ?_
        rintro e w' ⟨rfl, rfl⟩
        go_wp2_with fail
        refine (HC.out).mono ?_
        rintro e w1 ⟨rfl, hb1⟩
        have HB1 := Lib.hid (HB0.out.trans (hb1.mono (by simp)))
        have HK1 := Lib.hid (HK0.out.below hb1)
        have c0 := HK1.out.cell 0
        have c1 := HK1.out.cell 1
        have c2 := HK1.out.cell 2
        have d0 := HK1.out.frozen 0
        have d1 := HK1.out.frozen 1
        have d2 := HK1.out.frozen 2
        simp only [List.getElem?_toArray, List.getElem?_cons_zero, List.getElem?_cons_succ] at c0 c1 c2
        clear hb1
        go_wp2_with fail
        exact tok_ret rfl _ _ (blk_tok HK1.out rfl _ _ _) rfl rfl rfl ⟨rfl, bel_tok HB1.out (Nat.le_refl _) _ _ _⟩
      · rw [if_neg h24] at h
        cases h
    | false =>
      rw [hl] at HL h
      rw [if_neg (by decide), show (c == 39) = decide (c.toNat = 39) from eq_nat c 39 (by omega)] at h
      clear hl
      by_cases hq : c.toNat = 39
      · rw [decide_eq_true hq, if_pos rfl] at h
        have hq' : ((c.toNat : Int) == 39) = true := by simp; omega
        unfold literal at h
        by_cases hk : litOk (bl s) = true
        · rw [if_pos hk] at h
          cases h
        · rw [if_neg hk] at h
          injection h with h
          subst h
          have HC := Lib.hid (literal_err s hs (w.alloc (.cells #[.int .i64 0, .string ⟨#[]⟩, .int .i64 0] 33)) (by simpa using hk))
          clear hk hq
          go_enter Tryd.func16, Tryd.ntmps16
          go_wp2_with fail
          refine (HD.out _).mono ?_
          rintro e w' ⟨rfl, rfl⟩
          go_wp2_with fail
          refine (HL.out _).mono ?_
          rintro e w' ⟨rfl, rfl⟩
          go_wp2_with fail
          refine (HC.out).mono ?_
          rintro e w1 ⟨rfl, hb1⟩
          have HB1 := Lib.hid (HB0.out.trans (hb1.mono (by simp)))
          have HK1 := Lib.hid (HK0.out.below hb1)
          have c0 := HK1.out.cell 0
          have c1 := HK1.out.cell 1
          have c2 := HK1.out.cell 2
          have d0 := HK1.out.frozen 0
          have d1 := HK1.out.frozen 1
          have d2 := HK1.out.frozen 2
          simp only [List.getElem?_toArray, List.getElem?_cons_zero, List.getElem?_cons_succ] at c0 c1 c2
          clear hb1
          go_wp2_with fail
          exact tok_ret rfl _ _ (blk_tok HK1.out rfl _ _ _) rfl rfl rfl ⟨rfl, bel_tok HB1.out (Nat.le_refl _) _ _ _⟩
      · rw [decide_eq_false hq, if_neg (by decide)] at h
        have hq' : ((c.toNat : Int) == 39) = false := by simp; omega
        have HS := Lib.hid (show sign (bl s) = _ from h)
        clear h hq
        go_enter Tryd.func16, Tryd.ntmps16
        go_wp2_with fail
        refine (HD.out _).mono ?_
        rintro e w' ⟨rfl, rfl⟩
        go_wp2_with fail
        refine (HL.out _).mono ?_
        rintro e w' ⟨rfl, rfl⟩
        go_wp2_with fail
        refine (signs_f _).mono ?_
        rintro e w' ⟨rfl, rfl⟩
        have HK1 := Lib.hid (HK0.out.alloc (.cells (sgs.map fun t => Value.string (ofL t)).toArray 9))
        have HB1 := Lib.hid (HB0.out.alloc HB0.out.size (.cells (sgs.map fun t => Value.string (ofL t)).toArray 9))
        have HSG := Lib.hid (Blk.new (w.alloc (.cells #[.int .i64 0, .string ⟨#[]⟩, .int .i64 0] 33)) 9 (sgs.map fun t => Value.string (ofL t)).toArray)
        generalize (w.alloc (.cells #[.int .i64 0, .string ⟨#[]⟩, .int .i64 0] 33)).alloc (.cells (sgs.map fun t => Value.string (ofL t)).toArray 9) = w1 at *
        generalize (w.alloc (.cells #[.int .i64 0, .string ⟨#[]⟩, .int .i64 0] 33)).heap.size = gs at *
        go_wp2_with fail
        go_loop [36] (fun y => ∃ j : Nat, j ≤ 24 ∧ y = .int .i64 (j : Int) ∧ Hid (∀ i, i < j → pre (sgs.getD i []) (bl s) = false)) (fun y => 24 - (intOf y).toNat)
        case atStart => exact ⟨0, by omega, rfl, Lib.hid (fun i hi => absurd hi (by omega))⟩
        case round =>
          obtain ⟨j, hj, rfl, HJ⟩ := hrel
          by_cases hj24 : j < 24
          · have hcell := sgs_cell HSG.out hj24
            have hz := sgs_size hj24
            have HP := Lib.hid (fun w => has_f s (ofL (sgs.getD j [])) w)
            rw [bl_ofL] at HP
            obtain ⟨x, hx⟩ : ∃ x, x = sgs.getD j [] := ⟨_, rfl⟩
            have HX := Lib.hid hx
            rw [← hx] at hcell hz HP
            have HXS := Lib.hid (ofL_size x)
            obtain ⟨y, hy⟩ : ∃ y, y = ofL x := ⟨_, rfl⟩
            have HY := Lib.hid hy
            rw [← hy] at hcell hz HP HXS
            clear hx hy
            have c0 := HK1.out.cell 0
            have c1 := HK1.out.cell 1
            have c2 := HK1.out.cell 2
            have d0 := HK1.out.frozen 0
            have d1 := HK1.out.frozen 1
            have d2 := HK1.out.frozen 2
            simp only [List.getElem?_toArray, List.getElem?_cons_zero, List.getElem?_cons_succ] at c0 c1 c2
            cases hp : pre x (bl s) with
            | true =>
              rw [hp] at HP
              have HE := Lib.hid (show sign (bl s) = .ok 4 x x.length by
                unfold sign
                rw [find_at sgs j hj24 HJ.out (by rw [← HX.out]; exact hp), ← HX.out])
              clear hp
              exact absurd (HE.out.symm.trans HS.out) (fun e => by cases e)
            | false =>
              rw [hp] at HP
              have HN := Lib.hid (show ∀ i, i < j + 1 → pre (sgs.getD i []) (bl s) = false from fun i hi => by
                rcases Nat.lt_or_ge i j with h1 | h1
                · exact HJ.out i h1
                · obtain rfl : i = j := by omega
                  rw [← HX.out]; exact hp)
              clear hp
              go_wp2_with fail
              refine (HP.out _).mono ?_
              rintro e w' ⟨rfl, rfl⟩
              go_wp2_with fail
              go_round
              case rel => exact ⟨j + 1, by omega, by go_num, HN⟩
              case measure => simp [intOf]; omega
          · have HE := Lib.hid (show sign (bl s) = .err 3 by
              unfold sign
              rw [find_none sgs (fun i hi => HJ.out i (by have : sgs.length = 24 := rfl; omega))])
            have c0 := HK1.out.cell 0
            have c1 := HK1.out.cell 1
            have c2 := HK1.out.cell 2
            have d0 := HK1.out.frozen 0
            have d1 := HK1.out.frozen 1
            have d2 := HK1.out.frozen 2
            simp only [List.getElem?_toArray, List.getElem?_cons_zero, List.getElem?_cons_succ] at c0 c1 c2
            have h := HE.out.symm.trans HS.out
            injection h with h
            subst h
            go_wp2_with fail
            exact tok_ret rfl _ _ (blk_tok HK1.out rfl _ _ _) rfl rfl rfl ⟨rfl, bel_tok HB1.out (Nat.le_refl _) _ _ _⟩
end Lx
end Go.Proofs.YtnfgjbeifdfkaaaDoor
