/- The lexer's walks: name, number. -/
import Derived.Test.YtnfgjbeifdfkaaaDoorTf
namespace Go.Proofs.YtnfgjbeifdfkaaaDoor
open Go.RowKit
set_option linter.unusedVariables false
namespace Lx

def cell0 : Array Value := #[.int .i64 0, .string ⟨#[]⟩, .int .i64 0]
set_option maxRecDepth 100000 in
theorem name_err (s : ByteArray) (hs : s.size ≤ 100000) (w : World) (h : 24 < ((bl s).takeWhile inn).length) :
    Calls Tryd.prog 25 #[.string s] w (ErrP w 7) := by
  have HR := Lib.hid (fun w => run_i s hs w)
  obtain ⟨t, ht⟩ : ∃ t, t = ofL ((bl s).takeWhile inn) := ⟨_, rfl⟩
  have hz : t.size ≤ 100000 := by rw [ht, ofL_size]; have := tw_le inn (bl s); rw [bl_len] at this; omega
  have h24 : (24 : Int) < (t.size : Int) := by rw [ht, ofL_size]; omega
  have HB0 := Lib.hid ((Below.refl w.heap.size w).alloc (Nat.le_refl _) (.cells #[.int .i64 0, .string ⟨#[]⟩, .int .i64 0] 33))
  have HK0 := Lib.hid (Blk.new w 33 #[.int .i64 0, .string ⟨#[]⟩, .int .i64 0])
  rw [← ht] at HR
  clear ht h
  go_enter Tryd.func25, Tryd.ntmps25
  go_wp2_with fail
  refine (HR.out _).mono ?_
  rintro e w' ⟨rfl, rfl⟩
  go_wp2_with fail
  exact tok_ret rfl _ _ HK0.out rfl rfl rfl ⟨rfl, HB0.out⟩
set_option maxRecDepth 100000 in
theorem name_ok (s : ByteArray) (hs : s.size ≤ 100000) (w : World) (h : ¬ 24 < ((bl s).takeWhile inn).length) (k : Nat) (hk : k = if (bl s).takeWhile inn ∈ kws then 3 else 2) :
    Calls Tryd.prog 25 #[.string s] w (OkP w k ((bl s).takeWhile inn) ((bl s).takeWhile inn).length) := by
  have HR := Lib.hid (fun w => run_i s hs w)
  obtain ⟨u, hu⟩ : ∃ u, u = (bl s).takeWhile inn := ⟨_, rfl⟩
  rw [← hu] at hk HR h
  rw [← hu]
  obtain ⟨t, ht⟩ : ∃ t, t = ofL u := ⟨_, rfl⟩
  have hz : t.size ≤ 24 := by rw [ht, ofL_size]; omega
  have h24 : ¬ (24 : Int) < (t.size : Int) := by omega
  have HB0 := Lib.hid ((Below.refl w.heap.size w).alloc (Nat.le_refl _) (.cells #[.int .i64 0, .string ⟨#[]⟩, .int .i64 0] 33))
  have HK0 := Lib.hid (Blk.new w 33 #[.int .i64 0, .string ⟨#[]⟩, .int .i64 0])
  have HKC := Lib.hid (fun W g hb => keys_f w W g hb t)
  rw [show decide (bl t ∈ kws) = decide (u ∈ kws) by rw [ht, bl_ofL]] at HKC
  have HU := Lib.hid (show u.length = t.size by rw [ht, ofL_size])
  rw [← ht] at HR
  have HT := Lib.hid ht
  have HKI := Lib.hid hk
  clear ht h hu hk
  obtain ⟨w0, hw0⟩ : ∃ w0, w0 = w.alloc (.cells #[.int .i64 0, .string ⟨#[]⟩, .int .i64 0] 33) := ⟨_, rfl⟩
  go_enter Tryd.func25, Tryd.ntmps25
  have HW0 := Lib.hid hw0
  clear hw0
  go_wp2_with fail
  rw [← HW0.out] at HB0 HK0 ⊢
  refine (HR.out _).mono ?_
  rintro e w' ⟨rfl, rfl⟩
  go_wp2_with fail
  refine (keywords_f _).mono ?_
  rintro e w' ⟨rfl, rfl⟩
  have HK1 := Lib.hid (HK0.out.alloc (.cells (kws.map fun t => Value.string (ofL t)).toArray 9))
  have HB1 := Lib.hid (HB0.out.alloc HB0.out.size (.cells (kws.map fun t => Value.string (ofL t)).toArray 9))
  have HKW := Lib.hid (Blk.new w' 9 (kws.map fun t => Value.string (ofL t)).toArray)
  generalize w'.alloc (.cells (kws.map fun t => Value.string (ofL t)).toArray 9) = w1 at *
  have c0 := HK1.out.cell 0
  have c1 := HK1.out.cell 1
  have c2 := HK1.out.cell 2
  have d0 := HK1.out.frozen 0
  have d1 := HK1.out.frozen 1
  have d2 := HK1.out.frozen 2
  simp only [List.getElem?_toArray, List.getElem?_cons_zero, List.getElem?_cons_succ] at c0 c1 c2
  have HKC1 := Lib.hid (HKC.out w1 _ HKW.out)
  have hk := HKI.out
  by_cases hm : u ∈ kws
  · rw [if_pos hm] at hk
    rw [decide_eq_true hm] at HKC1
    have HKK := Lib.hid hk
    clear hm hk
    go_wp2_with fail
    refine HKC1.out.mono ?_
    rintro e w2 ⟨rfl, rfl⟩
    go_wp2_with fail
    exact tok_ret rfl _ _ (blk_tok HK1.out rfl _ _ _) rfl rfl rfl ⟨by rw [HKK.out, HU.out, ← HT.out]; rfl, bel_tok HB1.out (Nat.le_refl _) _ _ _⟩
  · rw [if_neg hm] at hk
    rw [decide_eq_false hm] at HKC1
    have HKK := Lib.hid hk
    clear hm hk
    go_wp2_with fail
    refine HKC1.out.mono ?_
    rintro e w2 ⟨rfl, rfl⟩
    go_wp2_with fail
    exact tok_ret rfl _ _ (blk_tok HK1.out rfl _ _ _) rfl rfl rfl ⟨by rw [HKK.out, HU.out, ← HT.out]; rfl, bel_tok HB1.out (Nat.le_refl _) _ _ _⟩
theorem drop_at (s : ByteArray) {n : Nat} (h : n < s.size) : ((bl s).drop n).headD 0 = s[n] := by
  rw [← get_d s h]
  have h2 : n < (bl s).length := by rw [bl_len]; exact h
  rw [List.drop_eq_getElem_cons h2, List.getD, List.getElem?_eq_getElem h2]
  rfl
theorem drop_end (s : ByteArray) {n : Nat} (h : ¬ n < s.size) : ((bl s).drop n).headD 0 = 0 := by
  rw [List.drop_eq_nil_of_le (by rw [bl_len]; omega)]; rfl
set_option maxRecDepth 100000 in
set_option maxHeartbeats 1000000 in
theorem number_syn (s : ByteArray) (hs : s.size ≤ 100000) (w : World) (h : (ltr (((bl s).drop ((bl s).takeWhile dgt).length).headD 0) || ((bl s).drop ((bl s).takeWhile dgt).length).headD 0 == 95) = true) :
    Calls Tryd.prog 23 #[.string s] w (ErrP w 3) := by
  have HR := Lib.hid (fun w => run_d s hs w)
  obtain ⟨n, hn⟩ : ∃ n, n = ((bl s).takeWhile dgt).length := ⟨_, rfl⟩
  rw [← hn] at h
  obtain ⟨t, ht⟩ : ∃ t, t = ofL ((bl s).takeWhile dgt) := ⟨_, rfl⟩
  have hz : t.size = n := by rw [ht, ofL_size, hn]
  rw [← ht] at HR
  have hlt : n < s.size := by
    rcases Nat.lt_or_ge n s.size with h1 | h1
    · exact h1
    · rw [drop_end s (by omega)] at h
      exact absurd h (by decide)
  rw [drop_at s hlt] at h
  obtain ⟨c, hc⟩ : ∃ c, s[n] = c := ⟨_, rfl⟩
  rw [hc, show (c == 95) = decide (c.toNat = 95) from eq_nat c 95 (by omega)] at h
  have HL := Lib.hid (fun w => letter_f c w)
  have HB0 := Lib.hid ((Below.refl w.heap.size w).alloc (Nat.le_refl _) (.cells #[.int .i64 0, .string ⟨#[]⟩, .int .i64 0] 33))
  have HK0 := Lib.hid (Blk.new w 33 #[.int .i64 0, .string ⟨#[]⟩, .int .i64 0])
  have hnI : (n : Int) < (s.size : Int) := by omega
  have hnb : n ≤ 100000 := by omega
  clear ht hn
  cases hl : ltr c with
  | true =>
    rw [hl] at HL
    clear h hl
    go_enter Tryd.func23, Tryd.ntmps23
    go_wp2_with fail
    refine (HR.out _).mono ?_
    rintro e w' ⟨rfl, rfl⟩
    go_wp2_with fail
    refine (HL.out _).mono ?_
    rintro e w' ⟨rfl, rfl⟩
    go_wp2_with fail
    exact tok_ret rfl _ _ HK0.out rfl rfl rfl ⟨rfl, HB0.out⟩
  | false =>
    rw [hl] at HL h
    have h95 : ((c.toNat : Int) == 95) = true := by simp at h; simp; omega
    clear h hl
    go_enter Tryd.func23, Tryd.ntmps23
    go_wp2_with fail
    refine (HR.out _).mono ?_
    rintro e w' ⟨rfl, rfl⟩
    go_wp2_with fail
    refine (HL.out _).mono ?_
    rintro e w' ⟨rfl, rfl⟩
    go_wp2_with fail
    exact tok_ret rfl _ _ HK0.out rfl rfl rfl ⟨rfl, HB0.out⟩
set_option maxRecDepth 100000 in
set_option maxHeartbeats 1000000 in
theorem number_rng (s : ByteArray) (hs : s.size ≤ 100000) (w : World) (ht0 : Tab w) (hn0 : (bl s).takeWhile dgt ≠ []) (h : (ltr (((bl s).drop ((bl s).takeWhile dgt).length).headD 0) || ((bl s).drop ((bl s).takeWhile dgt).length).headD 0 == 95) = false) (hv : 4294967295 < val ((bl s).takeWhile dgt)) :
    Calls Tryd.prog 23 #[.string s] w (ErrP w 2) := by
  have HR := Lib.hid (fun w => run_d s hs w)
  have HDG := Lib.hid (show ∀ c ∈ (bl s).takeWhile dgt, dgt c = true from fun c hc => mem_tw hc)
  obtain ⟨u, hu⟩ : ∃ u, u = (bl s).takeWhile dgt := ⟨_, rfl⟩
  rw [← hu] at h hv hn0 HR HDG
  obtain ⟨n, hn⟩ : ∃ n, n = u.length := ⟨_, rfl⟩
  rw [← hn] at h
  obtain ⟨t, ht⟩ : ∃ t, t = ofL u := ⟨_, rfl⟩
  have hz : t.size = n := by rw [ht, ofL_size, hn]
  rw [← ht] at HR
  have hns : n ≤ s.size := by have := tw_le dgt (bl s); rw [bl_len, ← hu, ← hn] at this; exact this
  have HUT := Lib.hid (show u = bl t by rw [ht, bl_ofL])
  have HB0 := Lib.hid ((Below.refl w.heap.size w).alloc (Nat.le_refl _) (.cells #[.int .i64 0, .string ⟨#[]⟩, .int .i64 0] 33))
  have HK0 := Lib.hid (Blk.new w 33 #[.int .i64 0, .string ⟨#[]⟩, .int .i64 0])
  have HTA := Lib.hid (ht0.alloc (.cells #[.int .i64 0, .string ⟨#[]⟩, .int .i64 0] 33))
  have hnb : n ≤ 100000 := by omega
  have HN := Lib.hid hn
  have HV := Lib.hid hv
  have HPR := Lib.hid (parse_range t (by omega) (by rw [ht, bl_ofL]; exact HDG.out) (by rw [ht, bl_ofL]; exact hn0) (by rw [ht, bl_ofL]; exact hv) (w.alloc (.cells #[.int .i64 0, .string ⟨#[]⟩, .int .i64 0] 33)) HTA.out)
  clear ht hn hu ht0 hv
  by_cases hlt : n < s.size
  · have hnI : (n : Int) < (s.size : Int) := by omega
    rw [drop_at s hlt] at h
    obtain ⟨c, hc⟩ : ∃ c, s[n] = c := ⟨_, rfl⟩
    rw [hc, show (c == 95) = decide (c.toNat = 95) from eq_nat c 95 (by omega), Bool.or_eq_false_iff, decide_eq_false_iff_not] at h
    have HL := Lib.hid (fun w => letter_f c w)
    rw [h.1] at HL
    have h95 : ((c.toNat : Int) == 95) = false := by have := h.2; simp; omega
    clear h hn0
    go_enter Tryd.func23, Tryd.ntmps23
    go_wp2_with fail
    refine (HR.out _).mono ?_
    rintro e w' ⟨rfl, rfl⟩
    go_wp2_with fail
    refine (HL.out _).mono ?_
    rintro e w' ⟨rfl, rfl⟩
    go_wp2_with fail
    refine HPR.out.mono ?_
    rintro e w1 ⟨⟨ty, N, rfl⟩, hb1⟩
    have HB1 := Lib.hid (HB0.out.trans (hb1.mono (by simp)))
    have HK1 := Lib.hid (HK0.out.below hb1)
    have c0 := HK1.out.cell 0
    have c1 := HK1.out.cell 1
    have c2 := HK1.out.cell 2
    have d0 := HK1.out.frozen 0
    have d1 := HK1.out.frozen 1
    have d2 := HK1.out.frozen 2
    simp only [List.getElem?_toArray, List.getElem?_cons_zero, List.getElem?_cons_succ] at c0 c1 c2
    clear hb1
    go_wp2_with fail
    exact tok_ret rfl _ _ (blk_tok HK1.out rfl _ _ _) rfl rfl rfl ⟨rfl, bel_tok HB1.out (Nat.le_refl _) _ _ _⟩
  · have hnI : ¬ (n : Int) < (s.size : Int) := by omega
    clear h hn0
    go_enter Tryd.func23, Tryd.ntmps23
    go_wp2_with fail
    refine (HR.out _).mono ?_
    rintro e w' ⟨rfl, rfl⟩
    go_wp2_with fail
    refine HPR.out.mono ?_
    rintro e w1 ⟨⟨ty, N, rfl⟩, hb1⟩
    have HB1 := Lib.hid (HB0.out.trans (hb1.mono (by simp)))
    have HK1 := Lib.hid (HK0.out.below hb1)
    have c0 := HK1.out.cell 0
    have c1 := HK1.out.cell 1
    have c2 := HK1.out.cell 2
    have d0 := HK1.out.frozen 0
    have d1 := HK1.out.frozen 1
    have d2 := HK1.out.frozen 2
    simp only [List.getElem?_toArray, List.getElem?_cons_zero, List.getElem?_cons_succ] at c0 c1 c2
    clear hb1
    go_wp2_with fail
    exact tok_ret rfl _ _ (blk_tok HK1.out rfl _ _ _) rfl rfl rfl ⟨rfl, bel_tok HB1.out (Nat.le_refl _) _ _ _⟩

set_option maxRecDepth 100000 in
set_option maxHeartbeats 1000000 in
theorem number_ok (s : ByteArray) (hs : s.size ≤ 100000) (w : World) (ht0 : Tab w) (hn0 : (bl s).takeWhile dgt ≠ []) (h : (ltr (((bl s).drop ((bl s).takeWhile dgt).length).headD 0) || ((bl s).drop ((bl s).takeWhile dgt).length).headD 0 == 95) = false) (hv : ¬ 4294967295 < val ((bl s).takeWhile dgt)) :
    Calls Tryd.prog 23 #[.string s] w (OkP w 1 (Lib.decDigits (val ((bl s).takeWhile dgt))) ((bl s).takeWhile dgt).length) := by
  have HR := Lib.hid (fun w => run_d s hs w)
  have HDG := Lib.hid (show ∀ c ∈ (bl s).takeWhile dgt, dgt c = true from fun c hc => mem_tw hc)
  obtain ⟨u, hu⟩ : ∃ u, u = (bl s).takeWhile dgt := ⟨_, rfl⟩
  rw [← hu] at h hv hn0 HR HDG
  rw [← hu]
  obtain ⟨n, hn⟩ : ∃ n, n = u.length := ⟨_, rfl⟩
  rw [← hn] at h ⊢
  obtain ⟨t, ht⟩ : ∃ t, t = ofL u := ⟨_, rfl⟩
  have hz : t.size = n := by rw [ht, ofL_size, hn]
  rw [← ht] at HR
  have hns : n ≤ s.size := by have := tw_le dgt (bl s); rw [bl_len, ← hu, ← hn] at this; exact this
  have HUT := Lib.hid (show u = bl t by rw [ht, bl_ofL])
  have HB0 := Lib.hid ((Below.refl w.heap.size w).alloc (Nat.le_refl _) (.cells #[.int .i64 0, .string ⟨#[]⟩, .int .i64 0] 33))
  have HK0 := Lib.hid (Blk.new w 33 #[.int .i64 0, .string ⟨#[]⟩, .int .i64 0])
  have HTA := Lib.hid (ht0.alloc (.cells #[.int .i64 0, .string ⟨#[]⟩, .int .i64 0] 33))
  have hnb : n ≤ 100000 := by omega
  have HN := Lib.hid hn
  have HV := Lib.hid hv
  have HPR := Lib.hid (parse_ok t (by omega) (by rw [ht, bl_ofL]; exact HDG.out) (by rw [ht, bl_ofL]; exact hn0) (by rw [ht, bl_ofL]; omega) (w.alloc (.cells #[.int .i64 0, .string ⟨#[]⟩, .int .i64 0] 33)))
  rw [show val (bl t) = val u by rw [ht, bl_ofL]] at HPR
  obtain ⟨v, hvv⟩ : ∃ v, v = val u := ⟨_, rfl⟩
  rw [← hvv] at HPR hv ⊢
  have hv64 : v < 18446744073709551616 := by omega
  clear hvv
  clear ht hn hu ht0 hv
  by_cases hlt : n < s.size
  · have hnI : (n : Int) < (s.size : Int) := by omega
    rw [drop_at s hlt] at h
    obtain ⟨c, hc⟩ : ∃ c, s[n] = c := ⟨_, rfl⟩
    rw [hc, show (c == 95) = decide (c.toNat = 95) from eq_nat c 95 (by omega), Bool.or_eq_false_iff, decide_eq_false_iff_not] at h
    have HL := Lib.hid (fun w => letter_f c w)
    rw [h.1] at HL
    have h95 : ((c.toNat : Int) == 95) = false := by have := h.2; simp; omega
    clear h hn0
    go_enter Tryd.func23, Tryd.ntmps23
    go_wp2_with fail
    refine (HR.out _).mono ?_
    rintro e w' ⟨rfl, rfl⟩
    go_wp2_with fail
    refine (HL.out _).mono ?_
    rintro e w' ⟨rfl, rfl⟩
    go_wp2_with fail
    refine HPR.out.mono ?_
    rintro e w1 ⟨rfl, hb1⟩
    have HB1 := Lib.hid (HB0.out.trans (hb1.mono (by simp)))
    have HK1 := Lib.hid (HK0.out.below hb1)
    have HT1 := Lib.hid (HTA.out.bel hb1)
    clear hb1
    go_wp2_with fail
    refine (fmt_f v hv64 w1 HT1.out).mono ?_
    rintro e w2 ⟨rfl, hb2⟩
    have HB2 := Lib.hid (HB1.out.trans (hb2.mono HB1.out.size))
    have HK2 := Lib.hid (HK1.out.below hb2)
    have c0 := HK2.out.cell 0
    have c1 := HK2.out.cell 1
    have c2 := HK2.out.cell 2
    have d0 := HK2.out.frozen 0
    have d1 := HK2.out.frozen 1
    have d2 := HK2.out.frozen 2
    simp only [List.getElem?_toArray, List.getElem?_cons_zero, List.getElem?_cons_succ] at c0 c1 c2
    clear hb2
    go_wp2_with fail
    exact tok_ret rfl _ _ (blk_tok HK2.out rfl _ _ _) rfl rfl rfl ⟨rfl, bel_tok HB2.out (Nat.le_refl _) _ _ _⟩
  · have hnI : ¬ (n : Int) < (s.size : Int) := by omega
    clear h hn0
    go_enter Tryd.func23, Tryd.ntmps23
    go_wp2_with fail
    refine (HR.out _).mono ?_
    rintro e w' ⟨rfl, rfl⟩
    go_wp2_with fail
    refine HPR.out.mono ?_
    rintro e w1 ⟨rfl, hb1⟩
    have HB1 := Lib.hid (HB0.out.trans (hb1.mono (by simp)))
    have HK1 := Lib.hid (HK0.out.below hb1)
    have HT1 := Lib.hid (HTA.out.bel hb1)
    clear hb1
    go_wp2_with fail
    refine (fmt_f v hv64 w1 HT1.out).mono ?_
    rintro e w2 ⟨rfl, hb2⟩
    have HB2 := Lib.hid (HB1.out.trans (hb2.mono HB1.out.size))
    have HK2 := Lib.hid (HK1.out.below hb2)
    have c0 := HK2.out.cell 0
    have c1 := HK2.out.cell 1
    have c2 := HK2.out.cell 2
    have d0 := HK2.out.frozen 0
    have d1 := HK2.out.frozen 1
    have d2 := HK2.out.frozen 2
    simp only [List.getElem?_toArray, List.getElem?_cons_zero, List.getElem?_cons_succ] at c0 c1 c2
    clear hb2
    go_wp2_with fail
    exact tok_ret rfl _ _ (blk_tok HK2.out rfl _ _ _) rfl rfl rfl ⟨rfl, bel_tok HB2.out (Nat.le_refl _) _ _ _⟩

end Lx
end Go.Proofs.YtnfgjbeifdfkaaaDoor
