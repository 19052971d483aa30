/- The law LexerNumbers of stelelaw19 returns true for every input in a world that holds the laid variables. -/
import Derived.Test.YtnfgjbeifdfkaaaDoorTl
namespace Go.Proofs.YtnfgjbeifdfkaaaDoor
namespace LexerNumbers
open Go.RowKit Lx

theorem zeros_cut : ∀ z : Fin 9, (⟨#[48, 48, 48, 48, 48, 48, 48, 48]⟩ : ByteArray).extract 0 z.val = ofL (List.replicate z.val 48) := by decide +kernel
theorem tok_eq (W : World) (k l : Int) (t : ByteArray) : (binOp .eql 33 (.agg #[.int .i64 k, .string t, .int .i64 l]) (.agg #[.int .i64 k, .string t, .int .i64 l])).run Tryd.prog W = .ok (.bool true) W := by
  rw [run_eql_struct, show (10000 : Nat) = 9998 + 1 + 1 from rfl, run_equalIn_struct W (9998 + 1) _ _ _ (by kernel_rfl) (by kernel_rfl)]
  generalize 9998 = d
  have hf : (Tryd.prog.fieldsOf 33).toList = (Tryd.prog.fieldsOf 33).toList := rfl
  simp only [Program.fieldsOf, Tryd.underlying33]
  simp [Op.eqFields, go_sem]
set_option maxRecDepth 100000 in
set_option maxHeartbeats 2000000 in
theorem core (w : World) (ht : Tab w) (n : Nat) (hn : n < 18446744073709551616) (zs : Nat) (hzs : zs < 256) :
    Calls Tryd.prog 8 #[.int .u64 (n : Int), .int .u8 (zs : Int)] w fun e w' => e = .returned (.bool true) ∧ Below w.heap.size w w' := by
  have HT := Lib.hid ht
  clear ht
  go_enter Tryd.func8, Tryd.ntmps8
  by_cases hl : 1099511627776 ≤ n
  · have hlI : (1099511627776 : Int) ≤ (n : Int) := by omega
    go_wp2_with fail
    refine (awake_f w HT.out).mono ?_
    rintro e w1 ⟨rfl, hb1⟩
    have HB1 := Lib.hid hb1
    clear hb1
    go_wp2_with fail
    go_ret
    exact ⟨rfl, HB1.out⟩
  have hlI : ¬ (1099511627776 : Int) ≤ (n : Int) := by omega
  obtain ⟨k, hk⟩ : ∃ k, k = zs % 8 := ⟨_, rfl⟩
  have q1 : (zs : Int) % 8 = (k : Int) := by omega
  have q2 : (zs : Int).tmod 8 = (k : Int) := by rw [Int.tmod_eq_emod_of_nonneg (by omega)]; exact q1
  have q3 : IntKind.i64.wrap (n : Int) = (n : Int) := by simp [IntKind.wrap, IntKind.bits, IntKind.signed]; omega
  have hk8 : k ≤ 7 := by omega
  have hkI : (k : Int) ≤ 8 := by omega
  have hzc := zeros_cut ⟨k, by omega⟩
  simp only at hzc
  have hzl : (ofL (List.replicate k 48)).size = k := by rw [ofL_size, List.length_replicate]
  obtain ⟨dp1, dp2, dp3, _⟩ := dd_props n
  have hdl := dd_size (u := n) (by omega)
  have HDA := Lib.hid (show ofL (List.replicate k 48) ++ ofL (Lib.decDigits n) = ofL (List.replicate k 48 ++ Lib.decDigits n) from ofL_append _ _)
  have HZD := Lib.hid (zeros_dgt k dp1)
  have HZN := Lib.hid (show List.replicate k 48 ++ Lib.decDigits n ≠ [] from fun e => dp3 (List.append_eq_nil_iff.1 e).2)
  have HZV := Lib.hid (show val (List.replicate k 48 ++ Lib.decDigits n) = n by rw [val_zeros, dp2])
  have HDC := Lib.hid (fun V => decimal_f n (by omega) V)
  obtain ⟨u, hu⟩ : ∃ u, u = List.replicate k 48 ++ Lib.decDigits n := ⟨_, rfl⟩
  rw [← hu] at HDA HZD HZN HZV
  obtain ⟨p, hp⟩ : ∃ p, p = ofL (List.replicate k 48) := ⟨_, rfl⟩
  obtain ⟨t, htx⟩ : ∃ t, t = ofL (Lib.decDigits n) := ⟨_, rfl⟩
  rw [← hp] at HDA hzc hzl
  rw [← htx] at HDA HDC hdl
  obtain ⟨s, hs⟩ : ∃ s, p ++ t = s := ⟨_, rfl⟩
  rw [hs] at HDA
  have hsz : s.size ≤ 27 := by rw [← hs, ByteArray.size_append]; omega
  have hbs : bl s = u := by rw [HDA.out, bl_ofL]
  have e1 : bl ((⟨#[10]⟩ : ByteArray) ++ s ++ ⟨#[59]⟩) = 10 :: (u ++ [59]) := by rw [bl_app, bl_app, hbs]; rfl
  have e2 : bl (s ++ ⟨#[95]⟩) = u ++ [95] := by rw [bl_app, hbs]; rfl
  have z1 : ((⟨#[10]⟩ : ByteArray) ++ s).size = 1 + s.size := by rw [ByteArray.size_append]; rfl
  obtain ⟨y0, hy0⟩ : ∃ y, (⟨#[10]⟩ : ByteArray) ++ s = y := ⟨_, rfl⟩
  rw [hy0] at e1 z1
  have z2 : (y0 ++ ⟨#[59]⟩ : ByteArray).size = y0.size + 1 := by rw [ByteArray.size_append]; rfl
  obtain ⟨y1, hy1⟩ : ∃ y, y0 ++ ⟨#[59]⟩ = y := ⟨_, rfl⟩
  rw [hy1] at e1 z2
  have z3 : (s ++ ⟨#[95]⟩ : ByteArray).size = s.size + 1 := by rw [ByteArray.size_append]; rfl
  obtain ⟨y2, hy2⟩ : ∃ y, s ++ ⟨#[95]⟩ = y := ⟨_, rfl⟩
  rw [hy2] at e2 z3
  have hy160 : y1.size ≤ 60000 := by omega
  have hy260 : y2.size ≤ 60000 := by omega
  have g1 : ¬ 9223372036854775807 < p.size + t.size := by omega
  have g2 : ¬ 9223372036854775807 < 1 + s.size := by omega
  have g3 : ¬ 9223372036854775807 < y0.size + 1 := by omega
  have g4 : ¬ 9223372036854775807 < s.size + 1 := by omega
  have HX2 := Lib.hid (show lex (bl y2) 1 = .err 1 3 by rw [e2]; exact lex_num_letter HZD.out HZN.out)
  have HX1 := Lib.hid (show lex (bl y1) 1 = if 4294967295 < n then .err 2 2 else .ok [⟨1, Lib.decDigits n, 2⟩, ⟨4, [59], 2⟩] by
    rw [e1, lex_num_semi HZD.out HZN.out, HZV.out])
  have HTX := Lib.hid htx
  clear hu hp htx hbs e1 e2 z1 z2 z3 hk hdl dp1 dp2 dp3
  by_cases hv : 4294967295 < n
  · have hvI : (4294967295 : Int) < (n : Int) := by omega
    have HX1 := Lib.hid (show lex (bl y1) 1 = .err 2 2 by rw [HX1.out, if_pos hv])
    go_wp2_with fail
    refine (HDC.out _).mono ?_
    rintro e w1 ⟨rfl, hb1⟩
    have HB1 := Lib.hid hb1
    clear hb1
    go_wp2_with fail
    refine (tokens_err y1 hy160 w1 (HT.out.bel HB1.out) HX1.out).mono ?_
    rintro e w2 ⟨rfl, hb2⟩
    have HB2 := Lib.hid (HB1.out.trans (hb2.mono HB1.out.size))
    clear hb2
    go_wp2_with fail
    refine (tokens_err y2 hy260 w2 (HT.out.bel HB2.out) HX2.out).mono ?_
    rintro e w3 ⟨rfl, hb3⟩
    have HB3 := Lib.hid (HB2.out.trans (hb3.mono HB2.out.size))
    clear hb3
    go_wp2_with fail
    refine (awake_f w3 (HT.out.bel HB3.out)).mono ?_
    rintro e w4 ⟨rfl, hb4⟩
    have HB4 := Lib.hid (HB3.out.trans (hb4.mono HB3.out.size))
    clear hb4
    go_wp2_with fail
    go_ret
    exact ⟨rfl, HB4.out⟩
  · have hvI : ¬ (4294967295 : Int) < (n : Int) := by omega
    have HX1 := Lib.hid (show lex (bl y1) 1 = .ok [⟨1, Lib.decDigits n, 2⟩, ⟨4, [59], 2⟩] by rw [HX1.out, if_neg hv])
    have hvB : decide ((4294967295 : Int) < (n : Int)) = false := decide_eq_false hvI
    have hlB : decide ((1099511627776 : Int) ≤ (n : Int)) = false := decide_eq_false hlI
    have hn0 : (0 : Int) ≤ (n : Int) := by omega
    clear hv hvI hl hlI hn
    go_wp2_with fail
    refine (HDC.out _).mono ?_
    rintro e w1 ⟨rfl, hb1⟩
    have HB1 := Lib.hid hb1
    clear hb1
    go_wp2_with fail
    refine (tokens_ok y1 hy160 w1 (HT.out.bel HB1.out) HX1.out).mono ?_
    rintro e w2 ⟨A, c, rfl, hk2, hb2⟩
    have HB2 := Lib.hid (HB1.out.trans (hb2.mono HB1.out.size))
    have HK2 := Lib.hid hk2
    clear hb2 hk2
    go_wp2_with fail
    refine (tokens_err y2 hy260 w2 (HT.out.bel HB2.out) HX2.out).mono ?_
    rintro e w3 ⟨rfl, hb3⟩
    have HB3 := Lib.hid (HB2.out.trans (hb3.mono HB2.out.size))
    obtain ⟨g, o, rfl, hat⟩ := (HK2.out.below hb3).mem (by simp)
    obtain ⟨k1, k2, k3⟩ := hat.2 0 (by simp)
    have hc9 : c ≤ 9223372036854775807 := HK2.out.max
    have hc2 : 2 ≤ c := HK2.out.le
    replace k1 : w3.cell? ⟨g, o, none⟩ = some (.int .i64 1) := by simpa using k1
    replace k2 : w3.cell? ⟨g, o + 1, none⟩ = some (.string t) := by rw [HTX.out]; simpa using k2
    replace k3 : w3.cell? ⟨g, o + 2, none⟩ = some (.int .i64 2) := by simpa using k3
    have heq := tok_eq w3 1 2 t
    have hgd : Tryd.prog.eqGuardType Tryd.prog.depth 33 = false := by kernel_rfl
    have hsi : Tryd.prog.stoodInHeld 33 = false := by kernel_rfl
    have heg := run_eqGuard_agg (P := Tryd.prog) w3 .eql 33 (.tmp 72) (.tmp 74) #[.int .i64 1, .string t, .int .i64 2] #[.int .i64 1, .string t, .int .i64 2] hgd
    have htt := tl_eq t
    clear hb3 hat
    go_wp2_with fail
    refine (awake_f w3 (HT.out.bel HB3.out)).mono ?_
    rintro e w4 ⟨rfl, hb4⟩
    have HB4 := Lib.hid (HB3.out.trans (hb4.mono HB3.out.size))
    clear hb4
    go_wp2_with fail
    go_ret
    exact ⟨rfl, HB4.out⟩

end LexerNumbers
end Go.Proofs.YtnfgjbeifdfkaaaDoor
