/- The law LexerLayout of stelelaw19 returns true for every input in a world that holds the laid variables. -/
import Derived.Test.YtnfgjbeifdfkaaaDoorTl
namespace Go.Proofs.YtnfgjbeifdfkaaaDoor
namespace LexerLayout
open Go.RowKit Lx

def U : Bs := [9, 32, 47, 47, 32, 34, 32, 110, 111, 32, 116, 111, 107, 101, 110, 32, 39, 10, 32, 10]
def rep : Nat → Bs
  | 0 => []
  | k + 1 => rep k ++ U
theorem rep_nls : ∀ k, nls (rep k) = 2 * k
  | 0 => rfl
  | k + 1 => by
    show nls (rep k ++ U) = _
    rw [nls_append, rep_nls k, show nls U = 2 by decide]
    omega
theorem rep_len : ∀ k, (rep k).length = 20 * k
  | 0 => rfl
  | k + 1 => by
    show (rep k ++ U).length = _
    rw [List.length_append, rep_len k]
    show _ + 20 = _
    omega
theorem lex_U (s : Bs) (line : Nat) : lex (U ++ s) line = lex s (line + 2) := by
  show lex (9 :: 32 :: 47 :: 47 :: 32 :: 34 :: 32 :: 110 :: 111 :: 32 :: 116 :: 111 :: 107 :: 101 :: 110 :: 32 :: 39 :: 10 :: 32 :: 10 :: s) line = _
  rw [lex_ws (by decide), lex_ws (by decide)]
  have hc : pre [47, 47] (47 :: 47 :: 32 :: 34 :: 32 :: 110 :: 111 :: 32 :: 116 :: 111 :: 107 :: 101 :: 110 :: 32 :: 39 :: 10 :: 32 :: 10 :: s) = true := by unfold pre; simp
  rw [lex_comment hc, show (47 :: 47 :: 32 :: 34 :: 32 :: 110 :: 111 :: 32 :: 116 :: 111 :: 107 :: 101 :: 110 :: 32 :: 39 :: 10 :: 32 :: 10 :: s : Bs) = [47, 47, 32, 34, 32, 110, 111, 32, 116, 111, 107, 101, 110, 32, 39] ++ 10 :: 32 :: 10 :: s from rfl, tw_app (by decide), tw_all (by decide), List.drop_left, lex_ws (by decide), lex_ws (by decide), lex_ws (by decide)]
  rfl
theorem lex_rep (s : Bs) : ∀ (k line : Nat), lex (rep k ++ s) line = lex s (line + 2 * k)
  | 0, line => rfl
  | k + 1, line => by
    show lex ((rep k ++ U) ++ s) line = _
    rw [List.append_assoc, lex_rep (U ++ s) k, lex_U]
    congr 1
theorem lex_all (a : Bs) (k : Nat) : lex (rep k ++ a ++ [32, 47, 47, 32, 116, 104, 101, 32, 101, 110, 100]) 1 = (lex a 1).sh (2 * k) := by
  rw [List.append_assoc, lex_rep, lex_end [32, 116, 104, 101, 32, 101, 110, 100] (by decide) a.length a _ (Nat.le_refl _), lex_sh (2 * k) a.length a 1 (Nat.le_refl _)]
set_option maxRecDepth 100000 in
set_option maxHeartbeats 2000000 in
theorem core (w : World) (ht : Tab w) (a : ByteArray) (ha : a.size ≤ 140737488355328) (by_ : Nat) (hby : by_ < 256) :
    Calls Tryd.prog 7 #[.string a, .int .u8 (by_ : Int)] w fun e w' => e = .returned (.bool true) ∧ Below w.heap.size w w' := by
  have HT := Lib.hid ht
  clear ht
  go_enter Tryd.func7, Tryd.ntmps7
  by_cases hl : 1000 < a.size
  · have hlI : (1000 : Int) < (a.size : Int) := by omega
    go_wp2_with fail
    refine (awake_f w HT.out).mono ?_
    rintro e w1 ⟨rfl, hb1⟩
    have HB1 := Lib.hid hb1
    clear hb1
    go_wp2_with fail
    go_ret
    exact ⟨rfl, HB1.out⟩
  have hlI : ¬ (1000 : Int) < (a.size : Int) := by omega
  obtain ⟨k, hk⟩ : ∃ k, k = by_ % 5 := ⟨_, rfl⟩
  have q1 : (by_ : Int) % 5 = (k : Int) := by omega
  have q2 : (by_ : Int).tmod 5 = (k : Int) := by rw [Int.tmod_eq_emod_of_nonneg (by omega)]; exact q1
  have hk4 : k ≤ 4 := by omega
  clear hk
  go_wp2_with fail
  go_loop [5, 21] (fun y x => ∃ j : Nat, j ≤ k ∧ x = .int .i64 (j : Int) ∧ y = .string (ofL (rep j))) (fun _ x => k - (intOf x).toNat)
  case atStart => exact ⟨0, by omega, rfl, rfl⟩
  case round =>
    obtain ⟨j, hj, rfl, rfl⟩ := hrel
    by_cases hjk : j < k
    · have hz : (ofL (rep j)).size ≤ 80 := by rw [ofL_size, rep_len]; omega
      have HA := Lib.hid (show ofL (rep j) ++ ⟨#[9, 32, 47, 47, 32, 34, 32, 110, 111, 32, 116, 111, 107, 101, 110, 32, 39, 10, 32, 10]⟩ = ofL (rep (j + 1)) from ofL_append (rep j) U)
      obtain ⟨y, hy⟩ : ∃ y, y = ofL (rep j) := ⟨_, rfl⟩
      rw [← hy] at hz HA ⊢
      have g1 : ¬ 9223372036854775807 < y.size + 20 := by omega
      clear hy
      go_wp2_with fail
      go_round
      case rel => exact ⟨j + 1, by omega, by go_num, by rw [HA.out]⟩
      case measure => simp [intOf]; omega
    · have HJ := Lib.hid (show j = k by omega)
      rw [HJ.out]
      have hz : (ofL (rep k)).size = 20 * k := by rw [ofL_size, rep_len]
      have HL := Lib.hid (show ∀ w, Calls Tryd.prog 12 #[.string (ofL (rep k))] w (fun e w' => e = .returned (.int .i64 ((2 * k : Nat) : Int)) ∧ w' = w) from fun w => by
        have := lines_f (ofL (rep k)) (by omega) w
        rw [bl_ofL, rep_nls] at this
        exact this)
      have HX0 := Lib.hid (show lex (bl (ofL (rep k) ++ a ++ ⟨#[32, 47, 47, 32, 116, 104, 101, 32, 101, 110, 100]⟩)) 1 = (lex (bl a) 1).sh (2 * k) by
        rw [bl_app, bl_app, bl_ofL]
        exact lex_all (bl a) k)
      obtain ⟨f, hf⟩ : ∃ f, f = ofL (rep k) := ⟨_, rfl⟩
      rw [← hf] at hz HL HX0 ⊢
      obtain ⟨d, hd⟩ : ∃ d, d = 2 * k := ⟨_, rfl⟩
      rw [← hd] at HL HX0
      have hd8 : d ≤ 8 := by omega
      have hz1 : (f ++ a).size = 20 * k + a.size := by rw [ByteArray.size_append, hz]
      obtain ⟨y, hy⟩ : ∃ y, f ++ a = y := ⟨_, rfl⟩
      rw [hy] at hz1 HX0
      have hz2 : (y ++ ⟨#[32, 47, 47, 32, 116, 104, 101, 32, 101, 110, 100]⟩ : ByteArray).size = y.size + 11 := by rw [ByteArray.size_append]; rfl
      obtain ⟨z, hzz⟩ : ∃ z, y ++ ⟨#[32, 47, 47, 32, 116, 104, 101, 32, 101, 110, 100]⟩ = z := ⟨_, rfl⟩
      rw [hzz] at hz2 HX0
      have hz60 : z.size ≤ 60000 := by omega
      have g1 : ¬ 9223372036854775807 < f.size + a.size := by omega
      have g2 : ¬ 9223372036854775807 < y.size + 11 := by omega
      clear hf hd hz hz1 hz2
      cases ea : lex (bl a) 1 with
      | err n x =>
        obtain ⟨n2, hn2⟩ : ∃ m, m = n + d := ⟨_, rfl⟩
        have HX := Lib.hid (show lex (bl z) 1 = .err n2 x by rw [HX0.out, ea, hn2]; rfl)
        have hp := (lex_props (bl a).length (bl a) 1 (Nat.le_refl _)).2 n x ea
        have hnl := nls_le (bl a)
        rw [bl_len] at hnl
        have hx : ((x : Int) != 0) = true := by simp; omega
        have hxx : ((x : Int) == (x : Int)) = true := by simp
        have hnn : ((n2 : Int) == (n : Int) + (d : Int)) = true := by simp; omega
        have hnb : n ≤ 2000 := by omega
        have EA := Lib.hid ea
        clear hp ea hn2 hnl
        go_wp2_with fail
        refine (tokens_err a (by omega) w HT.out EA.out).mono ?_
        rintro e w1 ⟨rfl, hb1⟩
        have HB1 := Lib.hid hb1
        clear hb1
        go_wp2_with fail
        refine (tokens_err z hz60 w1 (HT.out.bel HB1.out) HX.out).mono ?_
        rintro e w3 ⟨rfl, hb3⟩
        have HB3 := Lib.hid (HB1.out.trans (hb3.mono HB1.out.size))
        clear hb3
        go_wp2_with fail
        refine (HL.out _).mono ?_
        rintro e w3 ⟨rfl, rfl⟩
        go_wp2_with fail
        refine (awake_f w3 (HT.out.bel HB3.out)).mono ?_
        rintro e w4 ⟨rfl, hb4⟩
        have HB4 := Lib.hid (HB3.out.trans (hb4.mono HB3.out.size))
        clear hb4
        go_wp2_with fail
        go_ret
        exact ⟨rfl, HB4.out⟩
      | ok la =>
        have EA := Lib.hid ea
        have HX := Lib.hid (show lex (bl z) 1 = .ok (la.map (Tk.sh d)) by rw [HX0.out, ea]; rfl)
        have ha1 := ((lex_props (bl a).length (bl a) 1 (Nat.le_refl _)).1 la ea).2.2
        rw [bl_len] at ha1
        have hla : la.length ≤ 1000 := by omega
        have HLA := Lib.hid (show ∀ t ∈ la, t.line + d ≤ 1000000 from fun t ht => by
          have := lex_lines _ _ 1 (Nat.le_refl _) la ea t ht
          have := nls_le (bl a)
          rw [bl_len] at this
          omega)
        have HML := Lib.hid (show (la.map (Tk.sh d)).length = la.length from List.length_map ..)
        clear ea ha1
        go_wp2_with fail
        refine (tokens_ok a (by omega) w HT.out EA.out).mono ?_
        rintro e w1 ⟨A, c, rfl, hk1, hb1⟩
        have HB1 := Lib.hid hb1
        have HK1 := Lib.hid hk1
        clear hb1 hk1
        go_wp2_with fail
        refine (tokens_ok z hz60 w1 (HT.out.bel HB1.out) HX.out).mono ?_
        rintro e w3 ⟨A', c', rfl, hk3, hb3⟩
        rw [HML.out]
        have HB3 := Lib.hid (HB1.out.trans (hb3.mono HB1.out.size))
        have HK3 := Lib.hid hk3
        have HK13 := Lib.hid (HK1.out.below hb3)
        clear hb3 hk3
        go_wp2_with fail
        refine (HL.out _).mono ?_
        rintro e w3 ⟨rfl, rfl⟩
        have HS := Lib.hid (same_f w3 A A' c c' la d HK13.out HK3.out (by omega) HLA.out)
        go_wp2_with fail
        refine HS.out.mono ?_
        rintro e w4 ⟨rfl, hb4⟩
        have HB4 := Lib.hid (HB3.out.trans (hb4.mono HB3.out.size))
        clear hb4
        go_wp2_with fail
        refine (awake_f w4 (HT.out.bel HB4.out)).mono ?_
        rintro e w5 ⟨rfl, hb5⟩
        have HB5 := Lib.hid (HB4.out.trans (hb5.mono HB4.out.size))
        clear hb5
        go_wp2_with fail
        go_ret
        exact ⟨rfl, HB5.out⟩

end LexerLayout
end Go.Proofs.YtnfgjbeifdfkaaaDoor
