/- The law LexerConcatenates of stelelaw19 returns true for every input in a world that holds the laid variables. -/
import Derived.Test.YtnfgjbeifdfkaaaDoorTl
namespace Go.Proofs.YtnfgjbeifdfkaaaDoor
namespace LexerConcatenates
open Go.RowKit Lx

set_option maxRecDepth 100000 in
set_option maxHeartbeats 2000000 in
theorem core (w : World) (ht : Tab w) (a b : ByteArray) (ha : a.size ≤ 140737488355328) (hb : b.size ≤ 140737488355328) :
    Calls Tryd.prog 5 #[.string a, .string b] w fun e w' => e = .returned (.bool true) ∧ Below w.heap.size w w' := by
  have HT := Lib.hid ht
  clear ht
  go_enter Tryd.func5, Tryd.ntmps5
  by_cases hl : 1000 < a.size
  · have hlI : (1000 : Int) < (a.size : Int) := by omega
    go_wp2_with fail
    refine (awake_f w HT.out).mono ?_
    rintro e w1 ⟨rfl, hb1⟩
    have HB1 := Lib.hid hb1
    clear hb1
    go_wp2_with fail
    go_ret
    exact ⟨rfl, HB1.out⟩
  have hlI : ¬ (1000 : Int) < (a.size : Int) := by omega
  by_cases hm : 1000 < b.size
  · have hmI : (1000 : Int) < (b.size : Int) := by omega
    go_wp2_with fail
    refine (awake_f w HT.out).mono ?_
    rintro e w1 ⟨rfl, hb1⟩
    have HB1 := Lib.hid hb1
    clear hb1
    go_wp2_with fail
    go_ret
    exact ⟨rfl, HB1.out⟩
  have hmI : ¬ (1000 : Int) < (b.size : Int) := by omega
  have hz : (a ++ ⟨#[10]⟩ : ByteArray).size = a.size + 1 := by rw [ByteArray.size_append]; rfl
  have hz2 : (a ++ ⟨#[10]⟩ ++ b : ByteArray).size = a.size + 1 + b.size := by rw [ByteArray.size_append, hz]
  have HJ := Lib.hid (show lex (bl (a ++ ⟨#[10]⟩ ++ b)) 1 = (lex (bl a) 1).join ((lex (bl b) 1).sh (nls (bl a) + 1)) by
    rw [bl_app, bl_app, List.append_assoc]
    exact lex_join (bl a) (bl b))
  obtain ⟨y, hy⟩ : ∃ y, a ++ ⟨#[10]⟩ = y := ⟨_, rfl⟩
  rw [hy] at HJ hz hz2
  obtain ⟨z, hzz⟩ : ∃ z, y ++ b = z := ⟨_, rfl⟩
  rw [hzz] at HJ hz2
  have g1 : ¬ 9223372036854775807 < a.size + 1 := by omega
  have g2 : ¬ 9223372036854775807 < y.size + b.size := by omega
  have hz60 : z.size ≤ 60000 := by omega
  have HZ := Lib.hid hz2
  have HLN := Lib.hid (fun w => lines_f a (by omega) w)
  have hnl : nls (bl a) ≤ 1000 := by have := nls_le (bl a); rw [bl_len] at this; omega
  have HNL := Lib.hid hnl
  obtain ⟨q, hq⟩ : ∃ q, q = nls (bl a) := ⟨_, rfl⟩
  rw [← hq] at HLN hnl
  have HQ := Lib.hid hq
  clear hz hz2 hq
  cases ea : lex (bl a) 1 with
  | err n x =>
    have HX := Lib.hid (show lex (bl z) 1 = .err n x by rw [HJ.out, ea]; rfl)
    have hp := (lex_props (bl a).length (bl a) 1 (Nat.le_refl _)).2 n x ea
    have hx : ((x : Int) != 0) = true := by simp; omega
    have hxx : ((x : Int) == (x : Int)) = true := by simp
    have hnn : ((n : Int) == (n : Int)) = true := by simp
    have EA := Lib.hid ea
    clear hp ea
    go_wp2_with fail
    refine (tokens_err a (by omega) w HT.out EA.out).mono ?_
    rintro e w1 ⟨rfl, hb1⟩
    have HB1 := Lib.hid hb1
    clear hb1
    go_wp2_with fail
    refine (tokens_any b (by omega) w1 (HT.out.bel HB1.out)).mono ?_
    rintro e w2 ⟨A, m, c, n', x', rfl, hb2⟩
    have HB2 := Lib.hid (HB1.out.trans (hb2.mono HB1.out.size))
    clear hb2
    go_wp2_with fail
    refine (tokens_err z hz60 w2 (HT.out.bel HB2.out) HX.out).mono ?_
    rintro e w3 ⟨rfl, hb3⟩
    have HB3 := Lib.hid (HB2.out.trans (hb3.mono HB2.out.size))
    clear hb3
    go_wp2_with fail
    refine (HLN.out _).mono ?_
    rintro e w3 ⟨rfl, rfl⟩
    go_wp2_with fail
    refine (awake_f w3 (HT.out.bel HB3.out)).mono ?_
    rintro e w4 ⟨rfl, hb4⟩
    have HB4 := Lib.hid (HB3.out.trans (hb4.mono HB3.out.size))
    clear hb4
    go_wp2_with fail
    go_ret
    exact ⟨rfl, HB4.out⟩
  | ok la =>
    have EA := Lib.hid ea
    cases eb : lex (bl b) 1 with
    | err n x =>
      have HX := Lib.hid (show lex (bl z) 1 = .err (n + (q + 1)) x by rw [HJ.out, ea, eb, HQ.out]; rfl)
      have hp := (lex_props (bl b).length (bl b) 1 (Nat.le_refl _)).2 n x eb
      have hbn := nls_le (bl b)
      rw [bl_len] at hbn
      have hx : ((x : Int) != 0) = true := by simp; omega
      have hxx : ((x : Int) == (x : Int)) = true := by simp
      obtain ⟨n2, hn2⟩ : ∃ m, m = n + (q + 1) := ⟨_, rfl⟩
      have hnn : ((n2 : Int) == (n : Int) + ((q : Int) + 1)) = true := by simp; omega
      have hnb : n ≤ 2000 := by omega
      rw [← hn2] at HX
      have EB := Lib.hid eb
      clear hp ea eb hn2
      go_wp2_with fail
      refine (tokens_ok a (by omega) w HT.out EA.out).mono ?_
      rintro e w1 ⟨A, c, rfl, _, hb1⟩
      have HB1 := Lib.hid hb1
      clear hb1
      go_wp2_with fail
      refine (tokens_err b (by omega) w1 (HT.out.bel HB1.out) EB.out).mono ?_
      rintro e w2 ⟨rfl, hb2⟩
      have HB2 := Lib.hid (HB1.out.trans (hb2.mono HB1.out.size))
      clear hb2
      go_wp2_with fail
      refine (tokens_err z hz60 w2 (HT.out.bel HB2.out) HX.out).mono ?_
      rintro e w3 ⟨rfl, hb3⟩
      have HB3 := Lib.hid (HB2.out.trans (hb3.mono HB2.out.size))
      clear hb3
      go_wp2_with fail
      refine (HLN.out _).mono ?_
      rintro e w3 ⟨rfl, rfl⟩
      go_wp2_with fail
      refine (awake_f w3 (HT.out.bel HB3.out)).mono ?_
      rintro e w4 ⟨rfl, hb4⟩
      have HB4 := Lib.hid (HB3.out.trans (hb4.mono HB3.out.size))
      clear hb4
      go_wp2_with fail
      go_ret
      exact ⟨rfl, HB4.out⟩
    | ok lb =>
      have HX := Lib.hid (show lex (bl z) 1 = .ok (la ++ lb.map (Tk.sh (q + 1))) by rw [HJ.out, ea, eb, HQ.out]; rfl)
      have EB := Lib.hid eb
      have ha1 := ((lex_props (bl a).length (bl a) 1 (Nat.le_refl _)).1 la ea).2.2
      have hb1 := ((lex_props (bl b).length (bl b) 1 (Nat.le_refl _)).1 lb eb).2.2
      rw [bl_len] at ha1 hb1
      have hla : la.length ≤ 1000 := by omega
      have hlb : lb.length ≤ 1000 := by omega
      have HLA := Lib.hid (show ∀ t ∈ la, t.line + 0 ≤ 1000000 from fun t ht => by
        have := lex_lines _ _ 1 (Nat.le_refl _) la ea t ht
        have := nls_le (bl a)
        rw [bl_len] at this
        omega)
      have HLB := Lib.hid (show ∀ t ∈ lb, t.line + (q + 1) ≤ 1000000 from fun t ht => by
        have := lex_lines _ _ 1 (Nat.le_refl _) lb eb t ht
        have := nls_le (bl b)
        rw [bl_len] at this
        omega)
      obtain ⟨na, hna⟩ : ∃ n, n = la.length := ⟨_, rfl⟩
      obtain ⟨nb, hnb⟩ : ∃ n, n = lb.length := ⟨_, rfl⟩
      obtain ⟨nc, hnc⟩ : ∃ n, n = (la ++ lb.map (Tk.sh (q + 1))).length := ⟨_, rfl⟩
      have hnab : nc = na + nb := by rw [hnc, hna, hnb, List.length_append, List.length_map]
      have hcc : ((nc : Int) == (na : Int) + (nb : Int)) = true := by simp; omega
      have HNA := Lib.hid hna
      have HNB := Lib.hid hnb
      have HNC := Lib.hid hnc
      have HNAB := Lib.hid hnab
      clear ea eb ha1 hb1
      have h1n : na ≤ 1000 := by rw [hna]; exact hla
      have h2n : nb ≤ 1000 := by rw [hnb]; exact hlb
      have h3n : na ≤ nc := by omega
      clear hna hnb hnc hnab hla hlb
      go_wp2_with fail
      refine (tokens_ok a (by omega) w HT.out EA.out).mono ?_
      rintro e w1 ⟨A, c, rfl, hk1, hb1⟩
      rw [← HNA.out]
      have HB1 := Lib.hid hb1
      have HK1 := Lib.hid hk1
      clear hb1 hk1
      go_wp2_with fail
      refine (tokens_ok b (by omega) w1 (HT.out.bel HB1.out) EB.out).mono ?_
      rintro e w2 ⟨A', c', rfl, hk2, hb2⟩
      rw [← HNB.out]
      have HB2 := Lib.hid (HB1.out.trans (hb2.mono HB1.out.size))
      have HK2 := Lib.hid hk2
      have HK12 := Lib.hid (HK1.out.below hb2)
      clear hb2 hk2
      go_wp2_with fail
      refine (tokens_form z hz60 w2 (HT.out.bel HB2.out) HX.out).mono ?_
      rintro e w3 ⟨A3, c3, rfl, hform, hk3, hb3⟩
      rw [← HNC.out]
      have HB3 := Lib.hid (HB2.out.trans (hb3.mono HB2.out.size))
      have HK3 := Lib.hid hk3
      have HK13 := Lib.hid (HK12.out.below hb3)
      have HK23 := Lib.hid (HK2.out.below hb3)
      clear hb3 hk3
      go_wp2_with fail
      refine (HLN.out _).mono ?_
      rintro e w3 ⟨rfl, rfl⟩
      have hc3 : nc ≤ c3 := by have := HK3.out.le; rw [HNC.out]; exact this
      have hc3m : c3 ≤ 9223372036854775807 := HK3.out.max
      have hsub : nc - na = nb := by have := HNAB.out; omega
      have HS0 := Lib.hid (fun (V : World) (A3 : Option Addr) (h1 : Tks V A c la) (h2 : Tks V A3 c3 la) => (show Calls Tryd.prog 13 #[.slice A na c, .slice A3 na c3, .int .i64 0] V (fun e w' => e = .returned (.bool true) ∧ Below V.heap.size V w') from by
        have := same_f V A A3 c c3 la 0 h1 (by rw [sh_zero]; exact h2) (by have := HNA.out; omega) HLA.out
        rw [← HNA.out] at this
        exact this))
      have HS2 := Lib.hid (fun (V : World) (A3 : Option Addr) (c4 : Nat) (h1 : Tks V A' c' lb) (h2 : Tks V A3 c4 (lb.map (Tk.sh (q + 1)))) => (show Calls Tryd.prog 13 #[.slice A' nb c', .slice A3 nb c4, .int .i64 ((q : Int) + 1)] V (fun e w' => e = .returned (.bool true) ∧ Below V.heap.size V w') from by
        have := same_f V A' A3 c' c4 lb (q + 1) h1 h2 (by have := HNB.out; omega) HLB.out
        rw [← HNB.out] at this
        exact this))
      have hcm : c3 ≤ maxLen := hc3m
      rcases hform with ⟨rfl, rfl, hnil⟩ | ⟨g, rfl⟩
      · have h0 : nc = 0 := by omega
        have hna0 : na = 0 := by omega
        have hnb0 : nb = 0 := by have := HNAB.out; omega
        have hla0 : la = [] := List.eq_nil_of_length_eq_zero (by rw [← HNA.out]; exact hna0)
        have hlb0 : lb = [] := List.eq_nil_of_length_eq_zero (by rw [← HNB.out]; exact hnb0)
        have HS0' := Lib.hid (HS0.out w3 none HK13.out (by rw [hla0]; exact Tks.nil_ _ _ (by unfold maxLen; omega)))
        have HS2' := Lib.hid (fun V (h : Below w3.heap.size w3 V) => HS2.out V none 0 (HK23.out.below h) (by rw [hlb0]; exact Tks.nil_ _ _ (by unfold maxLen; omega)))
        rw [hna0] at HS0'
        rw [hnb0] at HS2'
        rw [h0, hna0, hnb0]
        clear hna0 hnb0 h0 hla0 hlb0 hnil hcc hsub h3n hc3 h1n h2n
        go_wp2_with fail
        refine HS0'.out.mono ?_
        rintro e w4 ⟨rfl, hb4⟩
        have HB4 := Lib.hid (HB3.out.trans (hb4.mono HB3.out.size))
        have HH4 := Lib.hid hb4
        clear hb4
        go_wp2_with fail
        refine (HS2'.out w4 HH4.out).mono ?_
        rintro e w5 ⟨rfl, hb5⟩
        have HB5 := Lib.hid (HB4.out.trans (hb5.mono HB4.out.size))
        clear hb5
        go_wp2_with fail
        refine (awake_f w5 (HT.out.bel HB5.out)).mono ?_
        rintro e w6 ⟨rfl, hb6⟩
        have HB6 := Lib.hid (HB5.out.trans (hb6.mono HB5.out.size))
        clear hb6
        go_wp2_with fail
        go_ret
        exact ⟨rfl, HB6.out⟩
      · have HS0' := Lib.hid (HS0.out w3 (some ⟨g, 0, none⟩) HK13.out HK3.out.take)
        have hle : na ≤ c3 := by omega
        by_cases hcn : c3 = na
        · have hnb0 : nb = 0 := by have := HNAB.out; omega
          have hlb0 : lb = [] := List.eq_nil_of_length_eq_zero (by rw [← HNB.out]; exact hnb0)
          have hncn : nc = na := by omega
          have HS2' := Lib.hid (fun V (h : Below w3.heap.size w3 V) => HS2.out V (some ⟨g, 0, none⟩) 0 (HK23.out.below h) (by rw [hlb0]; exact Tks.nil_ _ _ (by unfold maxLen; omega)))
          rw [hnb0] at HS2'
          rw [hcn] at HS0'
          rw [hcn, hncn, hnb0]
          clear hcn hncn hnb0 hlb0 hcc hsub h3n hc3 hle
          go_wp2_with fail
          refine HS0'.out.mono ?_
          rintro e w4 ⟨rfl, hb4⟩
          have HB4 := Lib.hid (HB3.out.trans (hb4.mono HB3.out.size))
          have HH4 := Lib.hid hb4
          clear hb4
          go_wp2_with fail
          refine (HS2'.out w4 HH4.out).mono ?_
          rintro e w5 ⟨rfl, hb5⟩
          have HB5 := Lib.hid (HB4.out.trans (hb5.mono HB4.out.size))
          clear hb5
          go_wp2_with fail
          refine (awake_f w5 (HT.out.bel HB5.out)).mono ?_
          rintro e w6 ⟨rfl, hb6⟩
          have HB6 := Lib.hid (HB5.out.trans (hb6.mono HB5.out.size))
          clear hb6
          go_wp2_with fail
          go_ret
          exact ⟨rfl, HB6.out⟩
        · have hcnI : ¬ (c3 : Int) = (na : Int) := by omega
          have HS2' := Lib.hid (fun V (h : Below w3.heap.size w3 V) => HS2.out V (some ⟨g, na * 3, none⟩) (c3 - na) (HK23.out.below h) (by
            have := (HK3.out.below h).drop
            rw [← HNA.out] at this
            exact this))
          go_wp2_with fail
          refine HS0'.out.mono ?_
          rintro e w4 ⟨rfl, hb4⟩
          have HB4 := Lib.hid (HB3.out.trans (hb4.mono HB3.out.size))
          have HH4 := Lib.hid hb4
          clear hb4
          go_wp2_with fail
          refine (HS2'.out w4 HH4.out).mono ?_
          rintro e w5 ⟨rfl, hb5⟩
          have HB5 := Lib.hid (HB4.out.trans (hb5.mono HB4.out.size))
          clear hb5
          go_wp2_with fail
          refine (awake_f w5 (HT.out.bel HB5.out)).mono ?_
          rintro e w6 ⟨rfl, hb6⟩
          have HB6 := Lib.hid (HB5.out.trans (hb6.mono HB5.out.size))
          clear hb6
          go_wp2_with fail
          go_ret
          exact ⟨rfl, HB6.out⟩

end LexerConcatenates
end Go.Proofs.YtnfgjbeifdfkaaaDoor
