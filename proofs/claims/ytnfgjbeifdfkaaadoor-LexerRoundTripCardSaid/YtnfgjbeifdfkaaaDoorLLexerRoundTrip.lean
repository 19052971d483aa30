/- The law LexerRoundTrip of stelelaw19 returns true for every input in a world that holds the laid variables. -/
import Derived.Test.YtnfgjbeifdfkaaaDoorTl
namespace Go.Proofs.YtnfgjbeifdfkaaaDoor
namespace LexerRoundTrip
open Go.RowKit Lx

set_option maxRecDepth 100000 in
set_option maxHeartbeats 2000000 in
theorem core (w : World) (ht : Tab w) (a : ByteArray) (ha : a.size ≤ 140737488355328) :
    Calls Tryd.prog 6 #[.string a] w fun e w' => e = .returned (.bool true) ∧ Below w.heap.size w w' := by
  have HT := Lib.hid ht
  clear ht
  go_enter Tryd.func6, Tryd.ntmps6
  by_cases hl : 1000 < a.size
  · have hlI : (1000 : Int) < (a.size : Int) := by omega
    go_wp2_with fail
    refine (tokens_any' a w HT.out).mono ?_
    rintro e w1 ⟨A, m, c, n, x, rfl, hb1⟩
    have HB1 := Lib.hid hb1
    clear hb1
    go_wp2_with fail
    refine (awake_f w1 (HT.out.bel HB1.out)).mono ?_
    rintro e w2 ⟨rfl, hb2⟩
    have HB2 := Lib.hid (HB1.out.trans (hb2.mono HB1.out.size))
    clear hb2
    go_wp2_with fail
    go_ret
    exact ⟨rfl, HB2.out⟩
  have hlI : ¬ (1000 : Int) < (a.size : Int) := by omega
  cases ea : lex (bl a) 1 with
  | err n x =>
    have hp := (lex_props (bl a).length (bl a) 1 (Nat.le_refl _)).2 n x ea
    have hx : ((x : Int) != 0) = true := by simp; omega
    have EA := Lib.hid ea
    clear hp ea
    go_wp2_with fail
    refine (tokens_err a (by omega) w HT.out EA.out).mono ?_
    rintro e w1 ⟨rfl, hb1⟩
    have HB1 := Lib.hid hb1
    clear hb1
    go_wp2_with fail
    refine (awake_f w1 (HT.out.bel HB1.out)).mono ?_
    rintro e w2 ⟨rfl, hb2⟩
    have HB2 := Lib.hid (HB1.out.trans (hb2.mono HB1.out.size))
    clear hb2
    go_wp2_with fail
    go_ret
    exact ⟨rfl, HB2.out⟩
  | ok la =>
    have EA := Lib.hid ea
    obtain ⟨hg, _, hlen⟩ := (lex_props (bl a).length (bl a) 1 (Nat.le_refl _)).1 la ea
    rw [bl_len] at hlen
    have HG := Lib.hid hg
    have HX := Lib.hid (lex_glue la hg)
    have HGL := Lib.hid (glue_len hg)
    obtain ⟨n, hn⟩ : ∃ n, n = la.length := ⟨_, rfl⟩
    have HN := Lib.hid hn
    have hn1000 : n ≤ 1000 := by omega
    clear ea hg hlen hn
    go_wp2_with fail
    refine (tokens_ok a (by omega) w HT.out EA.out).mono ?_
    rintro e w1 ⟨A, c, rfl, hk1, hb1⟩
    rw [← HN.out]
    have HB1 := Lib.hid hb1
    have HK1 := Lib.hid hk1
    clear hb1 hk1
    go_wp2_with fail
    go_loop [6, 28] (fun y x => ∃ k : Nat, k ≤ n ∧ x = .int .i64 (k : Int) ∧ y = .string (ofL (glue (la.take k)))) (fun _ x => n - (intOf x).toNat)
    case atStart => exact ⟨0, by omega, rfl, rfl⟩
    case round =>
      obtain ⟨k, hk, rfl, rfl⟩ := hrel
      have hz : (ofL (glue (la.take k))).size ≤ 25000 := by
        rw [ofL_size]
        have := glue_len (l := la.take k) (fun t ht => HG.out t (List.mem_of_mem_take ht))
        rw [List.length_take] at this
        omega
      by_cases hkn : k < n
      · have hkl : k < la.length := by rw [← HN.out]; exact hkn
        obtain ⟨g, o, rfl, hat⟩ := HK1.out.mem (by omega)
        obtain ⟨_, q2, _⟩ := hat.2 k hkl
        have htz := good_len (HG.out la[k] (List.getElem_mem hkl))
        have HA := Lib.hid (show ofL (glue (la.take k)) ++ ofL la[k].text ++ ⟨#[32]⟩ = ofL (glue (la.take (k + 1))) by
          rw [ofL_append, show (⟨#[32]⟩ : ByteArray) = ofL [32] from rfl, ofL_append, List.take_succ_eq_append_getElem hkl, glue_app]
          simp [glue])
        have hz2 : (ofL la[k].text).size ≤ 24 := by rw [ofL_size]; exact htz
        obtain ⟨t, ht⟩ : ∃ t, t = ofL la[k].text := ⟨_, rfl⟩
        rw [← ht] at q2 hz2 HA
        obtain ⟨y, hy⟩ : ∃ y, y = ofL (glue (la.take k)) := ⟨_, rfl⟩
        rw [← hy] at hz HA ⊢
        have hz3 : (y ++ t).size ≤ 25024 := by rw [ByteArray.size_append]; omega
        obtain ⟨y2, hy2⟩ : ∃ z, y ++ t = z := ⟨_, rfl⟩
        rw [hy2] at HA hz3
        have g1 : ¬ 9223372036854775807 < y.size + t.size := by omega
        have g2 : ¬ 9223372036854775807 < y2.size + 1 := by omega
        clear hat ht hy
        go_wp2_with fail
        go_round
        case rel => exact ⟨k + 1, by omega, by go_num, by rw [HA.out]⟩
        case measure => simp [intOf]; omega
      · have HTK := Lib.hid (show la.take k = la from List.take_of_length_le (by have := HN.out; omega))
        rw [HTK.out] at hz ⊢
        have HX2 := Lib.hid (show lex (bl (ofL (glue la))) 1 = .ok (la.map flat) by rw [bl_ofL]; exact HX.out)
        obtain ⟨y, hy⟩ : ∃ y, y = ofL (glue la) := ⟨_, rfl⟩
        rw [← hy] at hz HX2 ⊢
        have HML := Lib.hid (show (la.map flat).length = n by rw [List.length_map]; exact HN.out.symm)
        have hnn : ((n : Int) != (n : Int)) = false := by simp
        clear hy
        go_wp2_with fail
        refine (tokens_ok y (by omega) w1 (HT.out.bel HB1.out) HX2.out).mono ?_
        rintro e w2 ⟨A', c', rfl, hk2, hb2⟩
        rw [HML.out]
        have HB2 := Lib.hid (HB1.out.trans (hb2.mono HB1.out.size))
        have HK2 := Lib.hid hk2
        have HK12 := Lib.hid (HK1.out.below hb2)
        clear hb2 hk2
        go_wp2_with fail
        go_loopw [61] (fun x W => ∃ k : Nat, k ≤ n ∧ x = .int .i64 (k : Int) ∧ Hid (Dr w2 W)) (fun x _ => n - (intOf x).toNat)
        case atStart => exact ⟨0, by omega, rfl, Lib.hid (Dr.refl _)⟩
        case round =>
          obtain ⟨j, hj, rfl, HD⟩ := hrel
          by_cases hjn : j < n
          · have hjl : j < la.length := by rw [← HN.out]; exact hjn
            obtain ⟨D, hD⟩ := HD.out
            obtain ⟨g, o, rfl, hat⟩ := (HK12.out.drewN D).mem (by omega)
            obtain ⟨g', o', rfl, hat'⟩ := (HK2.out.drewN D).mem (by simp; omega)
            obtain ⟨q1, q2, _⟩ := hat.2 j hjl
            obtain ⟨r1, r2, r3⟩ := hat'.2 j (by simpa using hjl)
            rw [← hD] at q1 q2 r1 r2 r3
            rw [List.getElem_map] at r1 r2 r3
            obtain ⟨t, ht⟩ : ∃ t, la[j] = t := ⟨_, rfl⟩
            rw [ht] at q1 q2 r1 r2 r3
            replace r1 : wr.cell? ⟨g', o' + j * 3, none⟩ = some (.int .i64 (t.kind : Int)) := r1
            replace r2 : wr.cell? ⟨g', o' + j * 3 + 1, none⟩ = some (.string (ofL t.text)) := r2
            replace r3 : wr.cell? ⟨g', o' + j * 3 + 2, none⟩ = some (.int .i64 1) := r3
            obtain ⟨kd, hkd⟩ : ∃ x, x = t.kind := ⟨_, rfl⟩
            obtain ⟨tx, htx⟩ : ∃ x, x = ofL t.text := ⟨_, rfl⟩
            rw [← hkd] at q1 r1
            rw [← htx] at q2 r2
            have e1 : ((kd : Int) != (kd : Int)) = false := by simp
            have e2 : (tx.toList != tx.toList) = false := by simp
            clear hat hat' ht hkd htx hD
            go_wp2_with fail
            go_quiet (fail)
            go_wp2_with fail
            go_roundw
            case rel => exact ⟨j + 1, by omega, by go_num, Lib.hid (HD.out.drewN _)⟩
            case measure => simp [intOf]; omega
          · have HB3 := Lib.hid (HB2.out.trans ((HD.out.below w2.heap.size).mono HB2.out.size))
            go_wp2_with fail
            refine (awake_f wr (HT.out.bel HB3.out)).mono ?_
            rintro e w4 ⟨rfl, hb4⟩
            have HB4 := Lib.hid (HB3.out.trans (hb4.mono HB3.out.size))
            clear hb4
            go_wp2_with fail
            go_ret
            exact ⟨rfl, HB4.out⟩

end LexerRoundTrip
end Go.Proofs.YtnfgjbeifdfkaaaDoor
