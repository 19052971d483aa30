/- The law LexerKinds of stelelaw19 returns true for every input in a world that holds the laid variables. -/
import Derived.Test.YtnfgjbeifdfkaaaDoorTl
namespace Go.Proofs.YtnfgjbeifdfkaaaDoor
namespace LexerKinds
open Go.RowKit Lx

theorem kw_cell {W : World} {g : Nat} (hb : Blk W g 9 (kws.map fun t => Value.string (ofL t)).toArray) {k : Nat} (hk : k < 8) : W.cell? ⟨g, k, none⟩ = some (.string (ofL (kws.getD k []))) := by
  rw [hb.cell]
  have hk' : k < kws.length := hk
  simp [List.getElem?_eq_getElem hk', List.getD]
def kin (t : Bs) (j : Nat) : Bool := decide (t ∈ kws.take j)
theorem kin_succ (t : Bs) {j : Nat} (hj : j < 8) : kin t (j + 1) = (kin t j || decide (kws.getD j [] = t)) := by
  have hk' : j < kws.length := hj
  unfold kin
  rw [List.take_succ_eq_append_getElem hk', List.getD, List.getElem?_eq_getElem hk', Bool.eq_iff_iff]
  simp only [decide_eq_true_eq, List.mem_append, List.mem_singleton, Bool.or_eq_true, Option.getD_some]
  constructor
  · rintro (h | h)
    · exact .inl h
    · exact .inr h.symm
  · rintro (h | h)
    · exact .inl h
    · exact .inr h.symm
theorem kin_all (t : Bs) : kin t 8 = decide (t ∈ kws) := by
  unfold kin
  rw [List.take_of_length_le (by decide)]
theorem kin_zero (t : Bs) : kin t 0 = false := by simp [kin]
set_option maxRecDepth 100000 in
set_option maxHeartbeats 4000000 in
theorem core (w : World) (ht : Tab w) (a : ByteArray) (ha : a.size ≤ 140737488355328) :
    Calls Tryd.prog 4 #[.string a] w fun e w' => e = .returned (.bool true) ∧ Below w.heap.size w w' := by
  have HT := Lib.hid ht
  clear ht
  go_enter Tryd.func4, Tryd.ntmps4
  by_cases hbig : 60000 < a.size
  · have hlI : (1000 : Int) < (a.size : Int) := by omega
    go_wp2_with fail
    refine (tokens_big a hbig w).mono ?_
    rintro e w1 ⟨rfl, rfl⟩
    go_wp2_with fail
    refine (awake_f w1 HT.out).mono ?_
    rintro e w2 ⟨rfl, hb2⟩
    have HB2 := Lib.hid hb2
    clear hb2
    go_wp2_with fail
    go_ret
    exact ⟨rfl, HB2.out⟩
  cases ea : lex (bl a) 1 with
  | err n x =>
    have hp := (lex_props (bl a).length (bl a) 1 (Nat.le_refl _)).2 n x ea
    have hx : ((x : Int) != 0) = true := by simp; omega
    have hx0 : ((x : Int) == 0) = false := by simp; omega
    have hn1 : (1 : Int) ≤ (n : Int) := by omega
    have EA := Lib.hid ea
    clear hp ea
    by_cases hl : 1000 < a.size
    · have hlI : (1000 : Int) < (a.size : Int) := by omega
      go_wp2_with fail
      refine (tokens_err a (by omega) w HT.out EA.out).mono ?_
      rintro e w1 ⟨rfl, hb1⟩
      have HB1 := Lib.hid hb1
      clear hb1
      go_wp2_with fail
      refine (awake_f w1 (HT.out.bel HB1.out)).mono ?_
      rintro e w2 ⟨rfl, hb2⟩
      have HB2 := Lib.hid (HB1.out.trans (hb2.mono HB1.out.size))
      clear hb2
      go_wp2_with fail
      go_ret
      exact ⟨rfl, HB2.out⟩
    · have hlI : ¬ (1000 : Int) < (a.size : Int) := by omega
      go_wp2_with fail
      refine (tokens_err a (by omega) w HT.out EA.out).mono ?_
      rintro e w1 ⟨rfl, hb1⟩
      have HB1 := Lib.hid hb1
      clear hb1
      go_wp2_with fail
      refine (awake_f w1 (HT.out.bel HB1.out)).mono ?_
      rintro e w2 ⟨rfl, hb2⟩
      have HB2 := Lib.hid (HB1.out.trans (hb2.mono HB1.out.size))
      clear hb2
      go_wp2_with fail
      go_ret
      exact ⟨rfl, HB2.out⟩
  | ok la =>
    have EA := Lib.hid ea
    obtain ⟨hg, hasc, hlen⟩ := (lex_props (bl a).length (bl a) 1 (Nat.le_refl _)).1 la ea
    rw [bl_len] at hlen
    by_cases hl : 1000 < a.size
    · have hlI : (1000 : Int) < (a.size : Int) := by omega
      clear ea hg hasc
      go_wp2_with fail
      refine (tokens_ok a (by omega) w HT.out EA.out).mono ?_
      rintro e w1 ⟨A, c, rfl, _, hb1⟩
      have HB1 := Lib.hid hb1
      clear hb1
      go_wp2_with fail
      refine (awake_f w1 (HT.out.bel HB1.out)).mono ?_
      rintro e w2 ⟨rfl, hb2⟩
      have HB2 := Lib.hid (HB1.out.trans (hb2.mono HB1.out.size))
      clear hb2
      go_wp2_with fail
      go_ret
      exact ⟨rfl, HB2.out⟩
    · have hlI : ¬ (1000 : Int) < (a.size : Int) := by omega
      have HG := Lib.hid hg
      have HAS := Lib.hid hasc
      have HLL := Lib.hid (show ∀ t ∈ la, t.line ≤ 60001 from fun t ht => by
        have := lex_lines _ _ 1 (Nat.le_refl _) la ea t ht
        have := nls_le (bl a)
        rw [bl_len] at this
        omega)
      obtain ⟨n, hn⟩ : ∃ n, n = la.length := ⟨_, rfl⟩
      have HN := Lib.hid hn
      have hn1000 : n ≤ 1000 := by omega
      clear ea hg hlen hn hasc
      go_wp2_with fail
      refine (tokens_ok a (by omega) w HT.out EA.out).mono ?_
      rintro e w1 ⟨A, c, rfl, hk1, hb1⟩
      rw [← HN.out]
      have HB1 := Lib.hid hb1
      have HK1 := Lib.hid hk1
      clear hb1 hk1
      go_wp2_with fail
      refine (keywords_f w1).mono ?_
      rintro e w' ⟨rfl, rfl⟩
      have HK2 := Lib.hid (HK1.out.below ((Below.refl _ w1).alloc (Nat.le_refl _) (.cells (kws.map fun t => Value.string (ofL t)).toArray 9)))
      have HB2 := Lib.hid (HB1.out.alloc HB1.out.size (.cells (kws.map fun t => Value.string (ofL t)).toArray 9))
      have HKW := Lib.hid (Blk.new w1 9 (kws.map fun t => Value.string (ofL t)).toArray)
      generalize w1.alloc (.cells (kws.map fun t => Value.string (ofL t)).toArray 9) = w2 at *
      generalize w1.heap.size = gw at *
      go_wp2_with fail
      go_loopw [7, 46] (fun y x W => ∃ (k Lp : Nat), k ≤ n ∧ x = .int .i64 (k : Int) ∧ y = .int .i64 (Lp : Int) ∧ Lp ≤ 60001 ∧ Hid (asc Lp (la.drop k)) ∧ Hid (Dr w2 W)) (fun _ x _ => n - (intOf x).toNat)
      case atStart => exact ⟨0, 1, by omega, rfl, rfl, by omega, HAS, Lib.hid (Dr.refl _)⟩
      case round =>
        obtain ⟨k, Lp, hk, rfl, rfl, hLp, HAS, HD⟩ := hrel
        by_cases hkn : k < n
        · have hkl : k < la.length := by rw [← HN.out]; exact hkn
          have hasc := HAS.out
          rw [List.drop_eq_getElem_cons hkl] at hasc
          obtain ⟨hlp, hasc2⟩ := hasc
          have HA2 := Lib.hid hasc2
          have hgd := HG.out la[k] (List.getElem_mem hkl)
          have hll := HLL.out la[k] (List.getElem_mem hkl)
          obtain ⟨t, ht⟩ : ∃ t, la[k] = t := ⟨_, rfl⟩
          rw [ht] at hlp HA2 hgd hll
          have HTE := Lib.hid ht
          clear hasc2 ht
          go_wp2_with fail
          obtain ⟨wo, hwo⟩ : ∃ wo : World, wo = wr := ⟨_, rfl⟩
          rw [← hwo] at HD ⊢
          clear hwo
          go_loopw [9, 51] (fun y x W => ∃ j : Nat, j ≤ 8 ∧ x = .int .i64 (j : Int) ∧ y = .bool (kin t.text j) ∧ Hid (Dr w2 W)) (fun _ x _ => 8 - (intOf x).toNat)
          case atStart => exact ⟨0, by omega, rfl, by rw [kin_zero], HD⟩
          case round =>
            obtain ⟨j, hj, rfl, rfl, HD2⟩ := hrel
            by_cases hj8 : j < 8
            · obtain ⟨D, hD⟩ := HD2.out
              obtain ⟨g, o, rfl, hat⟩ := (HK2.out.drewN D).mem (by omega)
              obtain ⟨_, q2, _⟩ := hat.2 k hkl
              rw [HTE.out] at q2
              have qk := kw_cell (HKW.out.drewN D) hj8
              rw [← hD] at q2 qk
              have HKS := Lib.hid (kin_succ t.text hj8)
              have HW := Lib.hid (show (ofL (kws.getD j [])).toList = (ofL t.text).toList ↔ kws.getD j [] = t.text by rw [toList_bl, toList_bl, bl_ofL, bl_ofL])
              obtain ⟨tx, htx⟩ : ∃ x, x = ofL t.text := ⟨_, rfl⟩
              obtain ⟨kx, hkx⟩ : ∃ x, x = ofL (kws.getD j []) := ⟨_, rfl⟩
              rw [← htx] at q2 HW
              rw [← hkx] at qk HW
              obtain ⟨b, hb⟩ : ∃ b, b = kin t.text j := ⟨_, rfl⟩
              rw [← hb] at HKS ⊢
              have hjI : (j : Int) < 8 := by omega
              clear hat hD htx hkx hb hgd
              cases b with
              | true =>
                go_wp2_with fail
                go_quiet (fail)
                go_wp2_with fail
                go_roundw
                case rel => exact ⟨j + 1, by omega, by go_num, by rw [HKS.out]; rfl, Lib.hid (HD2.out.drewN _)⟩
                case measure => simp [intOf]; omega
              | false =>
                by_cases hw : kws.getD j [] = t.text
                · have hw2 : (kx.toList == tx.toList) = true := by rw [beq_iff_eq]; exact HW.out.2 hw
                  have HKT := Lib.hid (HKS.out.trans (show (false || decide (kws.getD j [] = t.text)) = true by rw [decide_eq_true hw]; rfl))
                  clear hw
                  go_wp2_with fail
                  go_quiet (fail)
                  go_wp2_with fail
                  go_roundw
                  case rel => exact ⟨j + 1, by omega, by go_num, by rw [HKT.out], Lib.hid (HD2.out.drewN _)⟩
                  case measure => simp [intOf]; omega
                · have hw2 : (kx.toList == tx.toList) = false := by rw [beq_eq_false_iff_ne]; exact fun e => hw (HW.out.1 e)
                  have HKT := Lib.hid (HKS.out.trans (show (false || decide (kws.getD j [] = t.text)) = false by rw [decide_eq_false hw]; rfl))
                  clear hw
                  go_wp2_with fail
                  go_quiet (fail)
                  go_wp2_with fail
                  go_roundw
                  case rel => exact ⟨j + 1, by omega, by go_num, by rw [HKT.out], Lib.hid (HD2.out.drewN _)⟩
                  case measure => simp [intOf]; omega
            · have HJ := Lib.hid (show j = 8 by omega)
              rw [HJ.out, kin_all]
              obtain ⟨D, hD⟩ := HD2.out
              obtain ⟨g, o, rfl, hat⟩ := (HK2.out.drewN D).mem (by omega)
              obtain ⟨q1, q2, q3⟩ := hat.2 k hkl
              rw [← hD, HTE.out] at q1 q2 q3
              obtain ⟨k1, k2, k3, k4, k5, k6, k7, k8⟩ := good_kinds hgd
              have hne : (ofL t.text).toList ≠ [] := by rw [toList_bl, bl_ofL]; exact k1
              have hne2 : (ofL t.text).toList.isEmpty = false := by
                cases h : (ofL t.text).toList with
                | nil => exact absurd h hne
                | cons a b => rfl
              have hsz : (ofL t.text).size = t.text.length := ofL_size _
              have hpos : 0 < (ofL t.text).size := by
                rw [hsz]
                rcases Nat.eq_zero_or_pos t.text.length with h | h
                · exact absurd (List.eq_nil_of_length_eq_zero h) k1
                · exact h
              have hc0 := get_0 (ofL t.text) hpos
              rw [bl_ofL] at hc0
              rw [← hsz] at k3 k6
              obtain ⟨tx, htx⟩ : ∃ x, x = ofL t.text := ⟨_, rfl⟩
              have hc0 : ∀ (h : 0 < tx.size), t.text.headD 0 = tx[0] := fun h => by subst htx; exact hc0
              rw [← htx] at q2 hne hne2 hpos k3 k6
              have hc0 := hc0 hpos
              obtain ⟨c8, hc8⟩ : ∃ x, tx[0] = x := ⟨_, rfl⟩
              rw [hc8] at hc0
              rw [hc0] at k4 k5 k6
              have k4 : t.kind = 1 ↔ (48 ≤ c8.toNat ∧ c8.toNat ≤ 57) := by rw [k4]; unfold dgt; exact decide_eq_true_iff
              have k5 : (t.kind = 2 ∨ t.kind = 3) ↔ (97 ≤ c8.toNat ∧ c8.toNat ≤ 122) := by rw [k5]; unfold ltr; exact decide_eq_true_iff
              have k6 : t.kind = 1 → c8.toNat = 48 → tx.size ≤ 1 := fun h e => k6 h (UInt8.toNat_inj.1 e)
              obtain ⟨b, hb⟩ : ∃ b, b = decide (t.text ∈ kws) := ⟨_, rfl⟩
              have k2 : b = decide (t.kind = 3) := by
                rw [hb, Bool.eq_iff_iff, decide_eq_true_iff, decide_eq_true_iff]
                exact k2
              rw [← hb]
              obtain ⟨kd, hkd⟩ : ∃ x, x = t.kind := ⟨_, rfl⟩
              rw [← hkd] at q1 k2 k3 k4 k5 k6 k7 k8
              have hpI : (0 : Int) < (tx.size : Int) := by omega
              have hlpI : (Lp : Int) ≤ (t.line : Int) := by omega
              obtain ⟨L, hL⟩ : ∃ x, x = t.line := ⟨_, rfl⟩
              rw [← hL] at q3 hll HA2 hlpI
              clear hat hD hgd hsz htx hc0 k1 hb hkd hL hlp
              have hcase : kd = 1 ∨ kd = 2 ∨ kd = 3 ∨ kd = 4 := by omega
              rcases hcase with rfl | rfl | rfl | rfl
              · obtain ⟨d1, d2⟩ := k4.1 rfl
                obtain rfl : b = false := k2
                have f1 : (48 : Int) ≤ (c8.toNat : Int) := by omega
                have f2 : (c8.toNat : Int) ≤ 57 := by omega
                have f3 : ¬ (97 : Int) ≤ (c8.toNat : Int) := by omega
                by_cases h48 : c8.toNat = 48
                · have f4 : ((c8.toNat : Int) == 48) = true := by simp; omega
                  have f5 : ¬ (1 : Int) < (tx.size : Int) := by have := k6 rfl h48; omega
                  clear k2 k3 k4 k5 k6 k7 k8 d1 d2 h48
                  go_wp2_with fail
                  go_roundw
                  case rel => exact ⟨k + 1, L, by omega, by go_num, rfl, hll, HA2, HD2⟩
                  case measure => simp [intOf]; omega
                · have f4 : ((c8.toNat : Int) == 48) = false := by simp; omega
                  clear k2 k3 k4 k5 k6 k7 k8 d1 d2 h48
                  go_wp2_with fail
                  go_roundw
                  case rel => exact ⟨k + 1, L, by omega, by go_num, rfl, hll, HA2, HD2⟩
                  case measure => simp [intOf]; omega
              · obtain ⟨d1, d2⟩ := k5.1 (by omega)
                obtain rfl : b = false := k2
                have f1 : (48 : Int) ≤ (c8.toNat : Int) := by omega
                have f2 : ¬ (c8.toNat : Int) ≤ 57 := by omega
                have f3 : (97 : Int) ≤ (c8.toNat : Int) := by omega
                have f4 : (c8.toNat : Int) ≤ 122 := by omega
                have f5 : ¬ (24 : Int) < (tx.size : Int) := by have := k3 rfl; omega
                clear k2 k3 k4 k5 k6 k7 k8 d1 d2
                go_wp2_with fail
                go_roundw
                case rel => exact ⟨k + 1, L, by omega, by go_num, rfl, hll, HA2, HD2⟩
                case measure => simp [intOf]; omega
              · obtain ⟨d1, d2⟩ := k5.1 (by omega)
                obtain rfl : b = true := k2
                have f1 : (48 : Int) ≤ (c8.toNat : Int) := by omega
                have f2 : ¬ (c8.toNat : Int) ≤ 57 := by omega
                have f3 : (97 : Int) ≤ (c8.toNat : Int) := by omega
                have f4 : (c8.toNat : Int) ≤ 122 := by omega
                clear k2 k3 k4 k5 k6 k7 k8 d1 d2
                go_wp2_with fail
                go_roundw
                case rel => exact ⟨k + 1, L, by omega, by go_num, rfl, hll, HA2, HD2⟩
                case measure => simp [intOf]; omega
              · have n1 : ¬ (48 ≤ c8.toNat ∧ c8.toNat ≤ 57) := fun h => absurd (k4.2 h) (by omega)
                have n2 : ¬ (97 ≤ c8.toNat ∧ c8.toNat ≤ 122) := fun h => absurd (k5.2 h) (by omega)
                obtain rfl : b = false := k2
                clear k2 k3 k4 k5 k6 k7 k8
                by_cases m1 : c8.toNat < 48
                · have f1 : ¬ (48 : Int) ≤ (c8.toNat : Int) := by omega
                  have f3 : ¬ (97 : Int) ≤ (c8.toNat : Int) := by omega
                  clear n1 n2 m1
                  go_wp2_with fail
                  go_roundw
                  case rel => exact ⟨k + 1, L, by omega, by go_num, rfl, hll, HA2, HD2⟩
                  case measure => simp [intOf]; omega
                · by_cases m2 : c8.toNat < 97
                  · have f1 : (48 : Int) ≤ (c8.toNat : Int) := by omega
                    have f2 : ¬ (c8.toNat : Int) ≤ 57 := by omega
                    have f3 : ¬ (97 : Int) ≤ (c8.toNat : Int) := by omega
                    clear n1 n2 m1 m2
                    go_wp2_with fail
                    go_roundw
                    case rel => exact ⟨k + 1, L, by omega, by go_num, rfl, hll, HA2, HD2⟩
                    case measure => simp [intOf]; omega
                  · have f1 : (48 : Int) ≤ (c8.toNat : Int) := by omega
                    have f2 : ¬ (c8.toNat : Int) ≤ 57 := by omega
                    have f3 : (97 : Int) ≤ (c8.toNat : Int) := by omega
                    have f4 : ¬ (c8.toNat : Int) ≤ 122 := by omega
                    clear n1 n2 m1 m2
                    go_wp2_with fail
                    go_roundw
                    case rel => exact ⟨k + 1, L, by omega, by go_num, rfl, hll, HA2, HD2⟩
                    case measure => simp [intOf]; omega
        · have HB3 := Lib.hid (HB2.out.trans ((HD.out.below w2.heap.size).mono HB2.out.size))
          go_wp2_with fail
          refine (awake_f wr (HT.out.bel HB3.out)).mono ?_
          rintro e w4 ⟨rfl, hb4⟩
          have HB4 := Lib.hid (HB3.out.trans (hb4.mono HB3.out.size))
          clear hb4
          go_wp2_with fail
          go_ret
          exact ⟨rfl, HB4.out⟩

end LexerKinds
end Go.Proofs.YtnfgjbeifdfkaaaDoor
