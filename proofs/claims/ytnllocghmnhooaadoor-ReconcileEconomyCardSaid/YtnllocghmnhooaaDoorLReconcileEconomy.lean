/- The core of the law ReconcileEconomy: it returns true. -/
import Derived.Test.YtnllocghmnhooaaDoorVd
import Derived.Test.YtnllocghmnhooaaDoorVe
namespace Go.Proofs.YtnllocghmnhooaaDoor
open Go.RowKit
set_option linter.unusedVariables false
set_option linter.unusedSimpArgs false
namespace ReconcileEconomy
open Rc
set_option maxRecDepth 100000 in
set_option maxHeartbeats 4000000 in
theorem core (w : World) (ht : Bk.Tab w) (A : Option Addr) (c : Nat) (l : List Itm) (h : Its w A c l) (hla : ∀ i ∈ l, i.a < 256 ∧ i.s < 256 ∧ i.w < 256) :
    Calls Tryd.prog 6 #[.slice A l.length c] w fun e w' => e = .returned (.bool true) ∧ Below w.heap.size w w' := by
  have HAW := Lib.hid (fun W (k : Below w.heap.size w W) => awake_f W (ht.bel k))
  by_cases hl : l.length ≤ 60
  · have HLI := Lib.hid (lists_f l hla w A c h hl)
    obtain ⟨s1, s2, l1, l2⟩ := lf hl
    have hU := us_val l
    have hUl := us_small hl
    have hcn := count_ok s1 s2 l1 l2 hUl 200
    have hfu := fuel_ok s1 s2 l1 l2 (sm Hd (lsts l).1 [] [])
    obtain ⟨U, hUe⟩ : ∃ U, U = Us l := ⟨_, rfl⟩
    obtain ⟨a, hae⟩ : ∃ a, a = (lsts l).1 := ⟨_, rfl⟩
    obtain ⟨b, hbe⟩ : ∃ b, b = (lsts l).2 := ⟨_, rfl⟩
    rw [← hUe] at s1 s2 hU hUl
    rw [← hae] at HLI s1 l1 hcn hfu
    rw [← hbe] at HLI s2 l2 hcn hfu
    clear hUe hae hbe
    have hva : ∀ z ∈ a, Val z := fun z hz => hU z (s1.mem z hz)
    have hvb : ∀ z ∈ b, Val z := fun z hz => hU z (s2.mem z hz)
    have HSY := Lib.hid (fun W (k : Below w.heap.size w W) A B ca cb (ha : Rcs W A ca a) (hb : Rcs W B cb b) => sync_f hU (by omega) a b s1 s2 W (ht.bel k) A B ca cb ha hb hcn)
    have HDI := Lib.hid (fun W (k : Below w.heap.size w W) A B ca cb (ha : Rcs W A ca a) (hb : Rcs W B cb b) => diff_f a b hva hvb W (ht.bel k) A B ca cb ha hb (by omega) (by omega))
    have HDJ := Lib.hid (fun W (k : Below w.heap.size w W) A B ca cb (ha : Rcs W A ca a) (hb : Rcs W B cb b) => diff_f b a hvb hva W (ht.bel k) B A cb ca hb ha (by omega) (by omega))
    have HEC := Lib.hid (fun n (h1 : a.length ≤ 2 ^ n) (h2 : b.length ≤ 2 ^ n) => economy s1.srt s2.srt hva hvb 200 n h1 h2)
    have hd1 : (dif a b).length ≤ 60 := Nat.le_trans (List.length_filter_le _ _) l1
    have hd2 : (dif b a).length ≤ 60 := Nat.le_trans (List.length_filter_le _ _) l2
    have hd3 : (conf a b).length ≤ 120 := Nat.le_trans (conf_len b a) (by omega)
    obtain ⟨D, hD⟩ : ∃ D, D = dlg Hd 200 b a (sm Hd a [] []) := ⟨_, rfl⟩
    rw [← hD] at HSY HEC hcn
    obtain ⟨t1, ht1⟩ : ∃ t, t = (dif a b).length := ⟨_, rfl⟩
    obtain ⟨t2, ht2⟩ : ∃ t, t = (dif b a).length := ⟨_, rfl⟩
    obtain ⟨t3, ht3⟩ : ∃ t, t = (conf a b).length := ⟨_, rfl⟩
    obtain ⟨na, hna⟩ : ∃ t, t = a.length := ⟨_, rfl⟩
    obtain ⟨nb, hnb⟩ : ∃ t, t = b.length := ⟨_, rfl⟩
    have HT1 := Lib.hid ht1
    have HT2 := Lib.hid ht2
    have HT3 := Lib.hid ht3
    have HNA := Lib.hid hna
    have HNB := Lib.hid hnb
    rw [← ht1] at HEC hd1
    rw [← ht2] at HEC hd2
    rw [← ht3] at HEC hd3
    rw [← hna] at HEC l1 HSY HDI HDJ
    rw [← hnb] at HEC l2 HSY HDI HDJ
    obtain ⟨t, htt⟩ : ∃ t, t = t1 + t2 + t3 / 2 := ⟨_, rfl⟩
    rw [← htt] at HEC
    have htl : t ≤ 180 := by omega
    have HTT := Lib.hid htt
    have w1 : IntKind.i64.wrap ((t1 : Int) + (t2 : Int)) = (t1 : Int) + (t2 : Int) := IntWalk.i64_in _ (by omega)
    obtain ⟨h2, hh2⟩ : ∃ h, h = t3 / 2 := ⟨_, rfl⟩
    have w2 : (t3 : Int).tdiv 2 = (h2 : Int) := by rw [Int.tdiv_eq_ediv_of_nonneg (by omega)]; omega
    have w2' : (t3 : Int) / 2 = (h2 : Int) := by omega
    have w3 : IntKind.i64.wrap (h2 : Int) = (h2 : Int) := IntWalk.i64_in _ (by omega)
    have w4 : IntKind.i64.wrap ((t1 : Int) + (t2 : Int) + (h2 : Int)) = (t : Int) := by rw [IntWalk.i64_in _ (by omega)]; omega
    clear hh2
    have HC := Lib.hid hcn
    clear hD hcn hfu hva hvb s1 s2 hU hUl ht h hla hl htt ht1 ht2 ht3 hna hnb
    go_enter Tryd.func6, Tryd.ntmps6
    go_wp2_with fail
    refine HLI.out.mono ?_
    rintro e w1 ⟨_, _, rfl, ⟨A1, c1, rfl, ha⟩, ⟨A2, c2, rfl, hb⟩, hb1⟩
    rw [← HNA.out, ← HNB.out]
    have HA1 := Lib.hid ha
    have HB1' := Lib.hid hb
    have HB1 := Lib.hid hb1
    clear hb1 ha hb
    go_wp2_with fail
    refine (HSY.out _ HB1.out _ _ _ _ HA1.out HB1'.out).mono ?_
    rintro e w2 ⟨_, _, _, rfl, ⟨X1, x1, rfl, _⟩, ⟨Y1, y1, rfl, _⟩, ⟨C1, z1, rfl, _⟩, hb2⟩
    have HB2 := Lib.hid (HB1.out.trans (hb2.mono HB1.out.size))
    have HA2 := Lib.hid (HA1.out.below hb2)
    have HB2' := Lib.hid (HB1'.out.below hb2)
    clear hb2
    rw [← HT3.out]
    go_wp2_with fail
    refine (HDI.out _ HB2.out _ _ _ _ HA2.out HB2'.out).mono ?_
    rintro e w3 ⟨v3, rfl, ho3, hb3⟩
    have HB3 := Lib.hid (HB2.out.trans (hb3.mono HB2.out.size))
    have HA3 := Lib.hid (HA2.out.below hb3)
    have HB3' := Lib.hid (HB2'.out.below hb3)
    clear hb3
    obtain ⟨D1, d1, rfl, _⟩ := ho3.rcs
    clear ho3
    rw [← HT1.out]
    go_wp2_with fail
    refine (HDJ.out _ HB3.out _ _ _ _ HA3.out HB3'.out).mono ?_
    rintro e w4 ⟨v4, rfl, ho4, hb4⟩
    have HB4 := Lib.hid (HB3.out.trans (hb4.mono HB3.out.size))
    clear hb4
    obtain ⟨D2, d2, rfl, _⟩ := ho4.rcs
    clear ho4
    rw [← HT2.out]
    go_wp2_with fail
    go_loopw [11] (fun x W => ∃ k : Nat, k ≤ 6 ∧ x = .int .i64 (k : Int) ∧ W = w4) (fun x _ => 6 - (intOf x).toNat)
    case atStart => exact ⟨0, by omega, rfl, rfl⟩
    case round =>
      obtain ⟨k, hk, rfl, rfl⟩ := hrel
      obtain ⟨M, hM⟩ : ∃ M, M = max na nb := ⟨_, rfl⟩
      have hM1 : na ≤ M := by rw [hM]; exact Nat.le_max_left _ _
      have hM2 : nb ≤ M := by rw [hM]; exact Nat.le_max_right _ _
      have hM6 : M ≤ 60 := by rw [hM]; exact Nat.max_le.2 ⟨l1, l2⟩
      have hMI : max (na : Int) (nb : Int) = (M : Int) := by omega
      clear hM
      have hkk : k = 0 ∨ k = 1 ∨ k = 2 ∨ k = 3 ∨ k = 4 ∨ k = 5 ∨ k = 6 := by omega
      rcases hkk with rfl | rfl | rfl | rfl | rfl | rfl | rfl
      · by_cases hc : 1 ≤ M
        · have hcI : (1 : Int) ≤ (M : Int) := by omega
          go_wp2_with fail
          go_roundw
          case rel => exact ⟨1, by omega, by simp⟩
          case measure => simp [intOf]
        · have hcI : ¬ (1 : Int) ≤ (M : Int) := by omega
          obtain ⟨hE1, hE2⟩ := HEC.out 0 (by omega) (by omega)
          have hE1I : (1 : Int) ≤ (D.2.2 : Int) := by omega
          have hE2I : (D.2.2 : Int) ≤ 1 + 2 * (t : Int) * 4 := by omega
          have u1 : IntKind.i64.wrap (2 * (t : Int)) = 2 * (t : Int) := IntWalk.i64_in _ (by omega)
          have u2 : IntKind.i64.wrap (2 * (t : Int) * 4) = 2 * (t : Int) * 4 := IntWalk.i64_in _ (by omega)
          have u3 : IntKind.i64.wrap (1 + 2 * (t : Int) * 4) = 1 + 2 * (t : Int) * 4 := IntWalk.i64_in _ (by omega)
          go_wp2_with fail
          refine (HAW.out _ HB4.out).mono ?_
          rintro e w5 ⟨rfl, hb5⟩
          have HB5 := Lib.hid (HB4.out.trans (hb5.mono HB4.out.size))
          clear hb5
          go_wp2_with fail
          go_ret
          exact ⟨rfl, HB5.out⟩
      · by_cases hc : 2 ≤ M
        · have hcI : (2 : Int) ≤ (M : Int) := by omega
          go_wp2_with fail
          go_roundw
          case rel => exact ⟨2, by omega, by simp⟩
          case measure => simp [intOf]
        · have hcI : ¬ (2 : Int) ≤ (M : Int) := by omega
          obtain ⟨hE1, hE2⟩ := HEC.out 1 (by omega) (by omega)
          have hE1I : (1 : Int) ≤ (D.2.2 : Int) := by omega
          have hE2I : (D.2.2 : Int) ≤ 1 + 2 * (t : Int) * 6 := by omega
          have u1 : IntKind.i64.wrap (2 * (t : Int)) = 2 * (t : Int) := IntWalk.i64_in _ (by omega)
          have u2 : IntKind.i64.wrap (2 * (t : Int) * 6) = 2 * (t : Int) * 6 := IntWalk.i64_in _ (by omega)
          have u3 : IntKind.i64.wrap (1 + 2 * (t : Int) * 6) = 1 + 2 * (t : Int) * 6 := IntWalk.i64_in _ (by omega)
          go_wp2_with fail
          refine (HAW.out _ HB4.out).mono ?_
          rintro e w5 ⟨rfl, hb5⟩
          have HB5 := Lib.hid (HB4.out.trans (hb5.mono HB4.out.size))
          clear hb5
          go_wp2_with fail
          go_ret
          exact ⟨rfl, HB5.out⟩
      · by_cases hc : 4 ≤ M
        · have hcI : (4 : Int) ≤ (M : Int) := by omega
          go_wp2_with fail
          go_roundw
          case rel => exact ⟨3, by omega, by simp⟩
          case measure => simp [intOf]
        · have hcI : ¬ (4 : Int) ≤ (M : Int) := by omega
          obtain ⟨hE1, hE2⟩ := HEC.out 2 (by omega) (by omega)
          have hE1I : (1 : Int) ≤ (D.2.2 : Int) := by omega
          have hE2I : (D.2.2 : Int) ≤ 1 + 2 * (t : Int) * 8 := by omega
          have u1 : IntKind.i64.wrap (2 * (t : Int)) = 2 * (t : Int) := IntWalk.i64_in _ (by omega)
          have u2 : IntKind.i64.wrap (2 * (t : Int) * 8) = 2 * (t : Int) * 8 := IntWalk.i64_in _ (by omega)
          have u3 : IntKind.i64.wrap (1 + 2 * (t : Int) * 8) = 1 + 2 * (t : Int) * 8 := IntWalk.i64_in _ (by omega)
          go_wp2_with fail
          refine (HAW.out _ HB4.out).mono ?_
          rintro e w5 ⟨rfl, hb5⟩
          have HB5 := Lib.hid (HB4.out.trans (hb5.mono HB4.out.size))
          clear hb5
          go_wp2_with fail
          go_ret
          exact ⟨rfl, HB5.out⟩
      · by_cases hc : 8 ≤ M
        · have hcI : (8 : Int) ≤ (M : Int) := by omega
          go_wp2_with fail
          go_roundw
          case rel => exact ⟨4, by omega, by simp⟩
          case measure => simp [intOf]
        · have hcI : ¬ (8 : Int) ≤ (M : Int) := by omega
          obtain ⟨hE1, hE2⟩ := HEC.out 3 (by omega) (by omega)
          have hE1I : (1 : Int) ≤ (D.2.2 : Int) := by omega
          have hE2I : (D.2.2 : Int) ≤ 1 + 2 * (t : Int) * 10 := by omega
          have u1 : IntKind.i64.wrap (2 * (t : Int)) = 2 * (t : Int) := IntWalk.i64_in _ (by omega)
          have u2 : IntKind.i64.wrap (2 * (t : Int) * 10) = 2 * (t : Int) * 10 := IntWalk.i64_in _ (by omega)
          have u3 : IntKind.i64.wrap (1 + 2 * (t : Int) * 10) = 1 + 2 * (t : Int) * 10 := IntWalk.i64_in _ (by omega)
          go_wp2_with fail
          refine (HAW.out _ HB4.out).mono ?_
          rintro e w5 ⟨rfl, hb5⟩
          have HB5 := Lib.hid (HB4.out.trans (hb5.mono HB4.out.size))
          clear hb5
          go_wp2_with fail
          go_ret
          exact ⟨rfl, HB5.out⟩
      · by_cases hc : 16 ≤ M
        · have hcI : (16 : Int) ≤ (M : Int) := by omega
          go_wp2_with fail
          go_roundw
          case rel => exact ⟨5, by omega, by simp⟩
          case measure => simp [intOf]
        · have hcI : ¬ (16 : Int) ≤ (M : Int) := by omega
          obtain ⟨hE1, hE2⟩ := HEC.out 4 (by omega) (by omega)
          have hE1I : (1 : Int) ≤ (D.2.2 : Int) := by omega
          have hE2I : (D.2.2 : Int) ≤ 1 + 2 * (t : Int) * 12 := by omega
          have u1 : IntKind.i64.wrap (2 * (t : Int)) = 2 * (t : Int) := IntWalk.i64_in _ (by omega)
          have u2 : IntKind.i64.wrap (2 * (t : Int) * 12) = 2 * (t : Int) * 12 := IntWalk.i64_in _ (by omega)
          have u3 : IntKind.i64.wrap (1 + 2 * (t : Int) * 12) = 1 + 2 * (t : Int) * 12 := IntWalk.i64_in _ (by omega)
          go_wp2_with fail
          refine (HAW.out _ HB4.out).mono ?_
          rintro e w5 ⟨rfl, hb5⟩
          have HB5 := Lib.hid (HB4.out.trans (hb5.mono HB4.out.size))
          clear hb5
          go_wp2_with fail
          go_ret
          exact ⟨rfl, HB5.out⟩
      · by_cases hc : 32 ≤ M
        · have hcI : (32 : Int) ≤ (M : Int) := by omega
          go_wp2_with fail
          go_roundw
          case rel => exact ⟨6, by omega, by simp⟩
          case measure => simp [intOf]
        · have hcI : ¬ (32 : Int) ≤ (M : Int) := by omega
          obtain ⟨hE1, hE2⟩ := HEC.out 5 (by omega) (by omega)
          have hE1I : (1 : Int) ≤ (D.2.2 : Int) := by omega
          have hE2I : (D.2.2 : Int) ≤ 1 + 2 * (t : Int) * 14 := by omega
          have u1 : IntKind.i64.wrap (2 * (t : Int)) = 2 * (t : Int) := IntWalk.i64_in _ (by omega)
          have u2 : IntKind.i64.wrap (2 * (t : Int) * 14) = 2 * (t : Int) * 14 := IntWalk.i64_in _ (by omega)
          have u3 : IntKind.i64.wrap (1 + 2 * (t : Int) * 14) = 1 + 2 * (t : Int) * 14 := IntWalk.i64_in _ (by omega)
          go_wp2_with fail
          refine (HAW.out _ HB4.out).mono ?_
          rintro e w5 ⟨rfl, hb5⟩
          have HB5 := Lib.hid (HB4.out.trans (hb5.mono HB4.out.size))
          clear hb5
          go_wp2_with fail
          go_ret
          exact ⟨rfl, HB5.out⟩
      · by_cases hc : 64 ≤ M
        · exact absurd hc (by omega)
        · have hcI : ¬ (64 : Int) ≤ (M : Int) := by omega
          obtain ⟨hE1, hE2⟩ := HEC.out 6 (by omega) (by omega)
          have hE1I : (1 : Int) ≤ (D.2.2 : Int) := by omega
          have hE2I : (D.2.2 : Int) ≤ 1 + 2 * (t : Int) * 16 := by omega
          have u1 : IntKind.i64.wrap (2 * (t : Int)) = 2 * (t : Int) := IntWalk.i64_in _ (by omega)
          have u2 : IntKind.i64.wrap (2 * (t : Int) * 16) = 2 * (t : Int) * 16 := IntWalk.i64_in _ (by omega)
          have u3 : IntKind.i64.wrap (1 + 2 * (t : Int) * 16) = 1 + 2 * (t : Int) * 16 := IntWalk.i64_in _ (by omega)
          go_wp2_with fail
          refine (HAW.out _ HB4.out).mono ?_
          rintro e w5 ⟨rfl, hb5⟩
          have HB5 := Lib.hid (HB4.out.trans (hb5.mono HB4.out.size))
          clear hb5
          go_wp2_with fail
          go_ret
          exact ⟨rfl, HB5.out⟩
  · have HLI := Lib.hid (lists_no l w A c hl)
    clear ht h hla hl
    go_enter Tryd.func6, Tryd.ntmps6
    go_wp2_with fail
    refine HLI.out.mono ?_
    rintro e w1 ⟨rfl, hb1⟩
    have HB1 := Lib.hid hb1
    clear hb1
    go_wp2_with fail
    refine (HAW.out _ HB1.out).mono ?_
    rintro e w2 ⟨rfl, hb2⟩
    have HB2 := Lib.hid (HB1.out.trans (hb2.mono HB1.out.size))
    clear hb2
    go_wp2_with fail
    go_ret
    exact ⟨rfl, HB2.out⟩
end ReconcileEconomy
end Go.Proofs.YtnllocghmnhooaaDoor
