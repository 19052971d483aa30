/- Walks of the erasure code's reference: product, quotient, weight, block, Encode; the comparison of two lists of strings. -/
import Derived.Test.YtogcgeiocndlbaaEf
namespace Go.Proofs.Ytogcgeiocndlbaa
open Go.RowKit
set_option linter.unusedVariables false

theorem tst_bit8 {b i : Nat} {t : Bool} (hb : b < 256) (h : (bits .and .u8 ((b : Int) / 2 ^ i) 1 == 1) = t) : (b / 2 ^ i % 2 = 1) ↔ t = true := by
  have e : ((b : Int) / 2 ^ i) = ((b / 2 ^ i : Nat) : Int) := by rw [Int.natCast_ediv, Int.natCast_pow]; rfl
  have hl : b / 2 ^ i ≤ b := Nat.div_le_self _ _
  rw [e, show (1 : Int) = ((1 : Nat) : Int) from rfl, u8_and_nat _ _ (by omega) (by omega), nat_mask1] at h
  rw [← h]; simp; omega
theorem tst_8_64 {b i : Nat} (hb : b < 256) {t : Bool} (h : (bits .and .u8 ((b : Int) / 2 ^ i) 1 == 1) = t) : (bits .and .i64 ((b : Int) / 2 ^ i) 1 == 1) = t := by
  cases h2 : (bits .and .i64 ((b : Int) / 2 ^ i) 1 == 1) with
  | true => exact ((tst_bit8 hb h).1 ((tst_bit (by omega) h2).2 rfl)).symm
  | false => cases t with
    | false => rfl
    | true => have := (tst_bit (by omega) h2).1 ((tst_bit8 hb h).2 rfl); exact this
theorem rsum_yes8 {a b i : Nat} (ha : a < 256) (hb : b < 256) (hi : i < 8) (h : (bits .and .u8 ((b : Int) / 2 ^ i) 1 == 1) = true) :
    bits .xor .i64 (Gf.rSum a b i : Int) (wrap64 ((a : Int) * 2 ^ i)) = (Gf.rSum a b (i + 1) : Int) := rsum_yes ha hb hi (tst_8_64 hb h)
theorem rsum_no8 {a b i : Nat} (hb : b < 256) (h : (bits .and .u8 ((b : Int) / 2 ^ i) 1 == 1) = false) : (Gf.rSum a b i : Int) = (Gf.rSum a b (i + 1) : Int) := rsum_no hb (tst_8_64 hb h)

set_option maxRecDepth 100000 in
set_option maxHeartbeats 400000 in
theorem rtimes_n (a b : Nat) (ha : a < 256) (hb : b < 256) (w : World) :
    Calls Try.prog 57 #[.int .u8 a, .int .u8 b] w fun e w' => e = .returned (.int .u8 (Gf.gmul a b : Int)) ∧ w' = w := by
  have HM := Lib.hid (Gf.rmul_eq (b := b) ha)
  have HG := Lib.hid (Gf.gmul_lt b ha)
  go_enter Try.func57, Try.ntmps57
  go_wp2
  go_loop [6, 7] (fun p k => ∃ i : Nat, i ≤ 8 ∧ p = .int .i64 (Gf.rSum a b i : Int) ∧ k = .int .i64 (i : Int)) (fun _ k => 8 - (intOf k).toNat)
  case atStart => exact ⟨0, by omega, rfl, rfl⟩
  case round =>
    obtain ⟨i, hi, rfl, rfl⟩ := hrel
    by_cases h8 : i < 8
    · go_wp2
      · go_round
        case rel => exact ⟨i + 1, by omega, by rw [rsum_yes8 ha hb h8 (by assumption)], by go_num⟩
        case measure => simp [intOf]; omega
      · go_round
        case rel => exact ⟨i + 1, by omega, by rw [← rsum_no8 hb (by assumption)], by go_num⟩
        case measure => simp [intOf]; omega
    · obtain rfl : i = 8 := by omega
      clear h8 hi
      go_wp2
      go_loop [6, 8] (fun p k => ∃ (i q : Nat), i ≤ 7 ∧ q < 32768 ∧ Gf.rRed q i = Gf.rRed (Gf.rSum a b 8) 7 ∧ p = .int .i64 (q : Int) ∧ k = .int .i64 ((i : Int) + 7)) (fun _ k => (intOf k).toNat)
      case atStart => exact ⟨7, _, by omega, Nat.lt_of_lt_of_le (Gf.rSum_lt b ha 8) (by omega), rfl, rfl, rfl⟩
      case round =>
        obtain ⟨i, q, hi, hq, hr, rfl, rfl⟩ := hrel
        have HR := Lib.hid hr
        clear hr
        by_cases h0 : 0 < i
        · obtain ⟨k, rfl⟩ : ∃ k, i = k + 1 := ⟨i - 1, by omega⟩
          have hk : k < 7 := by omega
          have hcast : ((k + 1 : Nat) : Int) + 7 = ((k + 8 : Nat) : Int) := by omega
          rw [hcast]
          clear hcast h0 hi
          go_wp2
          · go_round
            case rel => exact ⟨k, Gf.rTop q (k + 8), by omega, Gf.rTop_lt hq (by omega), HR.out, by rw [rtop_yes hq hk (by assumption)], by congr 1; omega⟩
            case measure => simp [intOf]; omega
          · go_round
            case rel => exact ⟨k, Gf.rTop q (k + 8), by omega, Gf.rTop_lt hq (by omega), HR.out, by rw [← rtop_no hq (by assumption)], by congr 1; omega⟩
            case measure => simp [intOf]; omega
        · obtain rfl : i = 0 := by omega
          go_wp2
          go_ret
          have hq2 : q = Gf.gmul a b := HR.out.trans HM.out
          have hl := HG.out
          exact ⟨ret_u8 (by rw [hq2]; omega), rfl⟩


theorem rtimes_b (x y : UInt8) (w : World) : Calls Try.prog 57 #[.int .u8 (x.toNat : Int), .int .u8 (y.toNat : Int)] w fun e w' => e = .returned (.int .u8 ((Gf.gm x y).toNat : Int)) ∧ w' = w :=
  (rtimes_n _ _ x.toNat_lt y.toNat_lt w).mono fun _ _ ⟨h1, h2⟩ => ⟨by rw [h1, Gf.gm_toNat], h2⟩

/-- a quotient, found by search -/
theorem over_hit {a b : UInt8} {k : Nat} (hk : k < 256) (hb : b ≠ 0) (h : Gf.gm (UInt8.ofNat k) b = a) : UInt8.ofNat k = Gf.gm a (Gf.inv b) := by
  rw [← h, Gf.gm_assoc, Gf.gm_inv hb, Gf.gm_one]

set_option maxRecDepth 100000 in
set_option maxHeartbeats 1000000 in
theorem over_b (a b : UInt8) (w : World) : Calls Try.prog 64 #[.int .u8 (a.toNat : Int), .int .u8 (b.toNat : Int)] w fun e w' => e = .returned (.int .u8 ((Gf.gm a (Gf.inv b)).toNat : Int)) ∧ w' = w := by
  go_enter Try.func64, Try.ntmps64
  go_wp2
  go_loop [5] (fun i => ∃ k : Nat, k ≤ 256 ∧ i = .int .i64 (k : Int) ∧ Hid (∀ j, j < k → Gf.gm (UInt8.ofNat j) b ≠ a)) (fun i => 256 - (intOf i).toNat)
  case atStart => exact ⟨0, by omega, rfl, Lib.hid fun j hj => absurd hj (by omega)⟩
  case round =>
    obtain ⟨k, hk, rfl, HF⟩ := hrel
    by_cases hlt : k < 256
    · have HC := Lib.hid (show Calls Try.prog 57 #[.int .u8 (k : Int), .int .u8 (b.toNat : Int)] w fun e w' => e = .returned (.int .u8 ((Gf.gm (UInt8.ofNat k) b).toNat : Int)) ∧ w' = w by
        have := rtimes_b (UInt8.ofNat k) b w
        rwa [UInt8.toNat_ofNat', Nat.mod_eq_of_lt hlt] at this)
      obtain ⟨y, hy⟩ : ∃ y, y = Gf.gm (UInt8.ofNat k) b := ⟨_, rfl⟩
      rw [← hy] at HC
      have HY := Lib.hid hy
      clear hy
      cases hq : ((y.toNat : Int) == (a.toNat : Int)) with
      | true =>
        have HQ := Lib.hid (show y = a from UInt8.toNat_inj.1 (by have := eq_of_beq hq; omega))
        go_wp2_with (go_at_call 57; refine HC.out.mono ?_; rintro e w1 ⟨rfl, rfl⟩)
        go_ret
        refine ⟨?_, rfl⟩
        by_cases hb : b = 0
        · have ha : a = 0 := by rw [← HQ.out, HY.out, hb, Gf.gm_zero]
          have hk0 : k = 0 := by
            by_cases h0 : k = 0
            · exact h0
            · exact absurd (by rw [hb, Gf.gm_zero, ha]) (HF.out 0 (by omega))
          rw [hb, ha, Gf.inv_zero, Gf.gm_zero, hk0]
          rfl
        · have h9 := over_hit hlt hb (HY.out.symm.trans HQ.out)
          exact ret_u8 (by rw [← h9, UInt8.toNat_ofNat', Nat.mod_eq_of_lt hlt])
      | false =>
        have HQ := Lib.hid (show y ≠ a from fun e => by rw [e] at hq; simp at hq)
        go_wp2_with (go_at_call 57; refine HC.out.mono ?_; rintro e w1 ⟨rfl, rfl⟩)
        go_round
        case rel => exact ⟨k + 1, by omega, by go_num, Lib.hid fun j hj => by
          by_cases e : j = k
          · subst e; rw [← HY.out]; exact HQ.out
          · exact HF.out j (by omega)⟩
        case measure => simp [intOf]; omega
    · have hk9 : k = 256 := by omega
      have HK := Lib.hid hk9
      clear hk9
      go_wp2
      go_ret
      refine ⟨?_, rfl⟩
      by_cases hb : b = 0
      · rw [hb, Gf.inv_zero, Gf.gm_zero]; rfl
      · exfalso
        refine HF.out (Gf.gm a (Gf.inv b)).toNat (by rw [HK.out]; exact UInt8.toNat_lt _) ?_
        rw [UInt8.ofNat_toNat, Gf.gm_assoc, Gf.gm_comm (Gf.inv b), Gf.gm_inv hb, Gf.gm_one]

end Go.Proofs.Ytogcgeiocndlbaa
