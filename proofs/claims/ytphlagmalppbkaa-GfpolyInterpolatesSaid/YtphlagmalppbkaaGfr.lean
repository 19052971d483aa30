/- Walks of the reference's field: product, inverse, quotient. -/
import Derived.Test.YtphlagmalppbkaaGfw
namespace Go.Proofs.Ytphlagmalppbkaa
open Go.RowKit

theorem ofInt_i64 (a : Nat) (ha : a < 9223372036854775808) : (BitVec.ofInt 64 (a : Int)).toNat = a := by
  rw [BitVec.ofInt_natCast, BitVec.toNat_ofNat]; exact Nat.mod_eq_of_lt (by omega)
theorem i64_and_nat (a b : Nat) (ha : a < 9223372036854775808) (hb : b < 9223372036854775808) : bits .and .i64 (a : Int) (b : Int) = ((a &&& b : Nat) : Int) := by
  have hx : a &&& b < 2 ^ 63 := Nat.and_lt_two_pow _ (by omega)
  show IntKind.i64.wrap ((BitVec.ofInt 64 (a : Int) &&& BitVec.ofInt 64 (b : Int)).toNat : Int) = _
  rw [BitVec.toNat_and, ofInt_i64 a ha, ofInt_i64 b hb, IntKind.wrap_i64]
  omega
theorem i64_xor_nat (a b : Nat) (ha : a < 9223372036854775808) (hb : b < 9223372036854775808) : bits .xor .i64 (a : Int) (b : Int) = ((a ^^^ b : Nat) : Int) := by
  have hx : a ^^^ b < 2 ^ 63 := Nat.xor_lt_two_pow (by omega) (by omega)
  show IntKind.i64.wrap ((BitVec.ofInt 64 (a : Int) ^^^ BitVec.ofInt 64 (b : Int)).toNat : Int) = _
  rw [BitVec.toNat_xor, ofInt_i64 a ha, ofInt_i64 b hb, IntKind.wrap_i64]
  omega
theorem ret_i64 {a b : Int} (h : a = b) : Ending.returned (.int .i64 a) = .returned (.int .i64 b) := by rw [h]

/-- what the test of a bit says -/
theorem tst_bit {b i : Nat} {t : Bool} (hb : b < 65536) (h : (bits .and .i64 ((b : Int) / 2 ^ i) 1 == 1) = t) : (b / 2 ^ i % 2 = 1) ↔ t = true := by
  have e : ((b : Int) / 2 ^ i) = ((b / 2 ^ i : Nat) : Int) := by rw [Int.natCast_ediv, Int.natCast_pow]; rfl
  have hl : b / 2 ^ i ≤ b := Nat.div_le_self _ _
  rw [e, show (1 : Int) = ((1 : Nat) : Int) from rfl, i64_and_nat _ _ (by omega) (by omega), nat_mask1] at h
  rw [← h]; simp; omega
theorem rsum_yes {a b i : Nat} (ha : a < 256) (hb : b < 256) (hi : i < 8) (h : (bits .and .i64 ((b : Int) / 2 ^ i) 1 == 1) = true) :
    bits .xor .i64 (Gf.rSum a b i : Int) (wrap64 ((a : Int) * 2 ^ i)) = (Gf.rSum a b (i + 1) : Int) := by
  have h1 := (tst_bit (by omega) h).2 rfl
  have hp : 2 ^ i ≤ 2 ^ 7 := Nat.pow_le_pow_right (by omega) (by omega)
  have hs : Gf.rSum a b i < 2 ^ 15 := Nat.lt_of_lt_of_le (Gf.rSum_lt b ha i) (Nat.pow_le_pow_right (by omega) (by omega))
  have hm : a * 2 ^ i ≤ 255 * 2 ^ 7 := Nat.mul_le_mul (by omega) hp
  have e : ((a : Int) * 2 ^ i) = ((a * 2 ^ i : Nat) : Int) := by rw [Int.natCast_mul, Int.natCast_pow]; rfl
  rw [e, IntWalk.wrap64_in _ (by omega), i64_xor_nat _ _ (by omega) (by omega)]
  conv => rhs; unfold Gf.rSum
  rw [Gf.sel_if, if_pos h1]
  show _ = (((Gf.rSum a b i) ^^^ (a <<< i) : Nat) : Int)
  rw [Nat.shiftLeft_eq]
theorem rsum_no {a b i : Nat} (hb : b < 256) (h : (bits .and .i64 ((b : Int) / 2 ^ i) 1 == 1) = false) : (Gf.rSum a b i : Int) = (Gf.rSum a b (i + 1) : Int) := by
  have h1 : ¬ (b / 2 ^ i % 2 = 1) := fun h2 => by have := (tst_bit (by omega) h).1 h2; simp at this
  conv => rhs; unfold Gf.rSum
  rw [Gf.sel_if, if_neg h1]
  show _ = (((Gf.rSum a b i) ^^^ 0 : Nat) : Int)
  rw [Nat.xor_zero]
theorem rtop_yes {p k : Nat} (hp : p < 32768) (hk : k < 7) (h : (bits .and .i64 ((p : Int) / 2 ^ (k + 8)) 1 == 1) = true) :
    bits .xor .i64 (p : Int) (wrap64 (285 * 2 ^ k)) = (Gf.rTop p (k + 8) : Int) := by
  have h1 := (tst_bit (by omega) h).2 rfl
  have hq : 2 ^ k ≤ 2 ^ 6 := Nat.pow_le_pow_right (by omega) (by omega)
  have e : ((285 : Int) * 2 ^ k) = ((285 * 2 ^ k : Nat) : Int) := by rw [Int.natCast_mul, Int.natCast_pow]; rfl
  rw [e, IntWalk.wrap64_in _ (by omega), i64_xor_nat _ _ (by omega) (by omega)]
  unfold Gf.rTop
  rw [Gf.sel_if, if_pos h1]
  show _ = ((p ^^^ (285 <<< (k + 8 - 8)) : Nat) : Int)
  rw [Nat.shiftLeft_eq, Nat.add_sub_cancel]
theorem rtop_no {p k : Nat} (hp : p < 32768) (h : (bits .and .i64 ((p : Int) / 2 ^ k) 1 == 1) = false) : (p : Int) = (Gf.rTop p k : Int) := by
  have h1 : ¬ (p / 2 ^ k % 2 = 1) := fun h2 => by have := (tst_bit (by omega) h).1 h2; simp at this
  unfold Gf.rTop
  rw [Gf.sel_if, if_neg h1]
  show _ = ((p ^^^ 0 : Nat) : Int)
  rw [Nat.xor_zero]

set_option maxRecDepth 100000 in
set_option maxHeartbeats 400000 in
theorem rmul_n (a b : Nat) (ha : a < 256) (hb : b < 256) (w : World) :
    Calls Try.prog 37 #[.int .u8 a, .int .u8 b] w fun e w' => e = .returned (.int .u8 (Gf.gmul a b : Int)) ∧ w' = w := by
  have HM := Lib.hid (Gf.rmul_eq (b := b) ha)
  have HG := Lib.hid (Gf.gmul_lt b ha)
  go_enter Try.func37, Try.ntmps37
  go_wp2
  go_loop [5, 6] (fun p k => ∃ i : Nat, i ≤ 8 ∧ p = .int .i64 (Gf.rSum a b i : Int) ∧ k = .int .i64 (i : Int)) (fun _ k => 8 - (intOf k).toNat)
  case atStart => exact ⟨0, by omega, rfl, rfl⟩
  case round =>
    obtain ⟨i, hi, rfl, rfl⟩ := hrel
    by_cases h8 : i < 8
    · go_wp2
      · go_round
        case rel => exact ⟨i + 1, by omega, by rw [rsum_yes ha hb h8 (by assumption)], by go_num⟩
        case measure => simp [intOf]; omega
      · go_round
        case rel => exact ⟨i + 1, by omega, by rw [← rsum_no hb (by assumption)], by go_num⟩
        case measure => simp [intOf]; omega
    · obtain rfl : i = 8 := by omega
      clear h8 hi
      go_wp2
      go_loop [5, 7] (fun p k => ∃ (i q : Nat), i ≤ 7 ∧ q < 32768 ∧ Gf.rRed q i = Gf.rRed (Gf.rSum a b 8) 7 ∧ p = .int .i64 (q : Int) ∧ k = .int .i64 ((i : Int) + 7)) (fun _ k => (intOf k).toNat)
      case atStart => exact ⟨7, _, by omega, Nat.lt_of_lt_of_le (Gf.rSum_lt b ha 8) (by omega), rfl, rfl, rfl⟩
      case round =>
        obtain ⟨i, q, hi, hq, hr, rfl, rfl⟩ := hrel
        have HR := Lib.hid hr
        clear hr
        by_cases h0 : 0 < i
        · obtain ⟨k, rfl⟩ : ∃ k, i = k + 1 := ⟨i - 1, by omega⟩
          have hk : k < 7 := by omega
          have hcast : ((k + 1 : Nat) : Int) + 7 = ((k + 8 : Nat) : Int) := by omega
          rw [hcast]
          clear hcast h0 hi
          go_wp2
          · go_round
            case rel => exact ⟨k, Gf.rTop q (k + 8), by omega, Gf.rTop_lt hq (by omega), HR.out, by rw [rtop_yes hq hk (by assumption)], by congr 1; omega⟩
            case measure => simp [intOf]; omega
          · go_round
            case rel => exact ⟨k, Gf.rTop q (k + 8), by omega, Gf.rTop_lt hq (by omega), HR.out, by rw [← rtop_no hq (by assumption)], by congr 1; omega⟩
            case measure => simp [intOf]; omega
        · obtain rfl : i = 0 := by omega
          go_wp2
          go_ret
          have hq2 : q = Gf.gmul a b := HR.out.trans HM.out
          have hl := HG.out
          exact ⟨ret_u8 (by rw [hq2]; omega), rfl⟩

/-- the reference's inverse, found by search -/
theorem inv_unique_n {a x : Nat} (ha : a < 256) (hx : x < 256) (h : Gf.gmul a x = 1) : x = Gf.ginv a := by
  have h1 : Gf.gm (UInt8.ofNat a) (UInt8.ofNat x) = 1 := Gf.ext (by
    rw [Gf.gm_toNat, UInt8.toNat_ofNat', UInt8.toNat_ofNat', Nat.mod_eq_of_lt ha, Nat.mod_eq_of_lt hx, h]; rfl)
  have h2 := congrArg UInt8.toNat (Gf.inv_unique h1)
  rwa [Gf.inv_toNat, UInt8.toNat_ofNat', UInt8.toNat_ofNat', Nat.mod_eq_of_lt ha, Nat.mod_eq_of_lt hx] at h2
theorem ginv_pos {a : Nat} (ha : a < 256) (h : 0 < a) : 0 < Gf.ginv a ∧ Gf.gmul a (Gf.ginv a) = 1 := by
  have h1 := Nat.eq_of_beq_eq_true (Gf.allN_spec Gf.inv_chk a ha)
  have hb : Nat.beq a 0 = false := by
    cases hb : Nat.beq a 0 with
    | true => have := Nat.eq_of_beq_eq_true hb; omega
    | false => rfl
  rw [hb] at h1
  refine ⟨?_, h1⟩
  rcases Nat.eq_zero_or_pos (Gf.ginv a) with h0 | h0
  · rw [h0, Gf.gmul_zero] at h1; exact absurd h1 (by decide)
  · exact h0
theorem ginv_lt {a : Nat} (ha : a < 256) : Gf.ginv a < 256 := Nat.le_of_ble_eq_true (Gf.allN_spec Gf.ginv_lt_chk a ha)

set_option maxRecDepth 100000 in
set_option maxHeartbeats 400000 in
theorem rinv_n (a : Nat) (ha : a < 256) (w : World) :
    Calls Try.prog 32 #[.int .u8 a] w fun e w' => e = .returned (.tuple #[.int .u8 (Gf.ginv a : Int), .bool (!Nat.beq a 0)]) ∧ w' = w := by
  have hI := ginv_lt ha
  have HU := Lib.hid (fun x (hx : x < 256) => inv_unique_n ha hx)
  rcases Nat.eq_zero_or_pos a with h0 | h0
  · have HZ := Lib.hid h0
    have HC := Lib.hid (show Ending.returned (.tuple #[.int .u8 (0 : Int), .bool false]) = .returned (.tuple #[.int .u8 (Gf.ginv a : Int), .bool (!Nat.beq a 0)]) by rw [h0]; rfl)
    clear HU hI h0
    go_enter Try.func32, Try.ntmps32
    go_wp2
    go_loop [4] (fun x => ∃ i : Nat, 1 ≤ i ∧ i ≤ 256 ∧ x = .int .i64 (i : Int)) (fun x => 256 - (intOf x).toNat)
    case atStart => exact ⟨1, by omega, by omega, rfl⟩
    case round =>
      obtain ⟨i, hi1, hi2, rfl⟩ := hrel
      by_cases hlt : i < 256
      · have hz : (((Gf.gmul a i : Nat) : Int) == 1) = false := by rw [HZ.out, Gf.gmul_comm (by omega) hlt, Gf.gmul_zero]; rfl
        go_wp2_with (go_at_call 37; refine (rmul_n a i ha hlt _).mono ?_; rintro e w1 ⟨rfl, rfl⟩)
        go_round
        case rel => exact ⟨i + 1, by omega, by omega, by go_num⟩
        case measure => simp [intOf]; omega
      · obtain rfl : i = 256 := by omega
        go_wp2
        go_ret2
        exact ⟨HC.out, rfl⟩
  · obtain ⟨hp, hone⟩ := ginv_pos ha h0
    have HB := Lib.hid hone
    have hb : Nat.beq a 0 = false := by
      cases hb : Nat.beq a 0 with
      | true => have := Nat.eq_of_beq_eq_true hb; omega
      | false => rfl
    have HN := Lib.hid hb
    clear hone hb
    generalize hG : Gf.ginv a = g at *
    go_enter Try.func32, Try.ntmps32
    clear hG
    go_wp2
    go_loop [4] (fun x => ∃ i : Nat, 1 ≤ i ∧ i ≤ g ∧ x = .int .i64 (i : Int)) (fun x => g - (intOf x).toNat)
    case atStart => exact ⟨1, by omega, by omega, rfl⟩
    case round =>
      obtain ⟨i, hi1, hi2, rfl⟩ := hrel
      have hlt : i < 256 := by omega
      by_cases hg : i = g
      · have h1 : (((Gf.gmul a i : Nat) : Int) == 1) = true := by rw [hg, HB.out]; rfl
        have HI := Lib.hid hg
        clear hg
        go_wp2_with (go_at_call 37; refine (rmul_n a i ha hlt _).mono ?_; rintro e w1 ⟨rfl, rfl⟩)
        go_ret2
        refine ⟨?_, rfl⟩
        rw [HN.out, ← HI.out]
        rfl
      · have h1 : (((Gf.gmul a i : Nat) : Int) == 1) = false := by
          rw [beq_eq_false_iff_ne]
          intro h
          exact hg (HU.out i hlt (by omega))
        have hl : i < g := by omega
        clear hg
        go_wp2_with (go_at_call 37; refine (rmul_n a i ha hlt _).mono ?_; rintro e w1 ⟨rfl, rfl⟩)
        go_round
        case rel => exact ⟨i + 1, by omega, by omega, by go_num⟩
        case measure => simp [intOf]; omega

theorem tup2 {a b : Value} {c d : Value} (h1 : a = c) (h2 : b = d) : Ending.returned (.tuple #[a, b]) = .returned (.tuple #[c, d]) := by rw [h1, h2]

set_option maxRecDepth 100000 in
set_option maxHeartbeats 400000 in
theorem rdiv_n (a b : Nat) (ha : a < 256) (hb : b < 256) (w : World) :
    Calls Try.prog 38 #[.int .u8 a, .int .u8 b] w fun e w' => e = .returned (.tuple #[.int .u8 ((bif Nat.beq b 0 then 0 else Gf.gmul a (Gf.ginv b) : Nat) : Int), .bool (!Nat.beq b 0)]) ∧ w' = w := by
  have hl := ginv_lt hb
  cases hz : Nat.beq b 0 with
  | true =>
    have HZ := Lib.hid hz
    clear hz
    go_enter Try.func38, Try.ntmps38
    go_wp2_with (go_at_call 32; refine (rinv_n b hb _).mono ?_; rw [HZ.out]; rintro e w1 ⟨rfl, rfl⟩)
    go_ret2
    exact ⟨rfl, rfl⟩
  | false =>
    have HZ := Lib.hid hz
    clear hz
    go_enter Try.func38, Try.ntmps38
    go_wp2_with (first | (go_at_call 32; refine (rinv_n b hb _).mono ?_; rw [HZ.out]; rintro e w1 ⟨rfl, rfl⟩) | (go_at_call 37; refine (rmul_n a (Gf.ginv b) ha hl _).mono ?_; rintro e w1 ⟨rfl, rfl⟩))
    go_ret2
    exact ⟨rfl, rfl⟩
end Go.Proofs.Ytphlagmalppbkaa
