/- Walks of the reference's field: product, inverse, quotient. -/
import Derived.Test.YtogcgeiocndlbaaGfw
namespace Go.Proofs.Ytogcgeiocndlbaa
open Go.RowKit

theorem ofInt_i64 (a : Nat) (ha : a < 9223372036854775808) : (BitVec.ofInt 64 (a : Int)).toNat = a := by
  rw [BitVec.ofInt_natCast, BitVec.toNat_ofNat]; exact Nat.mod_eq_of_lt (by omega)
theorem i64_and_nat (a b : Nat) (ha : a < 9223372036854775808) (hb : b < 9223372036854775808) : bits .and .i64 (a : Int) (b : Int) = ((a &&& b : Nat) : Int) := by
  have hx : a &&& b < 2 ^ 63 := Nat.and_lt_two_pow _ (by omega)
  show IntKind.i64.wrap ((BitVec.ofInt 64 (a : Int) &&& BitVec.ofInt 64 (b : Int)).toNat : Int) = _
  rw [BitVec.toNat_and, ofInt_i64 a ha, ofInt_i64 b hb, IntKind.wrap_i64]
  omega
theorem i64_xor_nat (a b : Nat) (ha : a < 9223372036854775808) (hb : b < 9223372036854775808) : bits .xor .i64 (a : Int) (b : Int) = ((a ^^^ b : Nat) : Int) := by
  have hx : a ^^^ b < 2 ^ 63 := Nat.xor_lt_two_pow (by omega) (by omega)
  show IntKind.i64.wrap ((BitVec.ofInt 64 (a : Int) ^^^ BitVec.ofInt 64 (b : Int)).toNat : Int) = _
  rw [BitVec.toNat_xor, ofInt_i64 a ha, ofInt_i64 b hb, IntKind.wrap_i64]
  omega
theorem ret_i64 {a b : Int} (h : a = b) : Ending.returned (.int .i64 a) = .returned (.int .i64 b) := by rw [h]

/-- what the test of a bit says -/
theorem tst_bit {b i : Nat} {t : Bool} (hb : b < 65536) (h : (bits .and .i64 ((b : Int) / 2 ^ i) 1 == 1) = t) : (b / 2 ^ i % 2 = 1) ↔ t = true := by
  have e : ((b : Int) / 2 ^ i) = ((b / 2 ^ i : Nat) : Int) := by rw [Int.natCast_ediv, Int.natCast_pow]; rfl
  have hl : b / 2 ^ i ≤ b := Nat.div_le_self _ _
  rw [e, show (1 : Int) = ((1 : Nat) : Int) from rfl, i64_and_nat _ _ (by omega) (by omega), nat_mask1] at h
  rw [← h]; simp; omega
theorem rsum_yes {a b i : Nat} (ha : a < 256) (hb : b < 256) (hi : i < 8) (h : (bits .and .i64 ((b : Int) / 2 ^ i) 1 == 1) = true) :
    bits .xor .i64 (Gf.rSum a b i : Int) (wrap64 ((a : Int) * 2 ^ i)) = (Gf.rSum a b (i + 1) : Int) := by
  have h1 := (tst_bit (by omega) h).2 rfl
  have hp : 2 ^ i ≤ 2 ^ 7 := Nat.pow_le_pow_right (by omega) (by omega)
  have hs : Gf.rSum a b i < 2 ^ 15 := Nat.lt_of_lt_of_le (Gf.rSum_lt b ha i) (Nat.pow_le_pow_right (by omega) (by omega))
  have hm : a * 2 ^ i ≤ 255 * 2 ^ 7 := Nat.mul_le_mul (by omega) hp
  have e : ((a : Int) * 2 ^ i) = ((a * 2 ^ i : Nat) : Int) := by rw [Int.natCast_mul, Int.natCast_pow]; rfl
  rw [e, IntWalk.wrap64_in _ (by omega), i64_xor_nat _ _ (by omega) (by omega)]
  conv => rhs; unfold Gf.rSum
  rw [Gf.sel_if, if_pos h1]
  show _ = (((Gf.rSum a b i) ^^^ (a <<< i) : Nat) : Int)
  rw [Nat.shiftLeft_eq]
theorem rsum_no {a b i : Nat} (hb : b < 256) (h : (bits .and .i64 ((b : Int) / 2 ^ i) 1 == 1) = false) : (Gf.rSum a b i : Int) = (Gf.rSum a b (i + 1) : Int) := by
  have h1 : ¬ (b / 2 ^ i % 2 = 1) := fun h2 => by have := (tst_bit (by omega) h).1 h2; simp at this
  conv => rhs; unfold Gf.rSum
  rw [Gf.sel_if, if_neg h1]
  show _ = (((Gf.rSum a b i) ^^^ 0 : Nat) : Int)
  rw [Nat.xor_zero]
theorem rtop_yes {p k : Nat} (hp : p < 32768) (hk : k < 7) (h : (bits .and .i64 ((p : Int) / 2 ^ (k + 8)) 1 == 1) = true) :
    bits .xor .i64 (p : Int) (wrap64 (285 * 2 ^ k)) = (Gf.rTop p (k + 8) : Int) := by
  have h1 := (tst_bit (by omega) h).2 rfl
  have hq : 2 ^ k ≤ 2 ^ 6 := Nat.pow_le_pow_right (by omega) (by omega)
  have e : ((285 : Int) * 2 ^ k) = ((285 * 2 ^ k : Nat) : Int) := by rw [Int.natCast_mul, Int.natCast_pow]; rfl
  rw [e, IntWalk.wrap64_in _ (by omega), i64_xor_nat _ _ (by omega) (by omega)]
  unfold Gf.rTop
  rw [Gf.sel_if, if_pos h1]
  show _ = ((p ^^^ (285 <<< (k + 8 - 8)) : Nat) : Int)
  rw [Nat.shiftLeft_eq, Nat.add_sub_cancel]
theorem rtop_no {p k : Nat} (hp : p < 32768) (h : (bits .and .i64 ((p : Int) / 2 ^ k) 1 == 1) = false) : (p : Int) = (Gf.rTop p k : Int) := by
  have h1 : ¬ (p / 2 ^ k % 2 = 1) := fun h2 => by have := (tst_bit (by omega) h).1 h2; simp at this
  unfold Gf.rTop
  rw [Gf.sel_if, if_neg h1]
  show _ = ((p ^^^ 0 : Nat) : Int)
  rw [Nat.xor_zero]

/-- the reference's inverse, found by search -/
theorem inv_unique_n {a x : Nat} (ha : a < 256) (hx : x < 256) (h : Gf.gmul a x = 1) : x = Gf.ginv a := by
  have h1 : Gf.gm (UInt8.ofNat a) (UInt8.ofNat x) = 1 := Gf.ext (by
    rw [Gf.gm_toNat, UInt8.toNat_ofNat', UInt8.toNat_ofNat', Nat.mod_eq_of_lt ha, Nat.mod_eq_of_lt hx, h]; rfl)
  have h2 := congrArg UInt8.toNat (Gf.inv_unique h1)
  rwa [Gf.inv_toNat, UInt8.toNat_ofNat', UInt8.toNat_ofNat', Nat.mod_eq_of_lt ha, Nat.mod_eq_of_lt hx] at h2
theorem ginv_pos {a : Nat} (ha : a < 256) (h : 0 < a) : 0 < Gf.ginv a ∧ Gf.gmul a (Gf.ginv a) = 1 := by
  have h1 := Nat.eq_of_beq_eq_true (Gf.allN_spec Gf.inv_chk a ha)
  have hb : Nat.beq a 0 = false := by
    cases hb : Nat.beq a 0 with
    | true => have := Nat.eq_of_beq_eq_true hb; omega
    | false => rfl
  rw [hb] at h1
  refine ⟨?_, h1⟩
  rcases Nat.eq_zero_or_pos (Gf.ginv a) with h0 | h0
  · rw [h0, Gf.gmul_zero] at h1; exact absurd h1 (by decide)
  · exact h0
theorem ginv_lt {a : Nat} (ha : a < 256) : Gf.ginv a < 256 := Nat.le_of_ble_eq_true (Gf.allN_spec Gf.ginv_lt_chk a ha)

theorem tup2 {a b : Value} {c d : Value} (h1 : a = c) (h2 : b = d) : Ending.returned (.tuple #[a, b]) = .returned (.tuple #[c, d]) := by rw [h1, h2]

end Go.Proofs.Ytogcgeiocndlbaa
