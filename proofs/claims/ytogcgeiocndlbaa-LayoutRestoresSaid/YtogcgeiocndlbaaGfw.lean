/- Walks of gf256 and of its reference: each call returns the field's own sum, product, inverse, quotient, and leaves the world alone. -/
import Derived.Test.YtogcgeiocndlbaaRows
import Derived.Test.YtogcgeiocndlbaaGfm
import Derived.WalkKit
import Derived.WalkSpells
import Derived.WalkLawsBesides
import Derived.Lib.Hide
namespace Go.Proofs.Ytogcgeiocndlbaa
open Go.RowKit


theorem ret_u8 {a b : Int} (h : a = b) : Ending.returned (.int .u8 a) = .returned (.int .u8 b) := by rw [h]

set_option maxRecDepth 100000 in
set_option maxHeartbeats 400000 in
theorem gadd_n (a b : Nat) (ha : a < 256) (hb : b < 256) (w : World) :
    Calls Try.prog 53 #[.int .u8 a, .int .u8 b] w fun e w' => e = .returned (.int .u8 ((a ^^^ b : Nat) : Int)) ∧ w' = w := by
  have h := u8_xor_nat a b ha hb
  go_enter Try.func53, Try.ntmps53
  go_wp2
  go_ret
  exact ⟨rfl, rfl⟩

theorem dbl_hi {a : Nat} (h : 128 ≤ a) : bits .xor .u8 ((a : Int) * 2 % 256) 29 = (Gf.dbl a : Int) := by
  have := u8_xor_nat (a * 2 % 256) 29 (by omega) (by omega)
  have e : Gf.dbl a = (a * 2 % 256) ^^^ 29 := by
    unfold Gf.dbl
    rw [show Nat.ble 128 a = true from Nat.ble_eq_true_of_le h]; rfl
  rw [e, ← this]; rfl
theorem dbl_lo {a : Nat} (h : a < 128) : ((a : Int) * 2) = (Gf.dbl a : Int) := by
  have e : Gf.dbl a = a * 2 := by
    unfold Gf.dbl
    rw [show Nat.ble 128 a = false from by
      cases hb : Nat.ble 128 a with
      | true => have := Nat.le_of_ble_eq_true hb; omega
      | false => rfl]; rfl
  rw [e]; omega

set_option maxRecDepth 100000 in
set_option maxHeartbeats 400000 in
theorem double_n (a : Nat) (ha : a < 256) (w : World) :
    Calls Try.prog 62 #[.int .u8 a] w fun e w' => e = .returned (.int .u8 (Gf.dbl a : Int)) ∧ w' = w := by
  by_cases h : 128 ≤ a
  · go_enter Try.func62, Try.ntmps62
    go_wp2
    go_ret
    exact ⟨ret_u8 (dbl_hi h), rfl⟩
  · go_enter Try.func62, Try.ntmps62
    go_wp2
    go_ret
    exact ⟨ret_u8 (dbl_lo (by omega)), rfl⟩

/-- the loop of gf256.Mul -/
def mulLoop : Nat → Nat → Nat → Nat → Nat
  | 0, _, _, s => s
  | k + 1, a, b, s => mulLoop k (Gf.dbl a) (b / 2) (if b % 2 = 1 then s ^^^ a else s)
theorem mulLoop_zero : ∀ k a s, mulLoop k a 0 s = s
  | 0, _, _ => rfl
  | k + 1, a, s => by simp [mulLoop, mulLoop_zero k]
theorem sel_step (b k a s : Nat) : (if b / 2 ^ k % 2 = 1 then s ^^^ a else s) = Gf.st b k a s := by
  unfold Gf.st Gf.sel
  rw [show Nat.beq (Nat.land (Nat.shiftRight b k) 1) 1 = b.testBit k from Gf.bt_eq b k, Nat.testBit_eq_decide_div_mod_eq]
  by_cases h : b / 2 ^ k % 2 = 1
  · simp [h]
  · simp [h]
theorem mulLoop_eq (a b : Nat) (_hb : b < 256) : mulLoop 8 a b 0 = Gf.gmul a b := by
  have d2 : ∀ k, b / 2 ^ k / 2 = b / 2 ^ (k + 1) := fun k => by rw [Nat.div_div_eq_div_mul, Nat.pow_succ]
  have h0 : b = b / 2 ^ 0 := by simp
  simp only [mulLoop]
  rw [h0]
  simp only [d2, sel_step]
  simp [Gf.gmul]

set_option maxRecDepth 100000 in
set_option maxHeartbeats 400000 in
theorem gmul_n (a b : Nat) (ha : a < 256) (hb : b < 256) (w : World) :
    Calls Try.prog 52 #[.int .u8 a, .int .u8 b] w fun e w' => e = .returned (.int .u8 (Gf.gmul a b : Int)) ∧ w' = w := by
  have hm := mulLoop_eq a b hb
  have HM := Lib.hid hm
  clear hm
  go_enter Try.func52, Try.ntmps52
  go_wp2
  go_loop [0, 1, 5] (fun x y s => ∃ k a' b' s' : Nat, k ≤ 8 ∧ a' < 256 ∧ b' < 2 ^ k ∧ s' < 256 ∧ mulLoop k a' b' s' = mulLoop 8 a b 0 ∧ x = .int .u8 a' ∧ y = .int .u8 b' ∧ s = .int .u8 s') (fun _ y _ => (intOf y).toNat)
  case atStart => exact ⟨8, a, b, 0, by omega, ha, hb, by omega, rfl, rfl, rfl, rfl⟩
  case round =>
    obtain ⟨k, a', b', s', hk, ha', hb', hs', hml, rfl, rfl, rfl⟩ := hrel
    have HL := Lib.hid hml
    clear hml
    have hb2 : b' < 256 := Nat.lt_of_lt_of_le hb' (Nat.pow_le_pow_right (by omega) hk)
    by_cases h0 : b' = 0
    · go_wp2
      go_ret
      subst h0
      exact ⟨ret_u8 (by rw [← HM.out, ← HL.out, mulLoop_zero]), rfl⟩
    · obtain ⟨j, rfl⟩ : ∃ j, k = j + 1 := ⟨k - 1, by
        rcases Nat.eq_zero_or_pos k with h | h
        · subst h; simp at hb'; omega
        · omega⟩
      have hdiv : b' / 2 < 2 ^ j := by rw [Nat.pow_succ] at hb'; omega
      have hand : bits .and .u8 (b' : Int) 1 = ((b' % 2 : Nat) : Int) := by have := u8_and_nat b' 1 hb2 (by omega); rw [nat_mask1] at this; exact this
      have hdl := Gf.dbl_lt ha'
      have hxl := Gf.xor_lt hs' ha'
      have HX := Lib.hid (u8_xor_nat s' a' hs' ha')
      have HLb := Lib.hid hdiv
      have hpos : 0 < b' := by omega
      clear hdiv hb' h0
      by_cases h1 : b' % 2 = 1
      · have hand1 : (bits .and .u8 (b' : Int) 1 == 1) = true := by rw [hand, h1]; rfl
        clear hand
        have H1 := Lib.hid h1
        clear h1
        go_wp2_with (go_at_call 62; refine (double_n a' ha' _).mono ?_; rintro e w1 ⟨rfl, rfl⟩)
        go_round
        case rel => exact ⟨j, Gf.dbl a', b' / 2, s' ^^^ a', by omega, hdl, HLb.out, hxl, by rw [← HL.out, mulLoop, if_pos H1.out], rfl, by simp, by rw [HX.out]⟩
        case measure => simp [intOf]; omega
      · have hand1 : (bits .and .u8 (b' : Int) 1 == 1) = false := by rw [hand, show b' % 2 = 0 by omega]; rfl
        clear hand
        have H1 := Lib.hid h1
        clear h1
        go_wp2_with (go_at_call 62; refine (double_n a' ha' _).mono ?_; rintro e w1 ⟨rfl, rfl⟩)
        go_round
        case rel => exact ⟨j, Gf.dbl a', b' / 2, s', by omega, hdl, HLb.out, hs', by rw [← HL.out, mulLoop, if_neg H1.out], rfl, by simp, rfl⟩
        case measure => simp [intOf]; omega

end Go.Proofs.Ytogcgeiocndlbaa
