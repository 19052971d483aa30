/- Netstrings of the reference: digits, Dec, Number, String, Strings. -/
import Derived.Test.YtnllocghmnhooaaDoorCe
namespace Go.Proofs.YtnllocghmnhooaaDoor
open Go.RowKit
set_option linter.unusedVariables false
namespace Bk

theorem ten_cut : ∀ u : Fin 10, (⟨#[48, 49, 50, 51, 52, 53, 54, 55, 56, 57]⟩ : ByteArray).extract u.val (u.val + 1) = ofL [UInt8.ofNat (48 + u.val)] := by decide +kernel
theorem dd_big {u : Nat} (h : ¬ u < 10) : Lib.decDigits u = Lib.decDigits (u / 10) ++ Lib.decDigits (u % 10) := by
  rw [Lib.decDigits, dif_neg h, Lib.decDigits_one (Nat.mod_lt _ (by omega))]
theorem dd_len {u : Nat} (h : u < 18446744073709551616) : (Lib.decDigits u).length ≤ 20 := by
  rw [Lib.decDigits_length]
  have key : ∀ k v : Nat, v < 10 ^ k → 1 ≤ k → Lib.nDigits v ≤ k := by
    intro k
    induction k with
    | zero => intro v _ h; omega
    | succ k ih =>
      intro v hv _
      by_cases h10 : v < 10
      · rw [Lib.nDigits_small h10]; omega
      · rw [Lib.nDigits_big h10]
        have h2 : v / 10 < 10 ^ k := by
          rw [Nat.div_lt_iff_lt_mul (by omega)]
          rw [Nat.pow_succ] at hv; exact hv
        have h3 : 1 ≤ k := by
          rcases Nat.eq_zero_or_pos k with h0 | h0
          · subst h0; simp at hv; omega
          · exact h0
        have := ih (v / 10) h2 h3
        omega
  exact key 20 u (by omega) (by omega)
set_option maxRecDepth 100000 in
theorem rdigits_f (u : Nat) : ∀ (hu : u < 18446744073709551616) (w : World), Calls Tryd.prog 61 #[.int .u64 (u : Int)] w fun e w' => e = .returned (.string (ofL (Lib.decDigits u))) ∧ w' = w := by
  induction u using Nat.strongRecOn with
  | _ u ih =>
    intro hu w
    by_cases h : u < 10
    · have hx := ten_cut ⟨u, h⟩
      simp only at hx
      rw [Lib.decDigits_one h]
      have hu1 : (u : Int) + 1 ≤ 10 := by omega
      obtain ⟨u1, h1⟩ : ∃ v, v = u + 1 := ⟨_, rfl⟩
      have q1 : (u : Int) + 1 = (u1 : Int) := by omega
      have l1 : (u1 : Int) ≤ 10 := by omega
      have l2 : (u : Int) ≤ (u1 : Int) := by omega
      rw [← h1] at hx
      obtain ⟨y, hy⟩ : ∃ y, y = ofL [UInt8.ofNat (48 + u)] := ⟨_, rfl⟩
      rw [← hy] at hx ⊢
      clear hy h1 ih hu
      go_enter Tryd.func61, Tryd.ntmps61
      go_wp2_with fail
      go_ret
      exact ⟨rfl, rfl⟩
    · have h1 := ih (u / 10) (by omega) (by omega)
      have h2 := ih (u % 10) (by omega) (by omega)
      have HD := Lib.hid (dd_big h)
      have s1 : (ofL (Lib.decDigits (u / 10))).size ≤ 20 := by rw [ofL_size]; exact dd_len (by omega)
      have s2 : (ofL (Lib.decDigits (u % 10))).size ≤ 20 := by rw [ofL_size]; exact dd_len (by omega)
      have HA := Lib.hid (ofL_append (Lib.decDigits (u / 10)) (Lib.decDigits (u % 10)))
      obtain ⟨a, ha⟩ : ∃ a, a = ofL (Lib.decDigits (u / 10)) := ⟨_, rfl⟩
      obtain ⟨b, hb⟩ : ∃ b, b = ofL (Lib.decDigits (u % 10)) := ⟨_, rfl⟩
      rw [← ha] at h1 s1 HA
      rw [← hb] at h2 s2 HA
      obtain ⟨p, hp⟩ : ∃ p, p = u / 10 := ⟨_, rfl⟩
      obtain ⟨q, hq⟩ : ∃ q, q = u % 10 := ⟨_, rfl⟩
      rw [← hp] at h1 HD HA
      rw [← hq] at h2 HD HA
      have q1 : (u : Int) / 10 = (p : Int) := by omega
      have q2 : (u : Int) % 10 = (q : Int) := by omega
      have q3 : (u : Int).tdiv 10 = (p : Int) := by rw [Int.tdiv_eq_ediv_of_nonneg (by omega)]; exact q1
      have q4 : (u : Int).tmod 10 = (q : Int) := by rw [Int.tmod_eq_emod_of_nonneg (by omega)]; exact q2
      have H1 := Lib.hid h1
      have H2 := Lib.hid h2
      have huI : ¬ (u : Int) < 10 := by omega
      clear ha hb hp hq ih h1 h2
      go_enter Tryd.func61, Tryd.ntmps61
      go_wp2_with fail
      refine (H1.out _).mono ?_
      rintro e w' ⟨rfl, rfl⟩
      go_wp2_with fail
      refine (H2.out _).mono ?_
      rintro e w' ⟨rfl, rfl⟩
      go_wp2_with fail
      go_ret
      exact ⟨by rw [HA.out, HD.out]; rfl, rfl⟩
set_option maxRecDepth 100000 in
theorem dec_f (n : Int) (h0 : -9223372036854775808 ≤ n) (h1 : n ≤ 9223372036854775807) (w : World) : Calls Tryd.prog 47 #[.int .i64 n] w fun e w' => e = .returned (.string (ofL (Lib.itoa n))) ∧ w' = w := by
  by_cases hn : n < 0
  · have HI := Lib.hid (show Lib.itoa n = 45 :: Lib.decDigits n.natAbs from if_pos hn)
    have hs : (ofL (Lib.decDigits n.natAbs)).size ≤ 20 := by rw [ofL_size]; exact dd_len (by omega)
    have H := Lib.hid (fun w => rdigits_f n.natAbs (by omega) w)
    have HA := Lib.hid (show (⟨#[45]⟩ : ByteArray) ++ ofL (Lib.decDigits n.natAbs) = ofL (45 :: Lib.decDigits n.natAbs) from ofL_append [45] _)
    obtain ⟨m, hm⟩ : ∃ m : Nat, m = n.natAbs := ⟨_, rfl⟩
    have q1 : IntKind.u64.wrap (-(n + 1)) = (m : Int) - 1 := by rw [IntKind.wrap_u64]; omega
    have q2 : (m : Int) - 1 + 1 = (m : Int) := by omega
    have q3 : (m : Int) < 18446744073709551616 := by omega
    have q4 : (1 : Int) ≤ m := by omega
    rw [← hm] at HI hs H HA
    obtain ⟨d, hd⟩ : ∃ d, d = ofL (Lib.decDigits m) := ⟨_, rfl⟩
    rw [← hd] at H HA hs
    clear hm hd
    go_enter Tryd.func47, Tryd.ntmps47
    go_wp2_with fail
    refine (H.out _).mono ?_
    rintro e w' ⟨rfl, rfl⟩
    go_wp2_with fail
    go_ret
    exact ⟨by rw [HA.out, HI.out]; rfl, rfl⟩
  · have HI := Lib.hid (show Lib.itoa n = Lib.decDigits n.toNat from if_neg hn)
    have H := Lib.hid (fun w => rdigits_f n.toNat (by omega) w)
    obtain ⟨m, hm⟩ : ∃ m : Nat, m = n.toNat := ⟨_, rfl⟩
    have q1 : IntKind.u64.wrap n = (m : Int) := by rw [IntKind.wrap_u64]; omega
    rw [← hm] at HI H
    clear hm
    go_enter Tryd.func47, Tryd.ntmps47
    go_wp2_with fail
    refine (H.out _).mono ?_
    rintro e w' ⟨rfl, rfl⟩
    go_wp2_with fail
    go_ret
    exact ⟨by rw [HI.out]; rfl, rfl⟩
set_option maxRecDepth 100000 in
theorem rstr_f (s : ByteArray) (hs : s.size ≤ 1000000) (w : World) :
    Calls Tryd.prog 31 #[.string s] w fun e w' => e = .returned (.string (ofL (nstr (bl s)))) ∧ w' = w := by
  have HI := Lib.hid (fun w => dec_f (s.size : Int) (by omega) (by omega) w)
  have hd := itoa_len (s.size : Int) (by omega) (by omega)
  have hds : (ofL (Lib.itoa (s.size : Int))).size ≤ 21 := by rw [ofL_size]; exact hd
  have HE := Lib.hid (show ofL (Lib.itoa (s.size : Int)) ++ ⟨#[58]⟩ ++ s ++ ⟨#[44]⟩ = ofL (nstr (bl s)) by
    unfold nstr
    rw [bl_len, ← ofL_append, ← ofL_append, ← ofL_append, ofL_bl]; rfl)
  obtain ⟨d, hd'⟩ : ∃ d, d = ofL (Lib.itoa (s.size : Int)) := ⟨_, rfl⟩
  rw [← hd'] at HI hds HE
  have g1 : ¬ 9223372036854775807 < d.size + 1 := by omega
  clear hd' hd
  go_enter Tryd.func31, Tryd.ntmps31
  go_wp2_with fail
  refine (HI.out _).mono ?_
  rintro e w1 ⟨rfl, rfl⟩
  go_wp2_with fail
  go_ret
  exact ⟨congrArg (fun z => Ending.returned (Value.string z)) HE.out, rfl⟩
end Bk
end Go.Proofs.YtnllocghmnhooaaDoor
