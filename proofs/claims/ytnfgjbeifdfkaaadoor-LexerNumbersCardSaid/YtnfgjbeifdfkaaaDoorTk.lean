/- The reference's Decimal. -/
import Derived.Test.YtnfgjbeifdfkaaaDoorTj
import Derived.Deep.RegionHeld3
namespace Go.Proofs.YtnfgjbeifdfkaaaDoor
open Go.RowKit
set_option linter.unusedVariables false
namespace Lx

theorem one_conv (W : World) (g : Nat) (c : UInt8) (h : Blk W g 5 #[.int .u8 (c.toNat : Int)]) : (convert 23 9 (.slice (some ⟨g, 0, none⟩) 1 1)).run Tryd.prog W = .ok (.string (ofL [c])) W :=
  run_conv_byt (P := Tryd.prog) (show Byt W (some ⟨g, 0, none⟩) 1 1 [c] from Blk.sl (n := 1) (size := 1) h rfl (by unfold maxLen; omega)) 23 5 9 Tryd.underlying23 Tryd.underlying5 Tryd.underlying9
theorem dd_size {u : Nat} (h : u < 18446744073709551616) : (ofL (Lib.decDigits u)).size ≤ 20 := by
  rw [ofL_size, Lib.decDigits_length]
  have key : ∀ k v : Nat, v < 10 ^ k → 1 ≤ k → Lib.nDigits v ≤ k := by
    intro k
    induction k with
    | zero => intro v _ h; omega
    | succ k ih =>
      intro v hv _
      by_cases h10 : v < 10
      · rw [Lib.nDigits_small h10]; omega
      · rw [Lib.nDigits_big h10]
        have h2 : v / 10 < 10 ^ k := by
          rw [Nat.div_lt_iff_lt_mul (by omega)]
          rw [Nat.pow_succ] at hv; exact hv
        have h3 : 1 ≤ k := by
          rcases Nat.eq_zero_or_pos k with h0 | h0
          · subst h0; simp at hv; omega
          · exact h0
        have := ih (v / 10) h2 h3
        omega
  exact key 20 u (by omega) (by omega)
set_option maxRecDepth 100000 in
set_option maxHeartbeats 1000000 in
theorem decimal_f (n : Nat) : ∀ (hn : n < 9000000000000000000) (w : World), Calls Tryd.prog 14 #[.int .i64 (n : Int)] w fun e w' => e = .returned (.string (ofL (Lib.decDigits n))) ∧ Below w.heap.size w w' := by
  induction n using Nat.strongRecOn with
  | _ n ih =>
    intro hn w
    by_cases h : n < 10
    · have hI : (n : Int) < 10 := by omega
      obtain ⟨c, hc⟩ : ∃ c, c = UInt8.ofNat (48 + n) := ⟨_, rfl⟩
      have hcn : (c.toNat : Int) = 48 + (n : Int) := by rw [hc, dig_nat h]; omega
      have HD := Lib.hid (show ofL (Lib.decDigits n) = ofL [c] by rw [dd_small h, hc])
      have v1 : 48 + (n : Int) = (c.toNat : Int) := hcn.symm
      have hc256 := c.toNat_lt
      have v2 : IntKind.u8.wrap (c.toNat : Int) = (c.toNat : Int) := by simp [IntKind.wrap, IntKind.bits, IntKind.signed]; omega
      have v3 : IntKind.i64.wrap (c.toNat : Int) = (c.toNat : Int) := by simp [IntKind.wrap, IntKind.bits, IntKind.signed]; omega
      have cv := one_conv (w.alloc (.cells #[.int .u8 (c.toNat : Int)] 5)) w.heap.size c (Blk.new w _ _)
      rw [HD.out]
      clear ih hc hcn
      go_enter Tryd.func14, Tryd.ntmps14
      go_wp2_with fail
      go_ret
      exact ⟨rfl, (Below.refl _ w).alloc (Nat.le_refl _) _⟩
    · have hI : ¬ (n : Int) < 10 := by omega
      have HI := Lib.hid (fun V => ih (n / 10) (by omega) (by omega) V)
      obtain ⟨p, hp⟩ : ∃ p, p = n / 10 := ⟨_, rfl⟩
      obtain ⟨q, hq⟩ : ∃ q, q = n % 10 := ⟨_, rfl⟩
      have q1 : (n : Int) / 10 = (p : Int) := by omega
      have q2 : (n : Int).tdiv 10 = (p : Int) := by rw [Int.tdiv_eq_ediv_of_nonneg (by omega)]; exact q1
      have q3 : (n : Int) % 10 = (q : Int) := by omega
      have q4 : (n : Int).tmod 10 = (q : Int) := by rw [Int.tmod_eq_emod_of_nonneg (by omega)]; exact q3
      obtain ⟨c, hc⟩ : ∃ c, c = UInt8.ofNat (48 + q) := ⟨_, rfl⟩
      have hcn : (c.toNat : Int) = 48 + (q : Int) := by rw [hc, dig_nat (by omega)]; omega
      have v1 : 48 + (q : Int) = (c.toNat : Int) := hcn.symm
      have hc256 := c.toNat_lt
      have v2 : IntKind.u8.wrap (c.toNat : Int) = (c.toNat : Int) := by simp [IntKind.wrap, IntKind.bits, IntKind.signed]; omega
      have v3 : IntKind.i64.wrap (c.toNat : Int) = (c.toNat : Int) := by simp [IntKind.wrap, IntKind.bits, IntKind.signed]; omega
      have v4 : IntKind.i64.wrap (p : Int) = (p : Int) := by simp [IntKind.wrap, IntKind.bits, IntKind.signed]; omega
      have v5 : IntKind.i64.wrap (q : Int) = (q : Int) := by simp [IntKind.wrap, IntKind.bits, IntKind.signed]; omega
      have hz := dd_size (u := n / 10) (by omega)
      have HA := Lib.hid (show ofL (Lib.decDigits (n / 10)) ++ ofL [c] = ofL (Lib.decDigits n) by rw [ofL_append, dd_big h, hc, hq])
      obtain ⟨a, ha⟩ : ∃ a, a = ofL (Lib.decDigits (n / 10)) := ⟨_, rfl⟩
      rw [← ha] at HI HA hz
      have hz1 : (ofL [c]).size = 1 := rfl
      obtain ⟨b, hb⟩ : ∃ b, b = ofL [c] := ⟨_, rfl⟩
      have HCV := Lib.hid (fun V g (h : Blk V g 5 #[.int .u8 (c.toNat : Int)]) => one_conv V g c h)
      rw [← hb] at hz1 HCV HA
      rw [← hp] at HI
      obtain ⟨d, hd⟩ : ∃ d, a ++ b = d := ⟨_, rfl⟩
      rw [hd] at HA
      rw [← HA.out]
      have g1 : ¬ 9223372036854775807 < a.size + b.size := by omega
      have cv1 := HCV.out (w.alloc (.cells #[.int .u8 (c.toNat : Int)] 5)).drew w.heap.size (Blk.new w _ _)
      clear ih hc hcn hp hq ha hb
      go_enter Tryd.func14, Tryd.ntmps14
      go_wp2_with fail
      go_region_with (first
        | (go_at_call 14; (with_reducible refine (HI.out _).mono ?_); rintro e w6 ⟨rfl, hb6⟩; have HB6 := Lib.hid (show Below w.heap.size w w6 by first | exact (show Below w.heap.size w (w.alloc (.cells #[.int .u8 (c.toNat : Int)] 5)).drew from ((Below.refl _ w).alloc (Nat.le_refl _) _).drew).trans (hb6.mono (by simp)) | exact (show Below w.heap.size w w.drew from (Below.refl _ w).drew).trans hb6); have cv6 := HCV.out (w6.alloc (.cells #[.int .u8 (c.toNat : Int)] 5)) w6.heap.size (Blk.new w6 _ _); try (have cv7 := HCV.out w6 w.heap.size (Blk.below (w := (w.alloc (.cells #[.int .u8 (c.toNat : Int)] 5)).drew) (Blk.new w 5 #[.int .u8 (c.toNat : Int)]) hb6)); clear hb6))
      all_goals
        go_wp2_with fail
        go_ret
        first | exact ⟨rfl, HB6.out⟩ | exact ⟨rfl, HB6.out.alloc HB6.out.size _⟩
end Lx
end Go.Proofs.YtnfgjbeifdfkaaaDoor
