/- The law ErasureRebuilds of stelelaw15 returns true for every input, and the argument reads behind the call as it read before. No conditions. -/
import Derived.Test.YtpljpceldlaphaaEs
namespace Go.Proofs.Ytpljpceldlaphaa
namespace ErasureRebuilds
open Go.RowKit

theorem blk_yes (l : List ByteArray) {sp set m : Nat} (hsp : sp ≤ 7) (hm : m < 15) (h : ¬ (hvS l sp set).length < (evn l).length) : blockE (hvS l sp set) ((evn l).length : Int) (m : Int) = 0 ∧ blockB (hvS l sp set) ((evn l).length : Int) (m : Int) = ofL (shr (stD l) m) := by
  have h1 : blockE (hvS l sp set) ((evn l).length : Int) (m : Int) = 0 := by
    unfold blockE
    rw [if_neg (by omega), hvS_E l hsp, if_neg h]
  refine ⟨h1, ?_⟩
  unfold blockB
  rw [if_pos h1, Int.toNat_natCast, byt8_nat (by omega)]
  have h2 := hvS_lt l (set := set) hsp
  have := stripe_blkS (stD_even l) (hvS_on l (set := set) hsp) (fun h3 => h (by have := h2.1 h3; rwa [stD_len] at this)) m
  rwa [stD_len] at this
theorem blk_no (l : List ByteArray) {sp set m : Nat} (hsp : sp ≤ 7) (hm : m < 15) (h : (hvS l sp set).length < (evn l).length) : blockE (hvS l sp set) ((evn l).length : Int) (m : Int) = 19 ∧ blockB (hvS l sp set) ((evn l).length : Int) (m : Int) = ⟨#[]⟩ := by
  have h1 : blockE (hvS l sp set) ((evn l).length : Int) (m : Int) = 19 := by
    unfold blockE
    rw [if_neg (by omega), hvS_E l hsp, if_pos h]
  refine ⟨h1, ?_⟩
  unfold blockB
  rw [h1]
  rfl

set_option maxRecDepth 100000 in
set_option maxHeartbeats 1000000 in
theorem core (w : World) (A : Option Addr) (n c : Nat) (l : List ByteArray) (h : Lst Value.string w A n c l) (s : Nat) (hs : s < 256) (set : Nat) (hset : set < 65536) (lost : Nat) (hlost : lost < 256) :
    Calls Try.prog 5 #[.slice A n c, .int .u8 (s : Int), .int .u16 (set : Int), .int .u8 (lost : Int)] w fun e w' => e = .returned (.bool true) ∧ Below w.heap.size w w' := by
  have hsp : s % 8 ≤ 7 := by omega
  have HSP := Lib.hid hsp
  have HC := Lib.hid (stripe_b w A n c l h s hs)
  have hbd := evn_bound l
  obtain ⟨D, hD⟩ : ∃ D, D = (evn l).length := ⟨_, rfl⟩
  obtain ⟨M, hM⟩ : ∃ M, M = (stL l (s % 8)).length := ⟨_, rfl⟩
  have HD := Lib.hid hD
  have HM := Lib.hid hM
  have hMb : M ≤ 15 := by rw [hM, stL_len]; omega
  have hM0 : 0 < M := by rw [hM, stL_len]; omega
  obtain ⟨m, hm⟩ : ∃ m, m = lost % M := ⟨_, rfl⟩
  have hmM : m < M := by rw [hm]; exact Nat.mod_lt _ hM0
  have hmm : (lost : Int) % (M : Int) = (m : Int) := by rw [hm]; exact (Int.natCast_emod lost M).symm
  rw [← hD] at hbd
  clear h hD hM hsp hm
  have hbz : ((M : Int) == 0) = false := by simp; omega
  go_enter Try.func5, Try.ntmps5
  go_wp2_with fail
  refine HC.out.mono ?_
  rintro e w1 ⟨v1, v2, rfl, ho1, ho2, hb1⟩
  rw [← HD.out] at ho1
  rw [← HM.out] at ho2
  obtain ⟨A1, c1, rfl, hy1, _⟩ := lst_own ho1
  obtain ⟨A2, c2, rfl, hy2, _⟩ := shs_own ho2
  have HB1 := Lib.hid hb1
  have HY2 := Lib.hid hy2
  have hlc2 : M ≤ c2 := hy2.1
  have hcm2 : c2 ≤ 9223372036854775807 := hy2.2.1
  have HCS := Lib.hid (some_b w1 A2 M c2 (stL l (s % 8)) hy2 (by rw [← HM.out]; omega) set hset)
  clear ho1 ho2 hb1 hy1 hy2
  go_wp2_with fail
  refine HCS.out.mono ?_
  rw [show smL (stL l (s % 8)) set (stL l (s % 8)).length = hvS l (s % 8) set from rfl]
  obtain ⟨H, hH⟩ : ∃ H, H = (hvS l (s % 8) set).length := ⟨_, rfl⟩
  have HH := Lib.hid hH
  clear hH
  rintro e w2 ⟨v3, rfl, ho3, hb2⟩
  rw [← HH.out] at ho3
  obtain ⟨A3, c3, rfl, hy3, _⟩ := shs_own ho3
  have hlc3 : H ≤ c3 := hy3.1
  have hcm3 : c3 ≤ 9223372036854775807 := hy3.2.1
  have HB2 := Lib.hid (HB1.out.trans (hb2.mono HB1.out.size))
  have hmS : m < (stL l (s % 8)).length := by rw [← HM.out]; exact hmM
  obtain ⟨ad, rfl, _, hx0, hx1⟩ := (HY2.out.below hb2).at_ hmS
  rw [stL_at l hmS] at hx0 hx1
  have HY3 := Lib.hid hy3
  have HS2 := Lib.hid hb2.size
  clear ho3 hb2 hy3 hmS
  obtain ⟨r, hr⟩ : ∃ r, r = ofL (shr (stD l) m) := ⟨_, rfl⟩
  rw [← hr] at hx1
  have HR := Lib.hid hr
  clear hr
  have HCR := Lib.hid (fun (W : World) (hW : Below w2.heap.size w2 W) => blockp_f W A3 H c3 (hvS l (s % 8) set) (HY3.out.below hW) (hvS_bound l HSP.out) (D : Int) (by rw [i64_lo, i64_hi]; omega) (m : Int) (by rw [i64_lo, i64_hi]; omega))
  have hsb := str_beq r r
  rw [decide_eq_true (rfl : r = r)] at hsb
  by_cases hlt : H < D
  · have HBL := Lib.hid (blk_no l (set := set) (m := m) HSP.out (by omega) (by rw [← HH.out, ← HD.out]; exact hlt))
    rw [← HD.out] at HBL
    rw [HBL.out.1, HBL.out.2] at HCR
    go_wp2_with fail
    refine (HCR.out _ ?_).mono ?_
    · exact (Below.refl _ w2).alloc (Nat.le_refl _) _
    rintro e w3 ⟨rfl, hb3⟩
    have HB3 := Lib.hid ((HB2.out.alloc HB2.out.size (.cells #[.int .i64 (m : Int), .string r] 39)).trans (hb3.mono (HB2.out.alloc HB2.out.size _).size))
    clear hb3 hx0 hx1
    go_wp2_with fail
    refine (awake_e _).mono ?_
    rintro e w4 ⟨rfl, hb4⟩
    have HB4 := Lib.hid (HB3.out.trans (hb4.mono HB3.out.size))
    clear hb4
    go_wp2
    go_ret
    exact ⟨rfl, HB4.out⟩
  · have HBL := Lib.hid (blk_yes l (set := set) (m := m) HSP.out (by omega) (by rw [← HH.out, ← HD.out]; exact hlt))
    rw [← HD.out, ← HR.out] at HBL
    rw [HBL.out.1, HBL.out.2] at HCR
    have HX := Lib.hid (Blk.new w2 39 #[.int .i64 (m : Int), .string r])
    go_wp2_with fail
    refine (HCR.out _ ?_).mono ?_
    · exact (Below.refl _ w2).alloc (Nat.le_refl _) _
    rintro e w3 ⟨rfl, hb3⟩
    have HB3 := Lib.hid ((HB2.out.alloc HB2.out.size (.cells #[.int .i64 (m : Int), .string r] 39)).trans (hb3.mono (HB2.out.alloc HB2.out.size _).size))
    have hx2 := (HX.out.below hb3).cell 1
    clear hb3 hx0 hx1
    go_wp2_with fail
    refine (awake_e _).mono ?_
    rintro e w4 ⟨rfl, hb4⟩
    have HB4 := Lib.hid (HB3.out.trans (hb4.mono HB3.out.size))
    clear hb4
    go_wp2
    go_ret
    exact ⟨rfl, HB4.out⟩

end ErasureRebuilds
end Go.Proofs.Ytpljpceldlaphaa
