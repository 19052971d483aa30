/- The law ErasureRecovers of stelelaw15 returns true for every input, and the argument reads behind the call as it read before. No conditions. -/
import Derived.Test.YtpljpceldlaphaaEs
namespace Go.Proofs.Ytpljpceldlaphaa
namespace ErasureRecovers
open Go.RowKit

set_option maxRecDepth 100000 in
set_option maxHeartbeats 1000000 in
theorem core (w : World) (A : Option Addr) (n c : Nat) (l : List ByteArray) (h : Lst Value.string w A n c l) (s : Nat) (hs : s < 256) (set : Nat) (hset : set < 65536) :
    Calls Try.prog 6 #[.slice A n c, .int .u8 (s : Int), .int .u16 (set : Int)] w fun e w' => e = .returned (.bool true) ∧ Below w.heap.size w w' := by
  have hsp : s % 8 ≤ 7 := by omega
  have HSP := Lib.hid hsp
  have HC := Lib.hid (stripe_b w A n c l h s hs)
  have hbd := evn_bound l
  obtain ⟨D, hD⟩ : ∃ D, D = (evn l).length := ⟨_, rfl⟩
  obtain ⟨M, hM⟩ : ∃ M, M = (stL l (s % 8)).length := ⟨_, rfl⟩
  have HD := Lib.hid hD
  have HM := Lib.hid hM
  have hMb : M ≤ 15 := by rw [hM, stL_len]; omega
  rw [← hD] at hbd
  clear h hD hM hsp
  go_enter Try.func6, Try.ntmps6
  go_wp2_with fail
  refine HC.out.mono ?_
  rintro e w1 ⟨v1, v2, rfl, ho1, ho2, hb1⟩
  rw [← HD.out] at ho1
  rw [← HM.out] at ho2
  obtain ⟨A1, c1, rfl, hy1, _⟩ := lst_own ho1
  obtain ⟨A2, c2, rfl, hy2, _⟩ := shs_own ho2
  have HY1 := Lib.hid hy1
  have HB1 := Lib.hid hb1
  have HCS := Lib.hid (some_b w1 A2 M c2 (stL l (s % 8)) hy2 (by rw [← HM.out]; omega) set hset)
  clear ho1 ho2 hb1 hy1 hy2
  go_wp2_with fail
  refine HCS.out.mono ?_
  rw [show smL (stL l (s % 8)) set (stL l (s % 8)).length = hvS l (s % 8) set from rfl]
  obtain ⟨H, hH⟩ : ∃ H, H = (hvS l (s % 8) set).length := ⟨_, rfl⟩
  have HH := Lib.hid hH
  clear hH
  have HRE := Lib.hid (hvS_E l (set := set) HSP.out)
  rw [← HD.out, ← HH.out] at HRE
  rintro e w2 ⟨v3, rfl, ho3, hb2⟩
  rw [← HH.out] at ho3
  obtain ⟨A3, c3, rfl, hy3, _⟩ := shs_own ho3
  have hlc3 : H ≤ c3 := hy3.1
  have hcm3 : c3 ≤ 9223372036854775807 := hy3.2.1
  have HB2 := Lib.hid (HB1.out.trans (hb2.mono HB1.out.size))
  have HY12 := Lib.hid (HY1.out.below hb2)
  have HCR := Lib.hid (restore_f w2 A3 H c3 (hvS l (s % 8) set) hy3 (hvS_bound l HSP.out) (D : Int) (by rw [i64_lo, i64_hi]; omega))
  clear ho3 hb2 hy3
  by_cases hlt : H < D
  · have HRB := Lib.hid (hvS_B0 l (set := set) HSP.out (by rw [← HH.out, ← HD.out]; exact hlt))
    have HRE2 := Lib.hid (show restE (hvS l (s % 8) set) (D : Int) = 19 by rw [HRE.out, if_pos hlt])
    rw [← HD.out] at HRB
    rw [HRB.out, HRE2.out] at HCR
    go_wp2_with fail
    refine HCR.out.mono ?_
    rintro e w3 ⟨v4, rfl, ho4, hb3⟩
    obtain ⟨A4, c4, rfl, hy4, _⟩ := lst_own ho4
    have hlc4 : 0 ≤ c4 := hy4.1
    have HB3 := Lib.hid (HB2.out.trans (hb3.mono HB2.out.size))
    clear ho4 hb3 hy4
    go_wp2_with fail
    refine (awake_e _).mono ?_
    rintro e w4 ⟨rfl, hb4⟩
    have HB4 := Lib.hid (HB3.out.trans (hb4.mono HB3.out.size))
    clear hb4
    go_wp2
    go_ret
    exact ⟨rfl, HB4.out⟩
  · have HRB := Lib.hid (hvS_B l (set := set) HSP.out (by rw [← HH.out, ← HD.out]; exact hlt))
    have HRE2 := Lib.hid (show restE (hvS l (s % 8) set) (D : Int) = 0 by rw [HRE.out, if_neg hlt])
    rw [← HD.out] at HRB
    rw [HRB.out, HRE2.out] at HCR
    go_wp2_with fail
    refine HCR.out.mono ?_
    rintro e w3 ⟨v4, rfl, ho4, hb3⟩
    rw [← HD.out] at ho4
    obtain ⟨A4, c4, rfl, hy4, _⟩ := lst_own ho4
    have HY4 := Lib.hid hy4
    have HY13 := Lib.hid (HY12.out.below hb3)
    have HB3 := Lib.hid (HB2.out.trans (hb3.mono HB2.out.size))
    clear ho4 hb3 hy4
    go_wp2_with fail
    refine (same_s _ A4 D c4 (evn l) A1 D c1 (evn l) HY4.out HY13.out).mono ?_
    rw [decide_eq_true (rfl : evn l = evn l)]
    rintro e w5 ⟨rfl, hd5⟩
    have HB5 := Lib.hid (HB3.out.trans (hd5.below _))
    clear hd5
    go_wp2_with fail
    refine (awake_e _).mono ?_
    rintro e w4 ⟨rfl, hb4⟩
    have HB4 := Lib.hid (HB5.out.trans (hb4.mono HB5.out.size))
    clear hb4
    go_wp2
    go_ret
    exact ⟨rfl, HB4.out⟩

end ErasureRecovers
end Go.Proofs.Ytpljpceldlaphaa
