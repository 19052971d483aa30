/- The law GfpolyProductRule of stelelaw06 returns true for every input, and every argument reads behind the call as it read before. No conditions. -/
import Derived.Test.YtphlagmalppbkaaPz
import Derived.Test.YtphlagmalppbkaaPk
import Derived.ProofKit
import Derived.OpenShut
import Derived.ShutString
import Derived.ChangeOld
namespace Go.Proofs.Ytphlagmalppbkaa
namespace GfpolyProductRule
open Go.RowKit

set_option maxRecDepth 100000 in
set_option maxHeartbeats 4000000 in
theorem core (w : World) (Ap : Option Addr) (np cp : Nat) (p : List UInt8) (Aq : Option Addr) (nq cq : Nat) (q : List UInt8) (hp : Byt w Ap np cp p) (hq : Byt w Aq nq cq q) :
    Calls Try.prog 7 #[.slice Ap np cp, .slice Aq nq cq] w fun e w' => e = .returned (.bool true) ∧ Below w.heap.size w w' := by
  have HSL := Lib.hid (show Sl (w.alloc (.cells #[.slice Ap np cp, .slice Aq nq cq] 22)) 1 (some ⟨w.heap.size, 0, none⟩) 2 2 ([(Ap, np, cp), (Aq, nq, cq)].map sv) from Blk.sl (size := 1) (n := 2) (Blk.new w 22 #[.slice Ap np cp, .slice Aq nq cq]) rfl (by unfold maxLen; omega))
  have HLE := Lib.hid (show ∀ x ∈ [(Ap, np, cp), (Aq, nq, cq)], x.2.1 ≤ maxLen by simp; exact ⟨hp.le_max, hq.le_max⟩)
  have HB0 := Lib.hid ((Below.refl w.heap.size w).alloc (Nat.le_refl _) (.cells #[.slice Ap np cp, .slice Aq nq cq] 22))
  have hlcp : np ≤ cp := hp.1
  have hcmp : cp ≤ 9223372036854775807 := hp.2.1
  have hlnp := hp.len
  have Hp_0 := Lib.hid (hp.alloc (.cells #[.slice Ap np cp, .slice Aq nq cq] 22))
  have hlcq : nq ≤ cq := hq.1
  have hcmq : cq ≤ 9223372036854775807 := hq.2.1
  have hlnq := hq.len
  have Hq_0 := Lib.hid (hq.alloc (.cells #[.slice Ap np cp, .slice Aq nq cq] 22))
  by_cases hs : np ≤ 30 ∧ nq ≤ 30
  · obtain ⟨hsp, hsq⟩ := hs
    have HT := Lib.hid (show allLe 30 [(Ap, np, cp), (Aq, nq, cq)] = true by simp [allLe]; omega)
    have hlp : p.length ≤ 30 := by omega
    have HLp := Lib.hid hlnp
    have hlq : q.length ≤ 30 := by omega
    have HLq := Lib.hid hlnq
    clear hp hlnp hq hlnq
    go_enter Try.func7, Try.ntmps7
    go_wp2_with fail
    refine (small_b _ _ 2 2 30 [(Ap, np, cp), (Aq, nq, cq)] HSL.out HLE.out).mono ?_
    rw [HT.out]
    rintro e w' ⟨rfl, rfl⟩
    go_wp2_with fail
    refine (pder_b _ Ap np cp p Hp_0.out (by omega)).mono ?_
    rintro e w1 ⟨v1, rfl, ho1, hb1⟩
    obtain ⟨A1, c1, rfl, hy1, _⟩ := byt_own ho1
    have HB1 := Lib.hid (HB0.out.trans (hb1.mono HB0.out.size))
    have Hp_1 := Lib.hid (Hp_0.out.below hb1)
    have Hq_1 := Lib.hid (Hq_0.out.below hb1)
    have Hdp_1 := Lib.hid hy1
    clear ho1 hb1 hy1
    have hldp_1 : (pder p).length ≤ 30 := by have := pder_length p; omega
    go_wp2_with fail
    refine (pder_b _ Aq nq cq q Hq_1.out (by omega)).mono ?_
    rintro e w2 ⟨v2, rfl, ho2, hb2⟩
    obtain ⟨A2, c2, rfl, hy2, _⟩ := byt_own ho2
    have HB2 := Lib.hid (HB1.out.trans (hb2.mono HB1.out.size))
    have Hp_2 := Lib.hid (Hp_1.out.below hb2)
    have Hq_2 := Lib.hid (Hq_1.out.below hb2)
    have Hdp_2 := Lib.hid (Hdp_1.out.below hb2)
    have Hdq_2 := Lib.hid hy2
    clear ho2 hb2 hy2
    have hldq_2 : (pder q).length ≤ 30 := by have := pder_length q; omega
    go_wp2_with fail
    refine (pmul_b _ A1 _ c1 (pder p) Aq nq cq q Hdp_2.out Hq_2.out (by omega) (by omega)).mono ?_
    rintro e w3 ⟨v3, rfl, ho3, hb3⟩
    obtain ⟨A3, c3, rfl, hy3, _⟩ := byt_own ho3
    have HB3 := Lib.hid (HB2.out.trans (hb3.mono HB2.out.size))
    have Hp_3 := Lib.hid (Hp_2.out.below hb3)
    have Hq_3 := Lib.hid (Hq_2.out.below hb3)
    have Hdp_3 := Lib.hid (Hdp_2.out.below hb3)
    have Hdq_3 := Lib.hid (Hdq_2.out.below hb3)
    have Ha_3 := Lib.hid hy3
    clear ho3 hb3 hy3
    have hla_3 : (pmul (pder p) q).length ≤ 60 := by have := pmul_length (pder p) q; omega
    go_wp2_with fail
    refine (pmul_b _ Ap np cp p A2 _ c2 (pder q) Hp_3.out Hdq_3.out (by omega) (by omega)).mono ?_
    rintro e w4 ⟨v4, rfl, ho4, hb4⟩
    obtain ⟨A4, c4, rfl, hy4, _⟩ := byt_own ho4
    have HB4 := Lib.hid (HB3.out.trans (hb4.mono HB3.out.size))
    have Hp_4 := Lib.hid (Hp_3.out.below hb4)
    have Hq_4 := Lib.hid (Hq_3.out.below hb4)
    have Hdp_4 := Lib.hid (Hdp_3.out.below hb4)
    have Hdq_4 := Lib.hid (Hdq_3.out.below hb4)
    have Ha_4 := Lib.hid (Ha_3.out.below hb4)
    have Hb_4 := Lib.hid hy4
    clear ho4 hb4 hy4
    have hlb_4 : (pmul p (pder q)).length ≤ 60 := by have := pmul_length p (pder q); omega
    go_wp2_with fail
    refine (padd_b _ A3 _ c3 (pmul (pder p) q) A4 _ c4 (pmul p (pder q)) Ha_4.out Hb_4.out (by omega) (by omega)).mono ?_
    rintro e w5 ⟨v5, rfl, ho5, hb5⟩
    obtain ⟨A5, c5, rfl, hy5, _⟩ := byt_own ho5
    have HB5 := Lib.hid (HB4.out.trans (hb5.mono HB4.out.size))
    have Hp_5 := Lib.hid (Hp_4.out.below hb5)
    have Hq_5 := Lib.hid (Hq_4.out.below hb5)
    have Hdp_5 := Lib.hid (Hdp_4.out.below hb5)
    have Hdq_5 := Lib.hid (Hdq_4.out.below hb5)
    have Ha_5 := Lib.hid (Ha_4.out.below hb5)
    have Hb_5 := Lib.hid (Hb_4.out.below hb5)
    have Hpr_5 := Lib.hid hy5
    clear ho5 hb5 hy5
    have hlpr_5 : (padd (pmul (pder p) q) (pmul p (pder q))).length ≤ 60 := by have := padd_length (pmul (pder p) q) (pmul p (pder q)); omega
    go_wp2_with fail
    refine (padd_b _ Ap np cp p Aq nq cq q Hp_5.out Hq_5.out (by omega) (by omega)).mono ?_
    rintro e w6 ⟨v6, rfl, ho6, hb6⟩
    obtain ⟨A6, c6, rfl, hy6, _⟩ := byt_own ho6
    have HB6 := Lib.hid (HB5.out.trans (hb6.mono HB5.out.size))
    have Hp_6 := Lib.hid (Hp_5.out.below hb6)
    have Hq_6 := Lib.hid (Hq_5.out.below hb6)
    have Hdp_6 := Lib.hid (Hdp_5.out.below hb6)
    have Hdq_6 := Lib.hid (Hdq_5.out.below hb6)
    have Hpr_6 := Lib.hid (Hpr_5.out.below hb6)
    have Ha_6 := Lib.hid hy6
    clear ho6 hb6 hy6
    have hla_6 : (padd p q).length ≤ 30 := by have := padd_length p q; omega
    go_wp2_with fail
    refine (pder_b _ A6 _ c6 (padd p q) Ha_6.out (by omega)).mono ?_
    rintro e w7 ⟨v7, rfl, ho7, hb7⟩
    obtain ⟨A7, c7, rfl, hy7, _⟩ := byt_own ho7
    have HB7 := Lib.hid (HB6.out.trans (hb7.mono HB6.out.size))
    have Hp_7 := Lib.hid (Hp_6.out.below hb7)
    have Hq_7 := Lib.hid (Hq_6.out.below hb7)
    have Hdp_7 := Lib.hid (Hdp_6.out.below hb7)
    have Hdq_7 := Lib.hid (Hdq_6.out.below hb7)
    have Hpr_7 := Lib.hid (Hpr_6.out.below hb7)
    have Ha_7 := Lib.hid (Ha_6.out.below hb7)
    have Hb_7 := Lib.hid hy7
    clear ho7 hb7 hy7
    have hlb_7 : (pder (padd p q)).length ≤ 30 := by have := pder_length (padd p q); omega
    go_wp2_with fail
    refine (padd_b _ A1 _ c1 (pder p) A2 _ c2 (pder q) Hdp_7.out Hdq_7.out (by omega) (by omega)).mono ?_
    rintro e w8 ⟨v8, rfl, ho8, hb8⟩
    obtain ⟨A8, c8, rfl, hy8, _⟩ := byt_own ho8
    have HB8 := Lib.hid (HB7.out.trans (hb8.mono HB7.out.size))
    have Hp_8 := Lib.hid (Hp_7.out.below hb8)
    have Hq_8 := Lib.hid (Hq_7.out.below hb8)
    have Hdp_8 := Lib.hid (Hdp_7.out.below hb8)
    have Hdq_8 := Lib.hid (Hdq_7.out.below hb8)
    have Hpr_8 := Lib.hid (Hpr_7.out.below hb8)
    have Ha_8 := Lib.hid (Ha_7.out.below hb8)
    have Hb_8 := Lib.hid (Hb_7.out.below hb8)
    have Hc_8 := Lib.hid hy8
    clear ho8 hb8 hy8
    have hlc_8 : (padd (pder p) (pder q)).length ≤ 30 := by have := padd_length (pder p) (pder q); omega
    go_wp2_with fail
    refine (same_b _ A7 _ c7 (pder (padd p q)) A8 _ c8 (padd (pder p) (pder q)) Hb_8.out Hc_8.out).mono ?_
    rw [show ((pder (padd p q)) == (padd (pder p) (pder q))) = true from beq_iff_eq.2 (pder_padd p q)]
    rintro e w9 ⟨rfl, rfl⟩
    go_wp2_with fail
    refine (pmul_b _ Ap np cp p Aq nq cq q Hp_8.out Hq_8.out (by omega) (by omega)).mono ?_
    rintro e w10 ⟨v10, rfl, ho10, hb10⟩
    obtain ⟨A10, c10, rfl, hy10, _⟩ := byt_own ho10
    have HB10 := Lib.hid (HB8.out.trans (hb10.mono HB8.out.size))
    have Hp_10 := Lib.hid (Hp_8.out.below hb10)
    have Hq_10 := Lib.hid (Hq_8.out.below hb10)
    have Hdp_10 := Lib.hid (Hdp_8.out.below hb10)
    have Hdq_10 := Lib.hid (Hdq_8.out.below hb10)
    have Hpr_10 := Lib.hid (Hpr_8.out.below hb10)
    have Ha_10 := Lib.hid hy10
    clear ho10 hb10 hy10
    have hla_10 : (pmul p q).length ≤ 60 := by have := pmul_length p q; omega
    go_wp2_with fail
    refine (pder_b _ A10 _ c10 (pmul p q) Ha_10.out (by omega)).mono ?_
    rintro e w11 ⟨v11, rfl, ho11, hb11⟩
    obtain ⟨A11, c11, rfl, hy11, _⟩ := byt_own ho11
    have HB11 := Lib.hid (HB10.out.trans (hb11.mono HB10.out.size))
    have Hp_11 := Lib.hid (Hp_10.out.below hb11)
    have Hq_11 := Lib.hid (Hq_10.out.below hb11)
    have Hdp_11 := Lib.hid (Hdp_10.out.below hb11)
    have Hdq_11 := Lib.hid (Hdq_10.out.below hb11)
    have Hpr_11 := Lib.hid (Hpr_10.out.below hb11)
    have Ha_11 := Lib.hid (Ha_10.out.below hb11)
    have Hb_11 := Lib.hid hy11
    clear ho11 hb11 hy11
    have hlb_11 : (pder (pmul p q)).length ≤ 60 := by have := pder_length (pmul p q); omega
    go_wp2_with fail
    refine (same_b _ A11 _ c11 (pder (pmul p q)) A5 _ c5 (padd (pmul (pder p) q) (pmul p (pder q))) Hb_11.out Hpr_11.out).mono ?_
    rw [show ((pder (pmul p q)) == (padd (pmul (pder p) q) (pmul p (pder q)))) = true from beq_iff_eq.2 (pder_pmul p q)]
    rintro e w12 ⟨rfl, rfl⟩
    go_wp2_with fail
    refine (awake_b _).mono ?_
    rintro e w13 ⟨rfl, hb13⟩
    have HB13 := Lib.hid (HB11.out.trans (hb13.mono HB11.out.size))
    clear hb13
    go_wp2
    go_ret
    exact ⟨rfl, HB13.out⟩
  · have HT := Lib.hid (show allLe 30 [(Ap, np, cp), (Aq, nq, cq)] = false by simp [allLe]; omega)
    clear hp hlnp hq hlnq hs
    go_enter Try.func7, Try.ntmps7
    go_wp2_with fail
    refine (small_b _ _ 2 2 30 [(Ap, np, cp), (Aq, nq, cq)] HSL.out HLE.out).mono ?_
    rw [HT.out]
    rintro e w' ⟨rfl, rfl⟩
    go_wp2_with fail
    refine (awake_b _).mono ?_
    rintro e w1 ⟨rfl, hb⟩
    have HB := Lib.hid (HB0.out.trans (hb.mono HB0.out.size))
    clear hb
    go_wp2
    go_ret
    exact ⟨rfl, HB.out⟩

end GfpolyProductRule
end Go.Proofs.Ytphlagmalppbkaa
