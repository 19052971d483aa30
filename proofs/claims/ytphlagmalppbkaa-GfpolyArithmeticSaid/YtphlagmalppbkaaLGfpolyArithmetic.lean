/- The law GfpolyArithmetic of stelelaw06 returns true for every input, and every argument reads behind the call as it read before. No conditions. -/
import Derived.Test.YtphlagmalppbkaaPx
import Derived.Test.YtphlagmalppbkaaPk
import Derived.ProofKit
import Derived.OpenShut
import Derived.ShutString
import Derived.ChangeOld
namespace Go.Proofs.Ytphlagmalppbkaa
namespace GfpolyArithmetic
open Go.RowKit

set_option maxRecDepth 100000 in
set_option maxHeartbeats 4000000 in
theorem core (w : World) (Ap : Option Addr) (np cp : Nat) (p : List UInt8) (Aq : Option Addr) (nq cq : Nat) (q : List UInt8) (x : UInt8) (hp : Byt w Ap np cp p) (hq : Byt w Aq nq cq q) :
    Calls Try.prog 6 #[.slice Ap np cp, .slice Aq nq cq, .int .u8 (x.toNat : Int)] w fun e w' => e = .returned (.bool true) ∧ Below w.heap.size w w' := by
  have HSL := Lib.hid (show Sl (w.alloc (.cells #[.slice Ap np cp, .slice Aq nq cq] 22)) 1 (some ⟨w.heap.size, 0, none⟩) 2 2 ([(Ap, np, cp), (Aq, nq, cq)].map sv) from Blk.sl (size := 1) (n := 2) (Blk.new w 22 #[.slice Ap np cp, .slice Aq nq cq]) rfl (by unfold maxLen; omega))
  have HLE := Lib.hid (show ∀ x ∈ [(Ap, np, cp), (Aq, nq, cq)], x.2.1 ≤ maxLen by simp; exact ⟨hp.le_max, hq.le_max⟩)
  have HB0 := Lib.hid ((Below.refl w.heap.size w).alloc (Nat.le_refl _) (.cells #[.slice Ap np cp, .slice Aq nq cq] 22))
  have hlcp : np ≤ cp := hp.1
  have hcmp : cp ≤ 9223372036854775807 := hp.2.1
  have hlnp := hp.len
  have Hp_0 := Lib.hid (hp.alloc (.cells #[.slice Ap np cp, .slice Aq nq cq] 22))
  have hlcq : nq ≤ cq := hq.1
  have hcmq : cq ≤ 9223372036854775807 := hq.2.1
  have hlnq := hq.len
  have Hq_0 := Lib.hid (hq.alloc (.cells #[.slice Ap np cp, .slice Aq nq cq] 22))
  by_cases hs : np ≤ 60 ∧ nq ≤ 60
  · obtain ⟨hsp, hsq⟩ := hs
    have HT := Lib.hid (show allLe 60 [(Ap, np, cp), (Aq, nq, cq)] = true by simp [allLe]; omega)
    have hlp : p.length ≤ 60 := by omega
    have HLp := Lib.hid hlnp
    have hlq : q.length ≤ 60 := by omega
    have HLq := Lib.hid hlnq
    clear hp hlnp hq hlnq
    go_enter Try.func6, Try.ntmps6
    go_wp2_with fail
    refine (small_b _ _ 2 2 60 [(Ap, np, cp), (Aq, nq, cq)] HSL.out HLE.out).mono ?_
    rw [HT.out]
    rintro e w' ⟨rfl, rfl⟩
    go_wp2_with fail
    refine (trim_b _ Ap np cp p Hp_0.out (by omega)).mono ?_
    rintro e w1 ⟨v1, rfl, ho1, hb1⟩
    obtain ⟨A1, c1, rfl, hy1, _⟩ := byt_own ho1
    have HB1 := Lib.hid (HB0.out.trans (hb1.mono HB0.out.size))
    have Hp_1 := Lib.hid (Hp_0.out.below hb1)
    have Hq_1 := Lib.hid (Hq_0.out.below hb1)
    have Hr1_1 := Lib.hid hy1
    clear ho1 hb1 hy1
    go_wp2_with fail
    refine (rtrim_b _ Ap np cp p Hp_1.out (by omega)).mono ?_
    rintro e w2 ⟨v2, rfl, ho2, hb2⟩
    obtain ⟨A2, c2, rfl, hy2, _⟩ := byt_own ho2
    have HB2 := Lib.hid (HB1.out.trans (hb2.mono HB1.out.size))
    have Hp_2 := Lib.hid (Hp_1.out.below hb2)
    have Hq_2 := Lib.hid (Hq_1.out.below hb2)
    have Hr1_2 := Lib.hid (Hr1_1.out.below hb2)
    have Hr2_2 := Lib.hid hy2
    clear ho2 hb2 hy2
    go_wp2_with fail
    refine (same_b _ A1 _ c1 (trim p) A2 _ c2 (trim p) Hr1_2.out Hr2_2.out).mono ?_
    rw [show ((trim p) == (trim p)) = true from beq_iff_eq.2 (rfl)]
    rintro e w3 ⟨rfl, rfl⟩
    go_wp2_with fail
    refine (padd_b _ Ap np cp p Aq nq cq q Hp_2.out Hq_2.out (by omega) (by omega)).mono ?_
    rintro e w4 ⟨v4, rfl, ho4, hb4⟩
    obtain ⟨A4, c4, rfl, hy4, _⟩ := byt_own ho4
    have HB4 := Lib.hid (HB2.out.trans (hb4.mono HB2.out.size))
    have Hp_4 := Lib.hid (Hp_2.out.below hb4)
    have Hq_4 := Lib.hid (Hq_2.out.below hb4)
    have Hr1_4 := Lib.hid hy4
    clear ho4 hb4 hy4
    go_wp2_with fail
    refine (rpadd_b _ Ap np cp p Aq nq cq q Hp_4.out Hq_4.out (by omega) (by omega)).mono ?_
    rintro e w5 ⟨v5, rfl, ho5, hb5⟩
    obtain ⟨A5, c5, rfl, hy5, _⟩ := byt_own ho5
    have HB5 := Lib.hid (HB4.out.trans (hb5.mono HB4.out.size))
    have Hp_5 := Lib.hid (Hp_4.out.below hb5)
    have Hq_5 := Lib.hid (Hq_4.out.below hb5)
    have Hr1_5 := Lib.hid (Hr1_4.out.below hb5)
    have Hr2_5 := Lib.hid hy5
    clear ho5 hb5 hy5
    go_wp2_with fail
    refine (same_b _ A4 _ c4 (padd p q) A5 _ c5 (padd p q) Hr1_5.out Hr2_5.out).mono ?_
    rw [show ((padd p q) == (padd p q)) = true from beq_iff_eq.2 (rfl)]
    rintro e w6 ⟨rfl, rfl⟩
    go_wp2_with fail
    refine (pder_b _ Ap np cp p Hp_5.out (by omega)).mono ?_
    rintro e w7 ⟨v7, rfl, ho7, hb7⟩
    obtain ⟨A7, c7, rfl, hy7, _⟩ := byt_own ho7
    have HB7 := Lib.hid (HB5.out.trans (hb7.mono HB5.out.size))
    have Hp_7 := Lib.hid (Hp_5.out.below hb7)
    have Hq_7 := Lib.hid (Hq_5.out.below hb7)
    have Hr1_7 := Lib.hid hy7
    clear ho7 hb7 hy7
    go_wp2_with fail
    refine (rpder_b _ Ap np cp p Hp_7.out (by omega)).mono ?_
    rintro e w8 ⟨v8, rfl, ho8, hb8⟩
    obtain ⟨A8, c8, rfl, hy8, _⟩ := byt_own ho8
    have HB8 := Lib.hid (HB7.out.trans (hb8.mono HB7.out.size))
    have Hp_8 := Lib.hid (Hp_7.out.below hb8)
    have Hq_8 := Lib.hid (Hq_7.out.below hb8)
    have Hr1_8 := Lib.hid (Hr1_7.out.below hb8)
    have Hr2_8 := Lib.hid hy8
    clear ho8 hb8 hy8
    go_wp2_with fail
    refine (same_b _ A7 _ c7 (pder p) A8 _ c8 (pder p) Hr1_8.out Hr2_8.out).mono ?_
    rw [show ((pder p) == (pder p)) = true from beq_iff_eq.2 (rfl)]
    rintro e w9 ⟨rfl, rfl⟩
    go_wp2_with fail
    refine (eval_b _ Ap np cp p x Hp_8.out).mono ?_
    rintro e w10 ⟨rfl, hd10⟩
    have HB10 := Lib.hid (HB8.out.trans (hd10.below _))
    have Hp_10 := Lib.hid (Hp_8.out.below (hd10.below _))
    have Hq_10 := Lib.hid (Hq_8.out.below (hd10.below _))
    clear hd10
    go_wp2_with fail
    refine (reval_b _ Ap np cp p x Hp_10.out).mono ?_
    rw [rev_ev]
    rintro e w11 ⟨rfl, rfl⟩
    go_wp2_with fail
    refine (awake_b _).mono ?_
    rintro e w12 ⟨rfl, hb12⟩
    have HB12 := Lib.hid (HB10.out.trans (hb12.mono HB10.out.size))
    clear hb12
    go_wp2
    go_ret
    exact ⟨rfl, HB12.out⟩
  · have HT := Lib.hid (show allLe 60 [(Ap, np, cp), (Aq, nq, cq)] = false by simp [allLe]; omega)
    clear hp hlnp hq hlnq hs
    go_enter Try.func6, Try.ntmps6
    go_wp2_with fail
    refine (small_b _ _ 2 2 60 [(Ap, np, cp), (Aq, nq, cq)] HSL.out HLE.out).mono ?_
    rw [HT.out]
    rintro e w' ⟨rfl, rfl⟩
    go_wp2_with fail
    refine (awake_b _).mono ?_
    rintro e w1 ⟨rfl, hb⟩
    have HB := Lib.hid (HB0.out.trans (hb.mono HB0.out.size))
    clear hb
    go_wp2
    go_ret
    exact ⟨rfl, HB.out⟩

end GfpolyArithmetic
end Go.Proofs.Ytphlagmalppbkaa
