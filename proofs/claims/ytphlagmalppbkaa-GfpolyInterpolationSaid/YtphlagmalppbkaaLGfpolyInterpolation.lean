/- The law GfpolyInterpolation of stelelaw06 returns true for every input, and every argument reads behind the call as it read before. No conditions. -/
import Derived.Test.YtphlagmalppbkaaPt
import Derived.Test.YtphlagmalppbkaaPk
import Derived.ProofKit
import Derived.OpenShut
import Derived.ShutString
import Derived.ChangeOld
namespace Go.Proofs.Ytphlagmalppbkaa
namespace GfpolyInterpolation
open Go.RowKit

set_option maxRecDepth 100000 in
set_option maxHeartbeats 4000000 in
theorem core (w : World) (Ap : Option Addr) (np cp : Nat) (p : List UInt8) (Aq : Option Addr) (nq cq : Nat) (q : List UInt8) (hp : Byt w Ap np cp p) (hq : Byt w Aq nq cq q) :
    Calls Try.prog 3 #[.slice Ap np cp, .slice Aq nq cq] w fun e w' => e = .returned (.bool true) ∧ Below w.heap.size w w' := by
  have HSL := Lib.hid (show Sl (w.alloc (.cells #[.slice Ap np cp, .slice Aq nq cq] 22)) 1 (some ⟨w.heap.size, 0, none⟩) 2 2 ([(Ap, np, cp), (Aq, nq, cq)].map sv) from Blk.sl (size := 1) (n := 2) (Blk.new w 22 #[.slice Ap np cp, .slice Aq nq cq]) rfl (by unfold maxLen; omega))
  have HLE := Lib.hid (show ∀ x ∈ [(Ap, np, cp), (Aq, nq, cq)], x.2.1 ≤ maxLen by simp; exact ⟨hp.le_max, hq.le_max⟩)
  have HB0 := Lib.hid ((Below.refl w.heap.size w).alloc (Nat.le_refl _) (.cells #[.slice Ap np cp, .slice Aq nq cq] 22))
  have hlcp : np ≤ cp := hp.1
  have hcmp : cp ≤ 9223372036854775807 := hp.2.1
  have hlnp := hp.len
  have Hp_0 := Lib.hid (hp.alloc (.cells #[.slice Ap np cp, .slice Aq nq cq] 22))
  have hlcq : nq ≤ cq := hq.1
  have hcmq : cq ≤ 9223372036854775807 := hq.2.1
  have hlnq := hq.len
  have Hq_0 := Lib.hid (hq.alloc (.cells #[.slice Ap np cp, .slice Aq nq cq] 22))
  by_cases hs : np ≤ 12 ∧ nq ≤ 12
  · obtain ⟨hsp, hsq⟩ := hs
    have HT := Lib.hid (show allLe 12 [(Ap, np, cp), (Aq, nq, cq)] = true by simp [allLe]; omega)
    have hlp : p.length ≤ 12 := by omega
    have HLp := Lib.hid hlnp
    have hlq : q.length ≤ 12 := by omega
    have HLq := Lib.hid hlnq
    clear hp hlnp hq hlnq
    go_enter Try.func3, Try.ntmps3
    go_wp2_with fail
    refine (small_b _ _ 2 2 12 [(Ap, np, cp), (Aq, nq, cq)] HSL.out HLE.out).mono ?_
    rw [HT.out]
    rintro e w' ⟨rfl, rfl⟩
    obtain ⟨o, er, hip⟩ : ∃ o er, ipRun p q = (o, er) := ⟨_, _, rfl⟩
    have HIP := Lib.hid hip
    have HRIP := Lib.hid ((rip_ip p q).trans hip)
    clear hip
    go_wp2_with fail
    refine (interp_b _ Ap np cp p Aq nq cq q Hp_0.out Hq_0.out (by omega)).mono ?_
    rw [HIP.out]
    rintro e w1 ⟨v1, rfl, ho1, hb1⟩
    obtain ⟨A1, c1, rfl, hy1, _⟩ := byt_own ho1
    have HB1 := Lib.hid (HB0.out.trans (hb1.mono HB0.out.size))
    have Hp_1 := Lib.hid (Hp_0.out.below hb1)
    have Hq_1 := Lib.hid (Hq_0.out.below hb1)
    have Ha_1 := Lib.hid hy1
    clear ho1 hb1 hy1
    go_wp2_with fail
    refine (rinterp_b _ Ap np cp p Aq nq cq q Hp_1.out Hq_1.out (by omega)).mono ?_
    rw [HRIP.out]
    rintro e w2 ⟨v2, rfl, ho2, hb2⟩
    obtain ⟨A2, c2, rfl, hy2, _⟩ := byt_own ho2
    have HB2 := Lib.hid (HB1.out.trans (hb2.mono HB1.out.size))
    have Hp_2 := Lib.hid (Hp_1.out.below hb2)
    have Hq_2 := Lib.hid (Hq_1.out.below hb2)
    have Ha_2 := Lib.hid (Ha_1.out.below hb2)
    have Hb_2 := Lib.hid hy2
    clear ho2 hb2 hy2
    go_wp2_with fail
    refine (same_b _ A1 _ c1 (o) A2 _ c2 (o) Ha_2.out Hb_2.out).mono ?_
    rw [show ((o) == (o)) = true from beq_iff_eq.2 (rfl)]
    rintro e w3 ⟨rfl, rfl⟩
    go_wp2_with fail
    refine (awake_b _).mono ?_
    rintro e w4 ⟨rfl, hb4⟩
    have HB4 := Lib.hid (HB2.out.trans (hb4.mono HB2.out.size))
    clear hb4
    go_wp2
    go_ret
    exact ⟨rfl, HB4.out⟩
  · have HT := Lib.hid (show allLe 12 [(Ap, np, cp), (Aq, nq, cq)] = false by simp [allLe]; omega)
    clear hp hlnp hq hlnq hs
    go_enter Try.func3, Try.ntmps3
    go_wp2_with fail
    refine (small_b _ _ 2 2 12 [(Ap, np, cp), (Aq, nq, cq)] HSL.out HLE.out).mono ?_
    rw [HT.out]
    rintro e w' ⟨rfl, rfl⟩
    go_wp2_with fail
    refine (awake_b _).mono ?_
    rintro e w1 ⟨rfl, hb⟩
    have HB := Lib.hid (HB0.out.trans (hb.mono HB0.out.size))
    clear hb
    go_wp2
    go_ret
    exact ⟨rfl, HB.out⟩

end GfpolyInterpolation
end Go.Proofs.Ytphlagmalppbkaa
