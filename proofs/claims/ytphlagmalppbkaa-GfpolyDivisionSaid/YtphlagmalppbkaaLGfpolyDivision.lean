/- The law GfpolyDivision of stelelaw06 returns true for every input, and every argument reads behind the call as it read before. No conditions. -/
import Derived.Test.YtphlagmalppbkaaPj
import Derived.Test.YtphlagmalppbkaaPk
import Derived.ProofKit
import Derived.OpenShut
import Derived.ShutString
import Derived.ChangeOld
namespace Go.Proofs.Ytphlagmalppbkaa
namespace GfpolyDivision
open Go.RowKit

set_option maxRecDepth 100000 in
set_option maxHeartbeats 4000000 in
theorem core (w : World) (Ap : Option Addr) (np cp : Nat) (p : List UInt8) (Aq : Option Addr) (nq cq : Nat) (q : List UInt8) (hp : Byt w Ap np cp p) (hq : Byt w Aq nq cq q) :
    Calls Try.prog 9 #[.slice Ap np cp, .slice Aq nq cq] w fun e w' => e = .returned (.bool true) ∧ Below w.heap.size w w' := by
  have HSL := Lib.hid (show Sl (w.alloc (.cells #[.slice Ap np cp, .slice Aq nq cq] 22)) 1 (some ⟨w.heap.size, 0, none⟩) 2 2 ([(Ap, np, cp), (Aq, nq, cq)].map sv) from Blk.sl (size := 1) (n := 2) (Blk.new w 22 #[.slice Ap np cp, .slice Aq nq cq]) rfl (by unfold maxLen; omega))
  have HLE := Lib.hid (show ∀ x ∈ [(Ap, np, cp), (Aq, nq, cq)], x.2.1 ≤ maxLen by simp; exact ⟨hp.le_max, hq.le_max⟩)
  have HB0 := Lib.hid ((Below.refl w.heap.size w).alloc (Nat.le_refl _) (.cells #[.slice Ap np cp, .slice Aq nq cq] 22))
  have hlcp : np ≤ cp := hp.1
  have hcmp : cp ≤ 9223372036854775807 := hp.2.1
  have hlnp := hp.len
  have Hp_0 := Lib.hid (hp.alloc (.cells #[.slice Ap np cp, .slice Aq nq cq] 22))
  have hlcq : nq ≤ cq := hq.1
  have hcmq : cq ≤ 9223372036854775807 := hq.2.1
  have hlnq := hq.len
  have Hq_0 := Lib.hid (hq.alloc (.cells #[.slice Ap np cp, .slice Aq nq cq] 22))
  by_cases hs : np ≤ 40 ∧ nq ≤ 40
  · obtain ⟨hsp, hsq⟩ := hs
    have HT := Lib.hid (show allLe 40 [(Ap, np, cp), (Aq, nq, cq)] = true by simp [allLe]; omega)
    have hlp : p.length ≤ 40 := by omega
    have HLp := Lib.hid hlnp
    have hlq : q.length ≤ 40 := by omega
    have HLq := Lib.hid hlnq
    clear hp hlnp hq hlnq
    go_enter Try.func9, Try.ntmps9
    go_wp2_with fail
    refine (small_b _ _ 2 2 40 [(Ap, np, cp), (Aq, nq, cq)] HSL.out HLE.out).mono ?_
    rw [HT.out]
    rintro e w' ⟨rfl, rfl⟩
    by_cases hz : trim q = []
    · have HZ := Lib.hid hz
      clear hz
      go_wp2_with fail
      refine (divno_b _ Ap np cp p Aq nq cq q Hp_0.out Hq_0.out (HZ.out) (by omega) (by omega)).mono ?_
      rintro e w1 ⟨va1, vb1, rfl, hoa1, hob1, hb1⟩
      obtain ⟨A1a, c1a, rfl, hya1, _⟩ := byt_own hoa1
      obtain ⟨A1b, c1b, rfl, hyb1, _⟩ := byt_own hob1
      have HB1 := Lib.hid (HB0.out.trans (hb1.mono HB0.out.size))
      have Hp_1 := Lib.hid (Hp_0.out.below hb1)
      have Hq_1 := Lib.hid (Hq_0.out.below hb1)
      have Ha_1 := Lib.hid hya1
      have Hb_1 := Lib.hid hyb1
      clear hoa1 hob1 hb1 hya1 hyb1
      go_wp2_with fail
      refine (trim_b _ Aq nq cq q Hq_1.out (by omega)).mono ?_
      rw [HZ.out]
      rintro e w2 ⟨v2, rfl, ho2, hb2⟩
      obtain ⟨A2, c2, rfl, hy2, _⟩ := byt_own ho2
      have HB2 := Lib.hid (HB1.out.trans (hb2.mono HB1.out.size))
      have Hp_2 := Lib.hid (Hp_1.out.below hb2)
      have Hq_2 := Lib.hid (Hq_1.out.below hb2)
      have Ha_2 := Lib.hid (Ha_1.out.below hb2)
      have Hb_2 := Lib.hid (Hb_1.out.below hb2)
      have Ht_2 := Lib.hid hy2
      clear ho2 hb2 hy2
      go_wp2_with fail
      refine (awake_b _).mono ?_
      rintro e w3 ⟨rfl, hb3⟩
      have HB3 := Lib.hid (HB2.out.trans (hb3.mono HB2.out.size))
      clear hb3
      go_wp2
      go_ret
      exact ⟨rfl, HB3.out⟩
    · have HZ := Lib.hid hz
      have hlr := prem_length p q hz
      have hld := pquo_length p q hz (by omega)
      have hlt := trim_length q
      have hbz : (((trim q).length : Int) == 0) = false := by rw [beq_eq_false_iff_ne]; omega
      clear hz
      go_wp2_with fail
      refine (divyes_b _ Ap np cp p Aq nq cq q Hp_0.out Hq_0.out (HZ.out) (by omega) (by omega)).mono ?_
      rintro e w1 ⟨va1, vb1, rfl, hoa1, hob1, hb1⟩
      obtain ⟨A1a, c1a, rfl, hya1, _⟩ := byt_own hoa1
      obtain ⟨A1b, c1b, rfl, hyb1, _⟩ := byt_own hob1
      have HB1 := Lib.hid (HB0.out.trans (hb1.mono HB0.out.size))
      have Hp_1 := Lib.hid (Hp_0.out.below hb1)
      have Hq_1 := Lib.hid (Hq_0.out.below hb1)
      have Hd_1 := Lib.hid hya1
      have Hr_1 := Lib.hid hyb1
      clear hoa1 hob1 hb1 hya1 hyb1
      go_wp2_with fail
      refine (trim_b _ Aq nq cq q Hq_1.out (by omega)).mono ?_
      rintro e w2 ⟨v2, rfl, ho2, hb2⟩
      obtain ⟨A2, c2, rfl, hy2, _⟩ := byt_own ho2
      have HB2 := Lib.hid (HB1.out.trans (hb2.mono HB1.out.size))
      have Hp_2 := Lib.hid (Hp_1.out.below hb2)
      have Hq_2 := Lib.hid (Hq_1.out.below hb2)
      have Hd_2 := Lib.hid (Hd_1.out.below hb2)
      have Hr_2 := Lib.hid (Hr_1.out.below hb2)
      have Ht_2 := Lib.hid hy2
      clear ho2 hb2 hy2
      have hlt_2 : (trim q).length ≤ 40 := by have := trim_length q; omega
      go_wp2_with fail
      refine (pmul_b _ A1a _ c1a (pquo p q) Aq nq cq q Hd_2.out Hq_2.out (by omega) (by omega)).mono ?_
      rintro e w3 ⟨v3, rfl, ho3, hb3⟩
      obtain ⟨A3, c3, rfl, hy3, _⟩ := byt_own ho3
      have HB3 := Lib.hid (HB2.out.trans (hb3.mono HB2.out.size))
      have Hp_3 := Lib.hid (Hp_2.out.below hb3)
      have Hq_3 := Lib.hid (Hq_2.out.below hb3)
      have Hd_3 := Lib.hid (Hd_2.out.below hb3)
      have Hr_3 := Lib.hid (Hr_2.out.below hb3)
      have Ht_3 := Lib.hid (Ht_2.out.below hb3)
      have Hm_3 := Lib.hid hy3
      clear ho3 hb3 hy3
      have hlm_3 : (pmul (pquo p q) q).length ≤ 168 := by have := pmul_length (pquo p q) q; omega
      go_wp2_with fail
      refine (padd_b _ A3 _ c3 (pmul (pquo p q) q) A1b _ c1b (prem p q) Hm_3.out Hr_3.out (by omega) (by omega)).mono ?_
      rintro e w4 ⟨v4, rfl, ho4, hb4⟩
      obtain ⟨A4, c4, rfl, hy4, _⟩ := byt_own ho4
      have HB4 := Lib.hid (HB3.out.trans (hb4.mono HB3.out.size))
      have Hp_4 := Lib.hid (Hp_3.out.below hb4)
      have Hq_4 := Lib.hid (Hq_3.out.below hb4)
      have Hd_4 := Lib.hid (Hd_3.out.below hb4)
      have Hr_4 := Lib.hid (Hr_3.out.below hb4)
      have Ht_4 := Lib.hid (Ht_3.out.below hb4)
      have Hm_4 := Lib.hid (Hm_3.out.below hb4)
      have Hs_4 := Lib.hid hy4
      clear ho4 hb4 hy4
      have hls_4 : (padd (pmul (pquo p q) q) (prem p q)).length ≤ 168 := by have := padd_length (pmul (pquo p q) q) (prem p q); omega
      go_wp2_with fail
      refine (trim_b _ Ap np cp p Hp_4.out (by omega)).mono ?_
      rintro e w5 ⟨v5, rfl, ho5, hb5⟩
      obtain ⟨A5, c5, rfl, hy5, _⟩ := byt_own ho5
      have HB5 := Lib.hid (HB4.out.trans (hb5.mono HB4.out.size))
      have Hp_5 := Lib.hid (Hp_4.out.below hb5)
      have Hq_5 := Lib.hid (Hq_4.out.below hb5)
      have Hd_5 := Lib.hid (Hd_4.out.below hb5)
      have Hr_5 := Lib.hid (Hr_4.out.below hb5)
      have Ht_5 := Lib.hid (Ht_4.out.below hb5)
      have Hm_5 := Lib.hid (Hm_4.out.below hb5)
      have Hs_5 := Lib.hid (Hs_4.out.below hb5)
      have Hu_5 := Lib.hid hy5
      clear ho5 hb5 hy5
      have hlu_5 : (trim p).length ≤ 40 := by have := trim_length p; omega
      go_wp2_with fail
      refine (same_b _ A4 _ c4 (padd (pmul (pquo p q) q) (prem p q)) A5 _ c5 (trim p) Hs_5.out Hu_5.out).mono ?_
      rw [show ((padd (pmul (pquo p q) q) (prem p q)) == (trim p)) = true from beq_iff_eq.2 (div_back p q HZ.out)]
      rintro e w6 ⟨rfl, rfl⟩
      go_wp2_with fail
      refine (trim_b _ A1a _ c1a (pquo p q) Hd_5.out (by omega)).mono ?_
      rintro e w7 ⟨v7, rfl, ho7, hb7⟩
      obtain ⟨A7, c7, rfl, hy7, _⟩ := byt_own ho7
      have HB7 := Lib.hid (HB5.out.trans (hb7.mono HB5.out.size))
      have Hp_7 := Lib.hid (Hp_5.out.below hb7)
      have Hq_7 := Lib.hid (Hq_5.out.below hb7)
      have Hd_7 := Lib.hid (Hd_5.out.below hb7)
      have Hr_7 := Lib.hid (Hr_5.out.below hb7)
      have Ht_7 := Lib.hid (Ht_5.out.below hb7)
      have Hs_7 := Lib.hid hy7
      clear ho7 hb7 hy7
      have hls_7 : (trim (pquo p q)).length ≤ 128 := by have := trim_length (pquo p q); omega
      go_wp2_with fail
      refine (same_b _ A7 _ c7 (trim (pquo p q)) A1a _ c1a (pquo p q) Hs_7.out Hd_7.out).mono ?_
      rw [show ((trim (pquo p q)) == (pquo p q)) = true from beq_iff_eq.2 (trim_pquo p q HZ.out)]
      rintro e w8 ⟨rfl, rfl⟩
      go_wp2_with fail
      refine (trim_b _ A1b _ c1b (prem p q) Hr_7.out (by omega)).mono ?_
      rintro e w9 ⟨v9, rfl, ho9, hb9⟩
      obtain ⟨A9, c9, rfl, hy9, _⟩ := byt_own ho9
      have HB9 := Lib.hid (HB7.out.trans (hb9.mono HB7.out.size))
      have Hp_9 := Lib.hid (Hp_7.out.below hb9)
      have Hq_9 := Lib.hid (Hq_7.out.below hb9)
      have Hd_9 := Lib.hid (Hd_7.out.below hb9)
      have Hr_9 := Lib.hid (Hr_7.out.below hb9)
      have Ht_9 := Lib.hid (Ht_7.out.below hb9)
      have Hs_9 := Lib.hid (Hs_7.out.below hb9)
      have Hu_9 := Lib.hid hy9
      clear ho9 hb9 hy9
      have hlu_9 : (trim (prem p q)).length ≤ 40 := by have := trim_length (prem p q); omega
      go_wp2_with fail
      refine (same_b _ A9 _ c9 (trim (prem p q)) A1b _ c1b (prem p q) Hu_9.out Hr_9.out).mono ?_
      rw [show ((trim (prem p q)) == (prem p q)) = true from beq_iff_eq.2 (trim_prem p q HZ.out)]
      rintro e w10 ⟨rfl, rfl⟩
      go_wp2_with fail
      refine (awake_b _).mono ?_
      rintro e w11 ⟨rfl, hb11⟩
      have HB11 := Lib.hid (HB9.out.trans (hb11.mono HB9.out.size))
      clear hb11
      go_wp2
      go_ret
      exact ⟨rfl, HB11.out⟩
  · have HT := Lib.hid (show allLe 40 [(Ap, np, cp), (Aq, nq, cq)] = false by simp [allLe]; omega)
    clear hp hlnp hq hlnq hs
    go_enter Try.func9, Try.ntmps9
    go_wp2_with fail
    refine (small_b _ _ 2 2 40 [(Ap, np, cp), (Aq, nq, cq)] HSL.out HLE.out).mono ?_
    rw [HT.out]
    rintro e w' ⟨rfl, rfl⟩
    go_wp2_with fail
    refine (awake_b _).mono ?_
    rintro e w1 ⟨rfl, hb⟩
    have HB := Lib.hid (HB0.out.trans (hb.mono HB0.out.size))
    clear hb
    go_wp2
    go_ret
    exact ⟨rfl, HB.out⟩

end GfpolyDivision
end Go.Proofs.Ytphlagmalppbkaa
