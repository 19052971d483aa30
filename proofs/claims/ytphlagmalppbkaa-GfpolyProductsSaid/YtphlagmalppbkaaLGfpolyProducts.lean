/- The law GfpolyProducts of stelelaw06 returns true for every input, and every argument reads behind the call as it read before. No conditions. -/
import Derived.Test.YtphlagmalppbkaaPj
import Derived.Test.YtphlagmalppbkaaPk
import Derived.ProofKit
import Derived.OpenShut
import Derived.ShutString
import Derived.ChangeOld
namespace Go.Proofs.Ytphlagmalppbkaa
namespace GfpolyProducts
open Go.RowKit

set_option maxRecDepth 100000 in
set_option maxHeartbeats 4000000 in
theorem core (w : World) (Ap : Option Addr) (np cp : Nat) (p : List UInt8) (Aq : Option Addr) (nq cq : Nat) (q : List UInt8) (hp : Byt w Ap np cp p) (hq : Byt w Aq nq cq q) :
    Calls Try.prog 8 #[.slice Ap np cp, .slice Aq nq cq] w fun e w' => e = .returned (.bool true) ∧ Below w.heap.size w w' := by
  have HSL := Lib.hid (show Sl (w.alloc (.cells #[.slice Ap np cp, .slice Aq nq cq] 22)) 1 (some ⟨w.heap.size, 0, none⟩) 2 2 ([(Ap, np, cp), (Aq, nq, cq)].map sv) from Blk.sl (size := 1) (n := 2) (Blk.new w 22 #[.slice Ap np cp, .slice Aq nq cq]) rfl (by unfold maxLen; omega))
  have HLE := Lib.hid (show ∀ x ∈ [(Ap, np, cp), (Aq, nq, cq)], x.2.1 ≤ maxLen by simp; exact ⟨hp.le_max, hq.le_max⟩)
  have HB0 := Lib.hid ((Below.refl w.heap.size w).alloc (Nat.le_refl _) (.cells #[.slice Ap np cp, .slice Aq nq cq] 22))
  have hlcp : np ≤ cp := hp.1
  have hcmp : cp ≤ 9223372036854775807 := hp.2.1
  have hlnp := hp.len
  have Hp_0 := Lib.hid (hp.alloc (.cells #[.slice Ap np cp, .slice Aq nq cq] 22))
  have hlcq : nq ≤ cq := hq.1
  have hcmq : cq ≤ 9223372036854775807 := hq.2.1
  have hlnq := hq.len
  have Hq_0 := Lib.hid (hq.alloc (.cells #[.slice Ap np cp, .slice Aq nq cq] 22))
  by_cases hs : np ≤ 30 ∧ nq ≤ 30
  · obtain ⟨hsp, hsq⟩ := hs
    have HT := Lib.hid (show allLe 30 [(Ap, np, cp), (Aq, nq, cq)] = true by simp [allLe]; omega)
    have hlp : p.length ≤ 30 := by omega
    have HLp := Lib.hid hlnp
    have hlq : q.length ≤ 30 := by omega
    have HLq := Lib.hid hlnq
    clear hp hlnp hq hlnq
    go_enter Try.func8, Try.ntmps8
    go_wp2_with fail
    refine (small_b _ _ 2 2 30 [(Ap, np, cp), (Aq, nq, cq)] HSL.out HLE.out).mono ?_
    rw [HT.out]
    rintro e w' ⟨rfl, rfl⟩
    by_cases hz : trim q = []
    · have HZ := Lib.hid hz
      clear hz
      go_wp2_with fail
      refine (divno_b _ Ap np cp p Aq nq cq q Hp_0.out Hq_0.out (HZ.out) (by omega) (by omega)).mono ?_
      rintro e w1 ⟨va1, vb1, rfl, hoa1, hob1, hb1⟩
      obtain ⟨A1a, c1a, rfl, hya1, _⟩ := byt_own hoa1
      obtain ⟨A1b, c1b, rfl, hyb1, _⟩ := byt_own hob1
      have HB1 := Lib.hid (HB0.out.trans (hb1.mono HB0.out.size))
      have Hp_1 := Lib.hid (Hp_0.out.below hb1)
      have Hq_1 := Lib.hid (Hq_0.out.below hb1)
      have Ha_1 := Lib.hid hya1
      have Hb_1 := Lib.hid hyb1
      clear hoa1 hob1 hb1 hya1 hyb1
      go_wp2_with fail
      refine (rdivno_b _ Ap np cp p Aq nq cq q Hp_1.out Hq_1.out (HZ.out) (by omega) (by omega)).mono ?_
      rintro e w2 ⟨va2, vb2, rfl, hoa2, hob2, hb2⟩
      obtain ⟨A2a, c2a, rfl, hya2, _⟩ := byt_own hoa2
      obtain ⟨A2b, c2b, rfl, hyb2, _⟩ := byt_own hob2
      have HB2 := Lib.hid (HB1.out.trans (hb2.mono HB1.out.size))
      have Hp_2 := Lib.hid (Hp_1.out.below hb2)
      have Hq_2 := Lib.hid (Hq_1.out.below hb2)
      have Ha_2 := Lib.hid (Ha_1.out.below hb2)
      have Hb_2 := Lib.hid (Hb_1.out.below hb2)
      have Hc_2 := Lib.hid hya2
      have Hd_2 := Lib.hid hyb2
      clear hoa2 hob2 hb2 hya2 hyb2
      go_wp2_with fail
      refine (pmul_b _ Ap np cp p Aq nq cq q Hp_2.out Hq_2.out (by omega) (by omega)).mono ?_
      rintro e w3 ⟨v3, rfl, ho3, hb3⟩
      obtain ⟨A3, c3, rfl, hy3, _⟩ := byt_own ho3
      have HB3 := Lib.hid (HB2.out.trans (hb3.mono HB2.out.size))
      have Hp_3 := Lib.hid (Hp_2.out.below hb3)
      have Hq_3 := Lib.hid (Hq_2.out.below hb3)
      have Ha_3 := Lib.hid (Ha_2.out.below hb3)
      have Hb_3 := Lib.hid (Hb_2.out.below hb3)
      have Hc_3 := Lib.hid (Hc_2.out.below hb3)
      have Hd_3 := Lib.hid (Hd_2.out.below hb3)
      have Hm_3 := Lib.hid hy3
      clear ho3 hb3 hy3
      have hlm_3 : (pmul p q).length ≤ 60 := by have := pmul_length p q; omega
      go_wp2_with fail
      refine (rpmul_b _ Ap np cp p Aq nq cq q Hp_3.out Hq_3.out (by omega) (by omega)).mono ?_
      rintro e w4 ⟨v4, rfl, ho4, hb4⟩
      obtain ⟨A4, c4, rfl, hy4, _⟩ := byt_own ho4
      have HB4 := Lib.hid (HB3.out.trans (hb4.mono HB3.out.size))
      have Hp_4 := Lib.hid (Hp_3.out.below hb4)
      have Hq_4 := Lib.hid (Hq_3.out.below hb4)
      have Ha_4 := Lib.hid (Ha_3.out.below hb4)
      have Hb_4 := Lib.hid (Hb_3.out.below hb4)
      have Hc_4 := Lib.hid (Hc_3.out.below hb4)
      have Hd_4 := Lib.hid (Hd_3.out.below hb4)
      have Hm_4 := Lib.hid (Hm_3.out.below hb4)
      have Hn_4 := Lib.hid hy4
      clear ho4 hb4 hy4
      go_wp2_with fail
      refine (same_b _ A3 _ c3 (pmul p q) A4 _ c4 (rmulTo p q p.length) Hm_4.out Hn_4.out).mono ?_
      rw [show ((pmul p q) == (rmulTo p q p.length)) = true from beq_iff_eq.2 ((rmul_pmul p q).symm)]
      rintro e w5 ⟨rfl, rfl⟩
      go_wp2_with fail
      refine (same_b _ A1a _ c1a ([]) A2a _ c2a ([]) Ha_4.out Hc_4.out).mono ?_
      rw [show (([]) == ([])) = true from beq_iff_eq.2 (rfl)]
      rintro e w6 ⟨rfl, rfl⟩
      go_wp2_with fail
      refine (same_b _ A1b _ c1b ([]) A2b _ c2b ([]) Hb_4.out Hd_4.out).mono ?_
      rw [show (([]) == ([])) = true from beq_iff_eq.2 (rfl)]
      rintro e w7 ⟨rfl, rfl⟩
      go_wp2_with fail
      refine (awake_b _).mono ?_
      rintro e w8 ⟨rfl, hb8⟩
      have HB8 := Lib.hid (HB4.out.trans (hb8.mono HB4.out.size))
      clear hb8
      go_wp2
      go_ret
      exact ⟨rfl, HB8.out⟩
    · have HZ := Lib.hid hz
      clear hz
      go_wp2_with fail
      refine (divyes_b _ Ap np cp p Aq nq cq q Hp_0.out Hq_0.out (HZ.out) (by omega) (by omega)).mono ?_
      rintro e w1 ⟨va1, vb1, rfl, hoa1, hob1, hb1⟩
      obtain ⟨A1a, c1a, rfl, hya1, _⟩ := byt_own hoa1
      obtain ⟨A1b, c1b, rfl, hyb1, _⟩ := byt_own hob1
      have HB1 := Lib.hid (HB0.out.trans (hb1.mono HB0.out.size))
      have Hp_1 := Lib.hid (Hp_0.out.below hb1)
      have Hq_1 := Lib.hid (Hq_0.out.below hb1)
      have Ha_1 := Lib.hid hya1
      have Hb_1 := Lib.hid hyb1
      clear hoa1 hob1 hb1 hya1 hyb1
      go_wp2_with fail
      refine (rdivyes_b _ Ap np cp p Aq nq cq q Hp_1.out Hq_1.out (HZ.out) (by omega) (by omega)).mono ?_
      rintro e w2 ⟨va2, vb2, rfl, hoa2, hob2, hb2⟩
      obtain ⟨A2a, c2a, rfl, hya2, _⟩ := byt_own hoa2
      obtain ⟨A2b, c2b, rfl, hyb2, _⟩ := byt_own hob2
      have HB2 := Lib.hid (HB1.out.trans (hb2.mono HB1.out.size))
      have Hp_2 := Lib.hid (Hp_1.out.below hb2)
      have Hq_2 := Lib.hid (Hq_1.out.below hb2)
      have Ha_2 := Lib.hid (Ha_1.out.below hb2)
      have Hb_2 := Lib.hid (Hb_1.out.below hb2)
      have Hc_2 := Lib.hid hya2
      have Hd_2 := Lib.hid hyb2
      clear hoa2 hob2 hb2 hya2 hyb2
      go_wp2_with fail
      refine (pmul_b _ Ap np cp p Aq nq cq q Hp_2.out Hq_2.out (by omega) (by omega)).mono ?_
      rintro e w3 ⟨v3, rfl, ho3, hb3⟩
      obtain ⟨A3, c3, rfl, hy3, _⟩ := byt_own ho3
      have HB3 := Lib.hid (HB2.out.trans (hb3.mono HB2.out.size))
      have Hp_3 := Lib.hid (Hp_2.out.below hb3)
      have Hq_3 := Lib.hid (Hq_2.out.below hb3)
      have Ha_3 := Lib.hid (Ha_2.out.below hb3)
      have Hb_3 := Lib.hid (Hb_2.out.below hb3)
      have Hc_3 := Lib.hid (Hc_2.out.below hb3)
      have Hd_3 := Lib.hid (Hd_2.out.below hb3)
      have Hm_3 := Lib.hid hy3
      clear ho3 hb3 hy3
      have hlm_3 : (pmul p q).length ≤ 60 := by have := pmul_length p q; omega
      go_wp2_with fail
      refine (rpmul_b _ Ap np cp p Aq nq cq q Hp_3.out Hq_3.out (by omega) (by omega)).mono ?_
      rintro e w4 ⟨v4, rfl, ho4, hb4⟩
      obtain ⟨A4, c4, rfl, hy4, _⟩ := byt_own ho4
      have HB4 := Lib.hid (HB3.out.trans (hb4.mono HB3.out.size))
      have Hp_4 := Lib.hid (Hp_3.out.below hb4)
      have Hq_4 := Lib.hid (Hq_3.out.below hb4)
      have Ha_4 := Lib.hid (Ha_3.out.below hb4)
      have Hb_4 := Lib.hid (Hb_3.out.below hb4)
      have Hc_4 := Lib.hid (Hc_3.out.below hb4)
      have Hd_4 := Lib.hid (Hd_3.out.below hb4)
      have Hm_4 := Lib.hid (Hm_3.out.below hb4)
      have Hn_4 := Lib.hid hy4
      clear ho4 hb4 hy4
      go_wp2_with fail
      refine (same_b _ A3 _ c3 (pmul p q) A4 _ c4 (rmulTo p q p.length) Hm_4.out Hn_4.out).mono ?_
      rw [show ((pmul p q) == (rmulTo p q p.length)) = true from beq_iff_eq.2 ((rmul_pmul p q).symm)]
      rintro e w5 ⟨rfl, rfl⟩
      go_wp2_with fail
      refine (same_b _ A1a _ c1a (pquo p q) A2a _ c2a (pquo p q) Ha_4.out Hc_4.out).mono ?_
      rw [show ((pquo p q) == (pquo p q)) = true from beq_iff_eq.2 (rfl)]
      rintro e w6 ⟨rfl, rfl⟩
      go_wp2_with fail
      refine (same_b _ A1b _ c1b (prem p q) A2b _ c2b (prem p q) Hb_4.out Hd_4.out).mono ?_
      rw [show ((prem p q) == (prem p q)) = true from beq_iff_eq.2 (rfl)]
      rintro e w7 ⟨rfl, rfl⟩
      go_wp2_with fail
      refine (awake_b _).mono ?_
      rintro e w8 ⟨rfl, hb8⟩
      have HB8 := Lib.hid (HB4.out.trans (hb8.mono HB4.out.size))
      clear hb8
      go_wp2
      go_ret
      exact ⟨rfl, HB8.out⟩
  · have HT := Lib.hid (show allLe 30 [(Ap, np, cp), (Aq, nq, cq)] = false by simp [allLe]; omega)
    clear hp hlnp hq hlnq hs
    go_enter Try.func8, Try.ntmps8
    go_wp2_with fail
    refine (small_b _ _ 2 2 30 [(Ap, np, cp), (Aq, nq, cq)] HSL.out HLE.out).mono ?_
    rw [HT.out]
    rintro e w' ⟨rfl, rfl⟩
    go_wp2_with fail
    refine (awake_b _).mono ?_
    rintro e w1 ⟨rfl, hb⟩
    have HB := Lib.hid (HB0.out.trans (hb.mono HB0.out.size))
    clear hb
    go_wp2
    go_ret
    exact ⟨rfl, HB.out⟩

end GfpolyProducts
end Go.Proofs.Ytphlagmalppbkaa
