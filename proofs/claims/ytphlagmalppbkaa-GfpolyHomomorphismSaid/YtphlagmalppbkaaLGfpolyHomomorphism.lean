/- The law GfpolyHomomorphism of stelelaw06 returns true for every input, and every argument reads behind the call as it read before. No conditions. -/
import Derived.Test.YtphlagmalppbkaaPj
import Derived.Test.YtphlagmalppbkaaPk
import Derived.ProofKit
import Derived.OpenShut
import Derived.ShutString
import Derived.ChangeOld
namespace Go.Proofs.Ytphlagmalppbkaa
namespace GfpolyHomomorphism
open Go.RowKit

set_option maxRecDepth 100000 in
set_option maxHeartbeats 4000000 in
theorem core (w : World) (Ap : Option Addr) (np cp : Nat) (p : List UInt8) (Aq : Option Addr) (nq cq : Nat) (q : List UInt8) (x : UInt8) (hp : Byt w Ap np cp p) (hq : Byt w Aq nq cq q) :
    Calls Try.prog 10 #[.slice Ap np cp, .slice Aq nq cq, .int .u8 (x.toNat : Int)] w fun e w' => e = .returned (.bool true) ∧ Below w.heap.size w w' := by
  have HSL := Lib.hid (show Sl (w.alloc (.cells #[.slice Ap np cp, .slice Aq nq cq] 22)) 1 (some ⟨w.heap.size, 0, none⟩) 2 2 ([(Ap, np, cp), (Aq, nq, cq)].map sv) from Blk.sl (size := 1) (n := 2) (Blk.new w 22 #[.slice Ap np cp, .slice Aq nq cq]) rfl (by unfold maxLen; omega))
  have HLE := Lib.hid (show ∀ x ∈ [(Ap, np, cp), (Aq, nq, cq)], x.2.1 ≤ maxLen by simp; exact ⟨hp.le_max, hq.le_max⟩)
  have HB0 := Lib.hid ((Below.refl w.heap.size w).alloc (Nat.le_refl _) (.cells #[.slice Ap np cp, .slice Aq nq cq] 22))
  have hlcp : np ≤ cp := hp.1
  have hcmp : cp ≤ 9223372036854775807 := hp.2.1
  have hlnp := hp.len
  have Hp_0 := Lib.hid (hp.alloc (.cells #[.slice Ap np cp, .slice Aq nq cq] 22))
  have hlcq : nq ≤ cq := hq.1
  have hcmq : cq ≤ 9223372036854775807 := hq.2.1
  have hlnq := hq.len
  have Hq_0 := Lib.hid (hq.alloc (.cells #[.slice Ap np cp, .slice Aq nq cq] 22))
  by_cases hs : np ≤ 30 ∧ nq ≤ 30
  · obtain ⟨hsp, hsq⟩ := hs
    have HT := Lib.hid (show allLe 30 [(Ap, np, cp), (Aq, nq, cq)] = true by simp [allLe]; omega)
    have hlp : p.length ≤ 30 := by omega
    have HLp := Lib.hid hlnp
    have hlq : q.length ≤ 30 := by omega
    have HLq := Lib.hid hlnq
    clear hp hlnp hq hlnq
    go_enter Try.func10, Try.ntmps10
    go_wp2_with fail
    refine (small_b _ _ 2 2 30 [(Ap, np, cp), (Aq, nq, cq)] HSL.out HLE.out).mono ?_
    rw [HT.out]
    rintro e w' ⟨rfl, rfl⟩
    go_wp2_with fail
    refine (eval_b _ Ap np cp p x Hp_0.out).mono ?_
    rw [show evTo p x p.length = hor x p from ev_hor p x]
    rintro e w1 ⟨rfl, hd1⟩
    have HB1 := Lib.hid (HB0.out.trans (hd1.below _))
    have Hp_1 := Lib.hid (Hp_0.out.below (hd1.below _))
    have Hq_1 := Lib.hid (Hq_0.out.below (hd1.below _))
    clear hd1
    go_wp2_with fail
    refine (eval_b _ Aq nq cq q x Hq_1.out).mono ?_
    rw [show evTo q x q.length = hor x q from ev_hor q x]
    rintro e w2 ⟨rfl, hd2⟩
    have HB2 := Lib.hid (HB1.out.trans (hd2.below _))
    have Hp_2 := Lib.hid (Hp_1.out.below (hd2.below _))
    have Hq_2 := Lib.hid (Hq_1.out.below (hd2.below _))
    clear hd2
    have HLT3 := Lib.hid (lit_byt w2 w2.heap.size rfl [x, 1] #[.int .u8 (x.toNat : Int), .int .u8 1] rfl 2 rfl (by omega))
    have HBA3 := Lib.hid (HB2.out.alloc HB2.out.size (.cells #[.int .u8 (x.toNat : Int), .int .u8 1] 5))
    have Hp_3a := Lib.hid (Hp_2.out.alloc (.cells #[.int .u8 (x.toNat : Int), .int .u8 1] 5))
    have Hq_3a := Lib.hid (Hq_2.out.alloc (.cells #[.int .u8 (x.toNat : Int), .int .u8 1] 5))
    go_wp2_with fail
    refine (divyes_b _ Ap np cp p _ 2 2 [x, 1] Hp_3a.out HLT3.out (lin_ne x) (by omega) (by simp)).mono ?_
    rintro e w3 ⟨va3, vb3, rfl, hoa3, hob3, hb3⟩
    obtain ⟨A3a, c3a, rfl, hya3, _⟩ := byt_own hoa3
    obtain ⟨A3b, c3b, rfl, hyb3, _⟩ := byt_own hob3
    have HB3 := Lib.hid (HBA3.out.trans (hb3.mono HBA3.out.size))
    have Hp_3 := Lib.hid (Hp_3a.out.below hb3)
    have Hq_3 := Lib.hid (Hq_3a.out.below hb3)
    have Hd_3 := Lib.hid hya3
    have Hr_3 := Lib.hid hyb3
    clear hoa3 hob3 hb3 hya3 hyb3
    go_wp2_with fail
    refine (padd_b _ Ap np cp p Aq nq cq q Hp_3.out Hq_3.out (by omega) (by omega)).mono ?_
    rintro e w4 ⟨v4, rfl, ho4, hb4⟩
    obtain ⟨A4, c4, rfl, hy4, _⟩ := byt_own ho4
    have HB4 := Lib.hid (HB3.out.trans (hb4.mono HB3.out.size))
    have Hp_4 := Lib.hid (Hp_3.out.below hb4)
    have Hq_4 := Lib.hid (Hq_3.out.below hb4)
    have Hd_4 := Lib.hid (Hd_3.out.below hb4)
    have Hr_4 := Lib.hid (Hr_3.out.below hb4)
    have Hs_4 := Lib.hid hy4
    clear ho4 hb4 hy4
    have hls_4 : (padd p q).length ≤ 30 := by have := padd_length p q; omega
    go_wp2_with fail
    refine (eval_b _ A4 _ c4 (padd p q) x Hs_4.out).mono ?_
    rw [show evTo (padd p q) x (padd p q).length = Gf.ga (hor x p) (hor x q) from (ev_hor (padd p q) x).trans (hor_padd x p q)]
    rintro e w5 ⟨rfl, hd5⟩
    have HB5 := Lib.hid (HB4.out.trans (hd5.below _))
    have Hp_5 := Lib.hid (Hp_4.out.below (hd5.below _))
    have Hq_5 := Lib.hid (Hq_4.out.below (hd5.below _))
    have Hd_5 := Lib.hid (Hd_4.out.below (hd5.below _))
    have Hr_5 := Lib.hid (Hr_4.out.below (hd5.below _))
    have Hs_5 := Lib.hid (Hs_4.out.below (hd5.below _))
    clear hd5
    go_wp2_with fail
    refine (gadd_b _ _ _).mono ?_
    rintro e w6 ⟨rfl, rfl⟩
    go_wp2_with fail
    refine (pmul_b _ Ap np cp p Aq nq cq q Hp_5.out Hq_5.out (by omega) (by omega)).mono ?_
    rintro e w7 ⟨v7, rfl, ho7, hb7⟩
    obtain ⟨A7, c7, rfl, hy7, _⟩ := byt_own ho7
    have HB7 := Lib.hid (HB5.out.trans (hb7.mono HB5.out.size))
    have Hp_7 := Lib.hid (Hp_5.out.below hb7)
    have Hq_7 := Lib.hid (Hq_5.out.below hb7)
    have Hd_7 := Lib.hid (Hd_5.out.below hb7)
    have Hr_7 := Lib.hid (Hr_5.out.below hb7)
    have Hs_7 := Lib.hid (Hs_5.out.below hb7)
    have Hm_7 := Lib.hid hy7
    clear ho7 hb7 hy7
    have hlm_7 : (pmul p q).length ≤ 60 := by have := pmul_length p q; omega
    go_wp2_with fail
    refine (eval_b _ A7 _ c7 (pmul p q) x Hm_7.out).mono ?_
    rw [show evTo (pmul p q) x (pmul p q).length = Gf.gm (hor x p) (hor x q) from (ev_hor (pmul p q) x).trans (hor_pmul x p q)]
    rintro e w8 ⟨rfl, hd8⟩
    have HB8 := Lib.hid (HB7.out.trans (hd8.below _))
    have Hp_8 := Lib.hid (Hp_7.out.below (hd8.below _))
    have Hq_8 := Lib.hid (Hq_7.out.below (hd8.below _))
    have Hd_8 := Lib.hid (Hd_7.out.below (hd8.below _))
    have Hr_8 := Lib.hid (Hr_7.out.below (hd8.below _))
    have Hs_8 := Lib.hid (Hs_7.out.below (hd8.below _))
    have Hm_8 := Lib.hid (Hm_7.out.below (hd8.below _))
    clear hd8
    go_wp2_with fail
    refine (gmul_b _ _ _).mono ?_
    rintro e w9 ⟨rfl, rfl⟩
    have HLT10 := Lib.hid (lit_byt w9 w9.heap.size rfl [hor x p] #[.int .u8 ((hor x p).toNat : Int)] rfl 1 rfl (by omega))
    have HBA10 := Lib.hid (HB8.out.alloc HB8.out.size (.cells #[.int .u8 ((hor x p).toNat : Int)] 5))
    have Hp_10a := Lib.hid (Hp_8.out.alloc (.cells #[.int .u8 ((hor x p).toNat : Int)] 5))
    have Hq_10a := Lib.hid (Hq_8.out.alloc (.cells #[.int .u8 ((hor x p).toNat : Int)] 5))
    have Hd_10a := Lib.hid (Hd_8.out.alloc (.cells #[.int .u8 ((hor x p).toNat : Int)] 5))
    have Hr_10a := Lib.hid (Hr_8.out.alloc (.cells #[.int .u8 ((hor x p).toNat : Int)] 5))
    go_wp2_with fail
    refine (trim_b _ _ 1 1 [hor x p] HLT10.out (by simp)).mono ?_
    rintro e w10 ⟨v10, rfl, ho10, hb10⟩
    obtain ⟨A10, c10, rfl, hy10, _⟩ := byt_own ho10
    have HB10 := Lib.hid (HBA10.out.trans (hb10.mono HBA10.out.size))
    have Hp_10 := Lib.hid (Hp_10a.out.below hb10)
    have Hq_10 := Lib.hid (Hq_10a.out.below hb10)
    have Hd_10 := Lib.hid (Hd_10a.out.below hb10)
    have Hr_10 := Lib.hid (Hr_10a.out.below hb10)
    have Ht_10 := Lib.hid hy10
    clear ho10 hb10 hy10
    go_wp2_with fail
    refine (same_b _ A3b _ c3b (prem p [x, 1]) A10 _ c10 (trim [hor x p]) Hr_10.out Ht_10.out).mono ?_
    rw [show ((prem p [x, 1]) == (trim [hor x p])) = true from beq_iff_eq.2 (prem_lin p x)]
    rintro e w11 ⟨rfl, rfl⟩
    go_wp2_with fail
    refine (awake_b _).mono ?_
    rintro e w12 ⟨rfl, hb12⟩
    have HB12 := Lib.hid (HB10.out.trans (hb12.mono HB10.out.size))
    clear hb12
    go_wp2
    go_ret
    exact ⟨rfl, HB12.out⟩
  · have HT := Lib.hid (show allLe 30 [(Ap, np, cp), (Aq, nq, cq)] = false by simp [allLe]; omega)
    clear hp hlnp hq hlnq hs
    go_enter Try.func10, Try.ntmps10
    go_wp2_with fail
    refine (small_b _ _ 2 2 30 [(Ap, np, cp), (Aq, nq, cq)] HSL.out HLE.out).mono ?_
    rw [HT.out]
    rintro e w' ⟨rfl, rfl⟩
    go_wp2_with fail
    refine (awake_b _).mono ?_
    rintro e w1 ⟨rfl, hb⟩
    have HB := Lib.hid (HB0.out.trans (hb.mono HB0.out.size))
    clear hb
    go_wp2
    go_ret
    exact ⟨rfl, HB.out⟩

end GfpolyHomomorphism
end Go.Proofs.Ytphlagmalppbkaa
