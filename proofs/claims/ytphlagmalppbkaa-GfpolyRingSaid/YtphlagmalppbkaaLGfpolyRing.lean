/- The law GfpolyRing of stelelaw06 returns true for every input, and every argument reads behind the call as it read before. No conditions. -/
import Derived.Test.YtphlagmalppbkaaPz
import Derived.Test.YtphlagmalppbkaaPk
import Derived.ProofKit
import Derived.OpenShut
import Derived.ShutString
import Derived.ChangeOld
namespace Go.Proofs.Ytphlagmalppbkaa
namespace GfpolyRing
open Go.RowKit

set_option maxRecDepth 100000 in
set_option maxHeartbeats 4000000 in
theorem core (w : World) (Ap : Option Addr) (np cp : Nat) (p : List UInt8) (Aq : Option Addr) (nq cq : Nat) (q : List UInt8) (Ar : Option Addr) (nr cr : Nat) (r : List UInt8) (hp : Byt w Ap np cp p) (hq : Byt w Aq nq cq q) (hr : Byt w Ar nr cr r) :
    Calls Try.prog 4 #[.slice Ap np cp, .slice Aq nq cq, .slice Ar nr cr] w fun e w' => e = .returned (.bool true) ∧ Below w.heap.size w w' := by
  have HSL := Lib.hid (show Sl (w.alloc (.cells #[.slice Ap np cp, .slice Aq nq cq, .slice Ar nr cr] 22)) 1 (some ⟨w.heap.size, 0, none⟩) 3 3 ([(Ap, np, cp), (Aq, nq, cq), (Ar, nr, cr)].map sv) from Blk.sl (size := 1) (n := 3) (Blk.new w 22 #[.slice Ap np cp, .slice Aq nq cq, .slice Ar nr cr]) rfl (by unfold maxLen; omega))
  have HLE := Lib.hid (show ∀ x ∈ [(Ap, np, cp), (Aq, nq, cq), (Ar, nr, cr)], x.2.1 ≤ maxLen by simp; exact ⟨hp.le_max, hq.le_max, hr.le_max⟩)
  have HB0 := Lib.hid ((Below.refl w.heap.size w).alloc (Nat.le_refl _) (.cells #[.slice Ap np cp, .slice Aq nq cq, .slice Ar nr cr] 22))
  have hlcp : np ≤ cp := hp.1
  have hcmp : cp ≤ 9223372036854775807 := hp.2.1
  have hlnp := hp.len
  have Hp_0 := Lib.hid (hp.alloc (.cells #[.slice Ap np cp, .slice Aq nq cq, .slice Ar nr cr] 22))
  have hlcq : nq ≤ cq := hq.1
  have hcmq : cq ≤ 9223372036854775807 := hq.2.1
  have hlnq := hq.len
  have Hq_0 := Lib.hid (hq.alloc (.cells #[.slice Ap np cp, .slice Aq nq cq, .slice Ar nr cr] 22))
  have hlcr : nr ≤ cr := hr.1
  have hcmr : cr ≤ 9223372036854775807 := hr.2.1
  have hlnr := hr.len
  have Hr_0 := Lib.hid (hr.alloc (.cells #[.slice Ap np cp, .slice Aq nq cq, .slice Ar nr cr] 22))
  by_cases hs : np ≤ 20 ∧ nq ≤ 20 ∧ nr ≤ 20
  · obtain ⟨hsp, hsq, hsr⟩ := hs
    have HT := Lib.hid (show allLe 20 [(Ap, np, cp), (Aq, nq, cq), (Ar, nr, cr)] = true by simp [allLe]; omega)
    have hlp : p.length ≤ 20 := by omega
    have HLp := Lib.hid hlnp
    have hlq : q.length ≤ 20 := by omega
    have HLq := Lib.hid hlnq
    have hlr : r.length ≤ 20 := by omega
    have HLr := Lib.hid hlnr
    clear hp hlnp hq hlnq hr hlnr
    go_enter Try.func4, Try.ntmps4
    go_wp2_with fail
    refine (small_b _ _ 3 3 20 [(Ap, np, cp), (Aq, nq, cq), (Ar, nr, cr)] HSL.out HLE.out).mono ?_
    rw [HT.out]
    rintro e w' ⟨rfl, rfl⟩
    go_wp2_with fail
    refine (padd_b _ Ap np cp p Aq nq cq q Hp_0.out Hq_0.out (by omega) (by omega)).mono ?_
    rintro e w1 ⟨v1, rfl, ho1, hb1⟩
    obtain ⟨A1, c1, rfl, hy1, _⟩ := byt_own ho1
    have HB1 := Lib.hid (HB0.out.trans (hb1.mono HB0.out.size))
    have Hp_1 := Lib.hid (Hp_0.out.below hb1)
    have Hq_1 := Lib.hid (Hq_0.out.below hb1)
    have Hr_1 := Lib.hid (Hr_0.out.below hb1)
    have Ha_1 := Lib.hid hy1
    clear ho1 hb1 hy1
    have hla_1 : (padd p q).length ≤ 20 := by have := padd_length p q; omega
    go_wp2_with fail
    refine (padd_b _ Aq nq cq q Ap np cp p Hq_1.out Hp_1.out (by omega) (by omega)).mono ?_
    rintro e w2 ⟨v2, rfl, ho2, hb2⟩
    obtain ⟨A2, c2, rfl, hy2, _⟩ := byt_own ho2
    have HB2 := Lib.hid (HB1.out.trans (hb2.mono HB1.out.size))
    have Hp_2 := Lib.hid (Hp_1.out.below hb2)
    have Hq_2 := Lib.hid (Hq_1.out.below hb2)
    have Hr_2 := Lib.hid (Hr_1.out.below hb2)
    have Ha_2 := Lib.hid (Ha_1.out.below hb2)
    have Hb_2 := Lib.hid hy2
    clear ho2 hb2 hy2
    have hlb_2 : (padd q p).length ≤ 20 := by have := padd_length q p; omega
    go_wp2_with fail
    refine (same_b _ A1 _ c1 (padd p q) A2 _ c2 (padd q p) Ha_2.out Hb_2.out).mono ?_
    rw [show ((padd p q) == (padd q p)) = true from beq_iff_eq.2 (padd_comm p q)]
    rintro e w3 ⟨rfl, rfl⟩
    go_wp2_with fail
    refine (padd_b _ Ap np cp p Aq nq cq q Hp_2.out Hq_2.out (by omega) (by omega)).mono ?_
    rintro e w4 ⟨v4, rfl, ho4, hb4⟩
    obtain ⟨A4, c4, rfl, hy4, _⟩ := byt_own ho4
    have HB4 := Lib.hid (HB2.out.trans (hb4.mono HB2.out.size))
    have Hp_4 := Lib.hid (Hp_2.out.below hb4)
    have Hq_4 := Lib.hid (Hq_2.out.below hb4)
    have Hr_4 := Lib.hid (Hr_2.out.below hb4)
    have Ha_4 := Lib.hid hy4
    clear ho4 hb4 hy4
    have hla_4 : (padd p q).length ≤ 20 := by have := padd_length p q; omega
    go_wp2_with fail
    refine (padd_b _ A4 _ c4 (padd p q) Ar nr cr r Ha_4.out Hr_4.out (by omega) (by omega)).mono ?_
    rintro e w5 ⟨v5, rfl, ho5, hb5⟩
    obtain ⟨A5, c5, rfl, hy5, _⟩ := byt_own ho5
    have HB5 := Lib.hid (HB4.out.trans (hb5.mono HB4.out.size))
    have Hp_5 := Lib.hid (Hp_4.out.below hb5)
    have Hq_5 := Lib.hid (Hq_4.out.below hb5)
    have Hr_5 := Lib.hid (Hr_4.out.below hb5)
    have Ha_5 := Lib.hid (Ha_4.out.below hb5)
    have Hb_5 := Lib.hid hy5
    clear ho5 hb5 hy5
    have hlb_5 : (padd (padd p q) r).length ≤ 20 := by have := padd_length (padd p q) r; omega
    go_wp2_with fail
    refine (padd_b _ Aq nq cq q Ar nr cr r Hq_5.out Hr_5.out (by omega) (by omega)).mono ?_
    rintro e w6 ⟨v6, rfl, ho6, hb6⟩
    obtain ⟨A6, c6, rfl, hy6, _⟩ := byt_own ho6
    have HB6 := Lib.hid (HB5.out.trans (hb6.mono HB5.out.size))
    have Hp_6 := Lib.hid (Hp_5.out.below hb6)
    have Hq_6 := Lib.hid (Hq_5.out.below hb6)
    have Hr_6 := Lib.hid (Hr_5.out.below hb6)
    have Ha_6 := Lib.hid (Ha_5.out.below hb6)
    have Hb_6 := Lib.hid (Hb_5.out.below hb6)
    have Hc_6 := Lib.hid hy6
    clear ho6 hb6 hy6
    have hlc_6 : (padd q r).length ≤ 20 := by have := padd_length q r; omega
    go_wp2_with fail
    refine (padd_b _ Ap np cp p A6 _ c6 (padd q r) Hp_6.out Hc_6.out (by omega) (by omega)).mono ?_
    rintro e w7 ⟨v7, rfl, ho7, hb7⟩
    obtain ⟨A7, c7, rfl, hy7, _⟩ := byt_own ho7
    have HB7 := Lib.hid (HB6.out.trans (hb7.mono HB6.out.size))
    have Hp_7 := Lib.hid (Hp_6.out.below hb7)
    have Hq_7 := Lib.hid (Hq_6.out.below hb7)
    have Hr_7 := Lib.hid (Hr_6.out.below hb7)
    have Ha_7 := Lib.hid (Ha_6.out.below hb7)
    have Hb_7 := Lib.hid (Hb_6.out.below hb7)
    have Hc_7 := Lib.hid (Hc_6.out.below hb7)
    have Hd_7 := Lib.hid hy7
    clear ho7 hb7 hy7
    have hld_7 : (padd p (padd q r)).length ≤ 20 := by have := padd_length p (padd q r); omega
    go_wp2_with fail
    refine (same_b _ A5 _ c5 (padd (padd p q) r) A7 _ c7 (padd p (padd q r)) Hb_7.out Hd_7.out).mono ?_
    rw [show ((padd (padd p q) r) == (padd p (padd q r))) = true from beq_iff_eq.2 (padd_assoc p q r)]
    rintro e w8 ⟨rfl, rfl⟩
    go_wp2_with fail
    refine (padd_b _ Ap np cp p Ap np cp p Hp_7.out Hp_7.out (by omega) (by omega)).mono ?_
    rw [padd_self]
    rintro e w9 ⟨v9, rfl, ho9, hb9⟩
    obtain ⟨A9, c9, rfl, hy9, _⟩ := byt_own ho9
    have HB9 := Lib.hid (HB7.out.trans (hb9.mono HB7.out.size))
    have Hp_9 := Lib.hid (Hp_7.out.below hb9)
    have Hq_9 := Lib.hid (Hq_7.out.below hb9)
    have Hr_9 := Lib.hid (Hr_7.out.below hb9)
    have Ha_9 := Lib.hid hy9
    clear ho9 hb9 hy9
    go_wp2_with fail
    refine (pmul_b _ Ap np cp p Aq nq cq q Hp_9.out Hq_9.out (by omega) (by omega)).mono ?_
    rintro e w10 ⟨v10, rfl, ho10, hb10⟩
    obtain ⟨A10, c10, rfl, hy10, _⟩ := byt_own ho10
    have HB10 := Lib.hid (HB9.out.trans (hb10.mono HB9.out.size))
    have Hp_10 := Lib.hid (Hp_9.out.below hb10)
    have Hq_10 := Lib.hid (Hq_9.out.below hb10)
    have Hr_10 := Lib.hid (Hr_9.out.below hb10)
    have Ha_10 := Lib.hid hy10
    clear ho10 hb10 hy10
    have hla_10 : (pmul p q).length ≤ 40 := by have := pmul_length p q; omega
    go_wp2_with fail
    refine (pmul_b _ Aq nq cq q Ap np cp p Hq_10.out Hp_10.out (by omega) (by omega)).mono ?_
    rintro e w11 ⟨v11, rfl, ho11, hb11⟩
    obtain ⟨A11, c11, rfl, hy11, _⟩ := byt_own ho11
    have HB11 := Lib.hid (HB10.out.trans (hb11.mono HB10.out.size))
    have Hp_11 := Lib.hid (Hp_10.out.below hb11)
    have Hq_11 := Lib.hid (Hq_10.out.below hb11)
    have Hr_11 := Lib.hid (Hr_10.out.below hb11)
    have Ha_11 := Lib.hid (Ha_10.out.below hb11)
    have Hb_11 := Lib.hid hy11
    clear ho11 hb11 hy11
    have hlb_11 : (pmul q p).length ≤ 40 := by have := pmul_length q p; omega
    go_wp2_with fail
    refine (same_b _ A10 _ c10 (pmul p q) A11 _ c11 (pmul q p) Ha_11.out Hb_11.out).mono ?_
    rw [show ((pmul p q) == (pmul q p)) = true from beq_iff_eq.2 (pmul_comm p q)]
    rintro e w12 ⟨rfl, rfl⟩
    go_wp2_with fail
    refine (pmul_b _ Ap np cp p Aq nq cq q Hp_11.out Hq_11.out (by omega) (by omega)).mono ?_
    rintro e w13 ⟨v13, rfl, ho13, hb13⟩
    obtain ⟨A13, c13, rfl, hy13, _⟩ := byt_own ho13
    have HB13 := Lib.hid (HB11.out.trans (hb13.mono HB11.out.size))
    have Hp_13 := Lib.hid (Hp_11.out.below hb13)
    have Hq_13 := Lib.hid (Hq_11.out.below hb13)
    have Hr_13 := Lib.hid (Hr_11.out.below hb13)
    have Ha_13 := Lib.hid hy13
    clear ho13 hb13 hy13
    have hla_13 : (pmul p q).length ≤ 40 := by have := pmul_length p q; omega
    go_wp2_with fail
    refine (pmul_b _ A13 _ c13 (pmul p q) Ar nr cr r Ha_13.out Hr_13.out (by omega) (by omega)).mono ?_
    rintro e w14 ⟨v14, rfl, ho14, hb14⟩
    obtain ⟨A14, c14, rfl, hy14, _⟩ := byt_own ho14
    have HB14 := Lib.hid (HB13.out.trans (hb14.mono HB13.out.size))
    have Hp_14 := Lib.hid (Hp_13.out.below hb14)
    have Hq_14 := Lib.hid (Hq_13.out.below hb14)
    have Hr_14 := Lib.hid (Hr_13.out.below hb14)
    have Ha_14 := Lib.hid (Ha_13.out.below hb14)
    have Hb_14 := Lib.hid hy14
    clear ho14 hb14 hy14
    have hlb_14 : (pmul (pmul p q) r).length ≤ 60 := by have := pmul_length (pmul p q) r; omega
    go_wp2_with fail
    refine (pmul_b _ Aq nq cq q Ar nr cr r Hq_14.out Hr_14.out (by omega) (by omega)).mono ?_
    rintro e w15 ⟨v15, rfl, ho15, hb15⟩
    obtain ⟨A15, c15, rfl, hy15, _⟩ := byt_own ho15
    have HB15 := Lib.hid (HB14.out.trans (hb15.mono HB14.out.size))
    have Hp_15 := Lib.hid (Hp_14.out.below hb15)
    have Hq_15 := Lib.hid (Hq_14.out.below hb15)
    have Hr_15 := Lib.hid (Hr_14.out.below hb15)
    have Ha_15 := Lib.hid (Ha_14.out.below hb15)
    have Hb_15 := Lib.hid (Hb_14.out.below hb15)
    have Hc_15 := Lib.hid hy15
    clear ho15 hb15 hy15
    have hlc_15 : (pmul q r).length ≤ 40 := by have := pmul_length q r; omega
    go_wp2_with fail
    refine (pmul_b _ Ap np cp p A15 _ c15 (pmul q r) Hp_15.out Hc_15.out (by omega) (by omega)).mono ?_
    rintro e w16 ⟨v16, rfl, ho16, hb16⟩
    obtain ⟨A16, c16, rfl, hy16, _⟩ := byt_own ho16
    have HB16 := Lib.hid (HB15.out.trans (hb16.mono HB15.out.size))
    have Hp_16 := Lib.hid (Hp_15.out.below hb16)
    have Hq_16 := Lib.hid (Hq_15.out.below hb16)
    have Hr_16 := Lib.hid (Hr_15.out.below hb16)
    have Ha_16 := Lib.hid (Ha_15.out.below hb16)
    have Hb_16 := Lib.hid (Hb_15.out.below hb16)
    have Hc_16 := Lib.hid (Hc_15.out.below hb16)
    have Hd_16 := Lib.hid hy16
    clear ho16 hb16 hy16
    have hld_16 : (pmul p (pmul q r)).length ≤ 60 := by have := pmul_length p (pmul q r); omega
    go_wp2_with fail
    refine (same_b _ A14 _ c14 (pmul (pmul p q) r) A16 _ c16 (pmul p (pmul q r)) Hb_16.out Hd_16.out).mono ?_
    rw [show ((pmul (pmul p q) r) == (pmul p (pmul q r))) = true from beq_iff_eq.2 (pmul_assoc p q r)]
    rintro e w17 ⟨rfl, rfl⟩
    have HLT18 := Lib.hid (lit_byt w17 w17.heap.size rfl [1] #[.int .u8 1] rfl 1 rfl (by omega))
    have HBA18 := Lib.hid (HB16.out.alloc HB16.out.size (.cells #[.int .u8 1] 5))
    have Hp_18a := Lib.hid (Hp_16.out.alloc (.cells #[.int .u8 1] 5))
    have Hq_18a := Lib.hid (Hq_16.out.alloc (.cells #[.int .u8 1] 5))
    have Hr_18a := Lib.hid (Hr_16.out.alloc (.cells #[.int .u8 1] 5))
    go_wp2_with fail
    refine (pmul_b _ Ap np cp p _ 1 1 [1] Hp_18a.out HLT18.out (by omega) (by simp)).mono ?_
    rintro e w18 ⟨v18, rfl, ho18, hb18⟩
    obtain ⟨A18, c18, rfl, hy18, _⟩ := byt_own ho18
    have HB18 := Lib.hid (HBA18.out.trans (hb18.mono HBA18.out.size))
    have Hp_18 := Lib.hid (Hp_18a.out.below hb18)
    have Hq_18 := Lib.hid (Hq_18a.out.below hb18)
    have Hr_18 := Lib.hid (Hr_18a.out.below hb18)
    have Ha_18 := Lib.hid hy18
    clear ho18 hb18 hy18
    go_wp2_with fail
    refine (trim_b _ Ap np cp p Hp_18.out (by omega)).mono ?_
    rintro e w19 ⟨v19, rfl, ho19, hb19⟩
    obtain ⟨A19, c19, rfl, hy19, _⟩ := byt_own ho19
    have HB19 := Lib.hid (HB18.out.trans (hb19.mono HB18.out.size))
    have Hp_19 := Lib.hid (Hp_18.out.below hb19)
    have Hq_19 := Lib.hid (Hq_18.out.below hb19)
    have Hr_19 := Lib.hid (Hr_18.out.below hb19)
    have Ha_19 := Lib.hid (Ha_18.out.below hb19)
    have Hb_19 := Lib.hid hy19
    clear ho19 hb19 hy19
    have hlb_19 : (trim p).length ≤ 20 := by have := trim_length p; omega
    go_wp2_with fail
    refine (same_b _ A18 _ c18 (pmul p [1]) A19 _ c19 (trim p) Ha_19.out Hb_19.out).mono ?_
    rw [show ((pmul p [1]) == (trim p)) = true from beq_iff_eq.2 (pmul_one p)]
    rintro e w20 ⟨rfl, rfl⟩
    go_wp2_with fail
    refine (padd_b _ Aq nq cq q Ar nr cr r Hq_19.out Hr_19.out (by omega) (by omega)).mono ?_
    rintro e w21 ⟨v21, rfl, ho21, hb21⟩
    obtain ⟨A21, c21, rfl, hy21, _⟩ := byt_own ho21
    have HB21 := Lib.hid (HB19.out.trans (hb21.mono HB19.out.size))
    have Hp_21 := Lib.hid (Hp_19.out.below hb21)
    have Hq_21 := Lib.hid (Hq_19.out.below hb21)
    have Hr_21 := Lib.hid (Hr_19.out.below hb21)
    have Ha_21 := Lib.hid hy21
    clear ho21 hb21 hy21
    have hla_21 : (padd q r).length ≤ 20 := by have := padd_length q r; omega
    go_wp2_with fail
    refine (pmul_b _ Ap np cp p A21 _ c21 (padd q r) Hp_21.out Ha_21.out (by omega) (by omega)).mono ?_
    rintro e w22 ⟨v22, rfl, ho22, hb22⟩
    obtain ⟨A22, c22, rfl, hy22, _⟩ := byt_own ho22
    have HB22 := Lib.hid (HB21.out.trans (hb22.mono HB21.out.size))
    have Hp_22 := Lib.hid (Hp_21.out.below hb22)
    have Hq_22 := Lib.hid (Hq_21.out.below hb22)
    have Hr_22 := Lib.hid (Hr_21.out.below hb22)
    have Ha_22 := Lib.hid (Ha_21.out.below hb22)
    have Hb_22 := Lib.hid hy22
    clear ho22 hb22 hy22
    have hlb_22 : (pmul p (padd q r)).length ≤ 40 := by have := pmul_length p (padd q r); omega
    go_wp2_with fail
    refine (pmul_b _ Ap np cp p Aq nq cq q Hp_22.out Hq_22.out (by omega) (by omega)).mono ?_
    rintro e w23 ⟨v23, rfl, ho23, hb23⟩
    obtain ⟨A23, c23, rfl, hy23, _⟩ := byt_own ho23
    have HB23 := Lib.hid (HB22.out.trans (hb23.mono HB22.out.size))
    have Hp_23 := Lib.hid (Hp_22.out.below hb23)
    have Hq_23 := Lib.hid (Hq_22.out.below hb23)
    have Hr_23 := Lib.hid (Hr_22.out.below hb23)
    have Ha_23 := Lib.hid (Ha_22.out.below hb23)
    have Hb_23 := Lib.hid (Hb_22.out.below hb23)
    have Hc_23 := Lib.hid hy23
    clear ho23 hb23 hy23
    have hlc_23 : (pmul p q).length ≤ 40 := by have := pmul_length p q; omega
    go_wp2_with fail
    refine (pmul_b _ Ap np cp p Ar nr cr r Hp_23.out Hr_23.out (by omega) (by omega)).mono ?_
    rintro e w24 ⟨v24, rfl, ho24, hb24⟩
    obtain ⟨A24, c24, rfl, hy24, _⟩ := byt_own ho24
    have HB24 := Lib.hid (HB23.out.trans (hb24.mono HB23.out.size))
    have Hp_24 := Lib.hid (Hp_23.out.below hb24)
    have Hq_24 := Lib.hid (Hq_23.out.below hb24)
    have Hr_24 := Lib.hid (Hr_23.out.below hb24)
    have Ha_24 := Lib.hid (Ha_23.out.below hb24)
    have Hb_24 := Lib.hid (Hb_23.out.below hb24)
    have Hc_24 := Lib.hid (Hc_23.out.below hb24)
    have Hd_24 := Lib.hid hy24
    clear ho24 hb24 hy24
    have hld_24 : (pmul p r).length ≤ 40 := by have := pmul_length p r; omega
    go_wp2_with fail
    refine (padd_b _ A23 _ c23 (pmul p q) A24 _ c24 (pmul p r) Hc_24.out Hd_24.out (by omega) (by omega)).mono ?_
    rintro e w25 ⟨v25, rfl, ho25, hb25⟩
    obtain ⟨A25, c25, rfl, hy25, _⟩ := byt_own ho25
    have HB25 := Lib.hid (HB24.out.trans (hb25.mono HB24.out.size))
    have Hp_25 := Lib.hid (Hp_24.out.below hb25)
    have Hq_25 := Lib.hid (Hq_24.out.below hb25)
    have Hr_25 := Lib.hid (Hr_24.out.below hb25)
    have Ha_25 := Lib.hid (Ha_24.out.below hb25)
    have Hb_25 := Lib.hid (Hb_24.out.below hb25)
    have Hc_25 := Lib.hid (Hc_24.out.below hb25)
    have Hd_25 := Lib.hid (Hd_24.out.below hb25)
    have Hf_25 := Lib.hid hy25
    clear ho25 hb25 hy25
    have hlf_25 : (padd (pmul p q) (pmul p r)).length ≤ 40 := by have := padd_length (pmul p q) (pmul p r); omega
    go_wp2_with fail
    refine (same_b _ A22 _ c22 (pmul p (padd q r)) A25 _ c25 (padd (pmul p q) (pmul p r)) Hb_25.out Hf_25.out).mono ?_
    rw [show ((pmul p (padd q r)) == (padd (pmul p q) (pmul p r))) = true from beq_iff_eq.2 (pmul_padd p q r)]
    rintro e w26 ⟨rfl, rfl⟩
    go_wp2_with fail
    refine (awake_b _).mono ?_
    rintro e w27 ⟨rfl, hb27⟩
    have HB27 := Lib.hid (HB25.out.trans (hb27.mono HB25.out.size))
    clear hb27
    go_wp2
    go_ret
    exact ⟨rfl, HB27.out⟩
  · have HT := Lib.hid (show allLe 20 [(Ap, np, cp), (Aq, nq, cq), (Ar, nr, cr)] = false by simp [allLe]; omega)
    clear hp hlnp hq hlnq hr hlnr hs
    go_enter Try.func4, Try.ntmps4
    go_wp2_with fail
    refine (small_b _ _ 3 3 20 [(Ap, np, cp), (Aq, nq, cq), (Ar, nr, cr)] HSL.out HLE.out).mono ?_
    rw [HT.out]
    rintro e w' ⟨rfl, rfl⟩
    go_wp2_with fail
    refine (awake_b _).mono ?_
    rintro e w1 ⟨rfl, hb⟩
    have HB := Lib.hid (HB0.out.trans (hb.mono HB0.out.size))
    clear hb
    go_wp2
    go_ret
    exact ⟨rfl, HB.out⟩

end GfpolyRing
end Go.Proofs.Ytphlagmalppbkaa
