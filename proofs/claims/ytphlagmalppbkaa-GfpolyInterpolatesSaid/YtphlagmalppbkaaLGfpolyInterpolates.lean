/- The law GfpolyInterpolates of stelelaw06 returns true for every input, and every argument reads behind the call as it read before. No conditions. -/
import Derived.Test.YtphlagmalppbkaaPt
import Derived.Test.YtphlagmalppbkaaPk
import Derived.ProofKit
import Derived.OpenShut
import Derived.ShutString
import Derived.ChangeOld
namespace Go.Proofs.Ytphlagmalppbkaa
namespace GfpolyInterpolates
open Go.RowKit

/-- the values of r at the first k of p -/
def vals (p r : List UInt8) (k : Nat) : List UInt8 := (p.take k).map fun x => hor x r
theorem vals_succ {p r : List UInt8} {k : Nat} (hk : k < p.length) : vals p r (k + 1) = vals p r k ++ [hor p[k] r] := by
  unfold vals
  rw [take_snoc hk, List.map_append]
  rfl
theorem vals_len {p r : List UInt8} {k : Nat} (hk : k ≤ p.length) : (vals p r k).length = k := by
  unfold vals
  simp; omega
theorem vals_getD {p r : List UInt8} {k i : Nat} (hk : p.length ≤ k) (hi : i < p.length) : (vals p r k).getD i 0 = hor (p.getD i 0) r := by
  unfold vals
  rw [List.take_of_length_le hk, getD_lt (by simpa using hi), getD_lt hi]
  simp

set_option maxRecDepth 100000 in
set_option maxHeartbeats 1000000 in
theorem core (w : World) (Ap : Option Addr) (np cp : Nat) (p : List UInt8) (Aq : Option Addr) (nq cq : Nat) (q : List UInt8) (Ar : Option Addr) (nr cr : Nat) (r : List UInt8) (hp : Byt w Ap np cp p) (hq : Byt w Aq nq cq q) (hr : Byt w Ar nr cr r) :
    Calls Try.prog 5 #[.slice Ap np cp, .slice Aq nq cq, .slice Ar nr cr] w fun e w' => e = .returned (.bool true) ∧ Below w.heap.size w w' := by
  have HSL := Lib.hid (show Sl (w.alloc (.cells #[.slice Ap np cp, .slice Aq nq cq, .slice Ar nr cr] 22)) 1 (some ⟨w.heap.size, 0, none⟩) 3 3 ([(Ap, np, cp), (Aq, nq, cq), (Ar, nr, cr)].map sv) from Blk.sl (size := 1) (n := 3) (Blk.new w 22 #[.slice Ap np cp, .slice Aq nq cq, .slice Ar nr cr]) rfl (by unfold maxLen; omega))
  have HLE := Lib.hid (show ∀ x ∈ [(Ap, np, cp), (Aq, nq, cq), (Ar, nr, cr)], x.2.1 ≤ maxLen by simp; exact ⟨hp.le_max, hq.le_max, hr.le_max⟩)
  have HB0 := Lib.hid ((Below.refl w.heap.size w).alloc (Nat.le_refl _) (.cells #[.slice Ap np cp, .slice Aq nq cq, .slice Ar nr cr] 22))
  have hlcp : np ≤ cp := hp.1
  have hcmp : cp ≤ 9223372036854775807 := hp.2.1
  have hlnp := hp.len
  have Hp_0 := Lib.hid (hp.alloc (.cells #[.slice Ap np cp, .slice Aq nq cq, .slice Ar nr cr] 22))
  have hlcq : nq ≤ cq := hq.1
  have hcmq : cq ≤ 9223372036854775807 := hq.2.1
  have hlnq := hq.len
  have Hq_0 := Lib.hid (hq.alloc (.cells #[.slice Ap np cp, .slice Aq nq cq, .slice Ar nr cr] 22))
  have hlcr : nr ≤ cr := hr.1
  have hcmr : cr ≤ 9223372036854775807 := hr.2.1
  have hlnr := hr.len
  have Hr_0 := Lib.hid (hr.alloc (.cells #[.slice Ap np cp, .slice Aq nq cq, .slice Ar nr cr] 22))
  by_cases hs : np ≤ 16 ∧ nq ≤ 16 ∧ nr ≤ 16
  · obtain ⟨hsp, hsq, hsr⟩ := hs
    have HT := Lib.hid (show allLe 16 [(Ap, np, cp), (Aq, nq, cq), (Ar, nr, cr)] = true by simp [allLe]; omega)
    have hlp : p.length ≤ 16 := by omega
    have HLp := Lib.hid hlnp
    have hlq : q.length ≤ 16 := by omega
    have HLq := Lib.hid hlnq
    have hlr : r.length ≤ 16 := by omega
    have HLr := Lib.hid hlnr
    clear hp hlnp hq hlnq hr hlnr
    go_enter Try.func5, Try.ntmps5
    go_wp2_with fail
    refine (small_b _ _ 3 3 16 [(Ap, np, cp), (Aq, nq, cq), (Ar, nr, cr)] HSL.out HLE.out).mono ?_
    rw [HT.out]
    rintro e w' ⟨rfl, rfl⟩
    obtain ⟨o, er, hip⟩ : ∃ o er, ipRun p q = (o, er) := ⟨_, _, rfl⟩
    have HIP := Lib.hid hip
    by_cases hz : er = 0
    · have HZ0 := Lib.hid hz
      have hok := ip_ok (xs := p) (ys := q) (by rw [hip]; exact hz)
      rw [hip] at hok
      obtain ⟨hlen, hnd, _, hol, hval⟩ := hok
      subst hz
      have hnn : np = nq := by rw [HLp.out, HLq.out, hlen]
      subst hnn
      have HND := Lib.hid hnd
      have HVAL := Lib.hid hval
      have hol2 : o.length ≤ np := by rw [HLp.out]; exact hol
      clear hlen hnd hval hol hip
      go_wp2_with fail
      refine (interp_b _ Ap np cp p Aq np cq q Hp_0.out Hq_0.out (by omega)).mono ?_
      rw [HIP.out]
      rintro e w1 ⟨v1, rfl, ho1, hb1⟩
      obtain ⟨A1, c1, rfl, hy1, _⟩ := byt_own ho1
      have HB1 := Lib.hid (HB0.out.trans (hb1.mono HB0.out.size))
      have Hp_1 := Lib.hid (Hp_0.out.below hb1)
      have Hq_1 := Lib.hid (Hq_0.out.below hb1)
      have Hr_1 := Lib.hid (Hr_0.out.below hb1)
      have Ha_1 := Lib.hid hy1
      clear ho1 hb1 hy1
      go_wp2
      simp only [show decide (np < o.length) = false by rw [decide_eq_false_iff_not]; omega]
      go_loopw [9, 49] (fun vv i wr => ∃ k : Nat, k ≤ np ∧ i = .int .i64 (k : Int) ∧ wr.ownsRow w1.heap.size 5 1 vv k (bv (vals p r k)) ∧ Below w1.heap.size w1 wr) (fun _ i _ => np - (intOf i).toNat)
      case atStart => exact ⟨0, by omega, rfl, World.ownsRow_nil _ _ _ _, Below.refl _ _⟩
      case round =>
        obtain ⟨k, hk, rfl, hov, hb⟩ := hrel
        have HV := Lib.hid hov
        have HBW := Lib.hid hb
        have HXP := Lib.hid (Hp_1.out.below hb)
        have HXQ := Lib.hid (Hq_1.out.below hb)
        have HXR := Lib.hid (Hr_1.out.below hb)
        have HXO := Lib.hid (Ha_1.out.below hb)
        have HBB := Lib.hid (HB1.out.trans (hb.mono HB1.out.size))
        clear hov hb
        by_cases hlt : k < np
        · have hx : k < p.length := by rw [← HLp.out]; omega
          have hy : k < q.length := by rw [← HLq.out]; omega
          obtain ⟨ad, rfl, _, hcx⟩ := Byt.at_ HXP.out hx
          obtain ⟨ad', rfl, _, hcy⟩ := Byt.at_ HXQ.out hy
          have HEV := Lib.hid (show evTo o p[k] o.length = q[k] by have := HVAL.out k hx; rw [getD_lt hx, getD_lt hy] at this; exact (ev_hor o p[k]).trans this)
          have HC1 := Lib.hid (fun (W : World) (hW : W.heap = wr.heap) => eval_b W A1 o.length c1 o p[k] (HXO.out.heap_ hW))
          have HS := Lib.hid (vals_succ (r := r) hx)
          go_wp2
          go_region_with (first | (go_at_call 20; (with_reducible refine (HC1.out _ ?_).mono ?_); rfl; rw [HEV.out]; rintro e w1 ⟨rfl, d, rfl⟩))
          all_goals
            go_wp2_with fail
            refine (eval_b _ Ar nr cr r p[k] (HXR.out.below (below_drewN (Below.refl wr.heap.size wr) _))).mono ?_
            rw [show evTo r p[k] r.length = hor p[k] r from ev_hor r p[k]]
            rintro e w7 ⟨rfl, hd7⟩
            have HB7 := Lib.hid ((below_drewN (Below.refl wr.heap.size wr) _).trans (hd7.below _))
            have HV7 := Lib.hid (own_below HV.out HB7.out)
            have HBW7 := Lib.hid (HBW.out.trans (HB7.out.mono HBW.out.size))
            clear hd7
            go_wp2_with (at_builtin; refine wpl_push ty_u8 rfl _ _ rfl w1.heap.size u9 k (bv (vals p r k)) rfl (HV7.out.alloc _) _ (B (hor p[k] r)) rfl (Blk.new _ _ _) rfl (by have := HBW7.out.size; simp; omega) (by unfold maxLen; omega) (by omega) ?_; intro v' w8 hown8 hgrow _)
            go_roundw
            case rel => exact ⟨k + 1, by omega, by go_num, by rw [HS.out, bv_append]; exact hown8, push_below HBW7.out HBW7.out.size HV7.out hgrow⟩
            case measure => simp [intOf]; omega
        · have hkn : k = np := by omega
          subst hkn
          clear hlt hk
          have HVL := Lib.hid (vals_len (r := r) (show k ≤ p.length by rw [← HLp.out]; exact Nat.le_refl _))
          obtain ⟨Av, cv, rfl, hvy, _⟩ := byt_own HV.out
          have HVY := Lib.hid hvy
          clear hvy
          go_wp2_with fail
          refine (trim_b _ Ar nr cr r HXR.out (by omega)).mono ?_
          rintro e w7 ⟨v7, rfl, ho7, hb7⟩
          obtain ⟨A7, c7, rfl, hy7, _⟩ := byt_own ho7
          have HB7 := Lib.hid (HBB.out.trans (hb7.mono HBB.out.size))
          have HV7 := Lib.hid (HVY.out.below hb7)
          have HP7 := Lib.hid (HXP.out.below hb7)
          have HR7 := Lib.hid (HXR.out.below hb7)
          clear ho7 hb7 hy7
          by_cases htl : (trim r).length ≤ k
          · have HBK := Lib.hid (ip_back (p := r) (vs := vals p r k) HND.out (by rw [HVL.out, ← HLp.out]) (fun i hi => vals_getD (by rw [HLp.out]; exact Nat.le_refl _) hi) (by rw [← HLp.out]; exact htl))
            go_wp2_with fail
            refine (interp_b _ _ k _ p Av k cv (vals p r k) HP7.out HV7.out (by omega)).mono ?_
            rw [HBK.out]
            rintro e w8 ⟨v8, rfl, ho8, hb8⟩
            obtain ⟨A8, c8, rfl, hy8, _⟩ := byt_own ho8
            have HB8 := Lib.hid (HB7.out.trans (hb8.mono HB7.out.size))
            have HR8 := Lib.hid (HR7.out.below hb8)
            have HY8 := Lib.hid hy8
            clear ho8 hb8 hy8
            go_wp2_with fail
            refine (trim_b _ Ar nr cr r HR8.out (by omega)).mono ?_
            rintro e w9 ⟨v9, rfl, ho9, hb9⟩
            obtain ⟨A9, c9, rfl, hy9, _⟩ := byt_own ho9
            have HB9 := Lib.hid (HB8.out.trans (hb9.mono HB8.out.size))
            have HY89 := Lib.hid (HY8.out.below hb9)
            have HY9 := Lib.hid hy9
            clear ho9 hb9 hy9
            go_wp2_with fail
            refine (same_b _ A8 _ c8 (trim r) A9 _ c9 (trim r) HY89.out HY9.out).mono ?_
            rw [show (trim r == trim r) = true from beq_iff_eq.2 rfl]
            rintro e w10 ⟨rfl, rfl⟩
            go_wp2_with fail
            refine (awake_b _).mono ?_
            rintro e w11 ⟨rfl, hb11⟩
            have HB11 := Lib.hid (HB9.out.trans (hb11.mono HB9.out.size))
            clear hb11
            go_wp2
            go_ret
            exact ⟨rfl, HB11.out⟩
          · go_wp2_with fail
            refine (awake_b _).mono ?_
            rintro e w11 ⟨rfl, hb11⟩
            have HB11 := Lib.hid (HB7.out.trans (hb11.mono HB7.out.size))
            clear hb11
            go_wp2
            go_ret
            exact ⟨rfl, HB11.out⟩
    · have HZ0 := Lib.hid hz
      have HO := Lib.hid (show o = [] by have := ip_fail (xs := p) (ys := q) (by rw [hip]; exact hz); rw [hip] at this; exact this)
      have hez : (er == 0) = false := by rw [beq_eq_false_iff_ne]; exact hz
      clear hz hip
      go_wp2_with fail
      refine (interp_b _ Ap np cp p Aq nq cq q Hp_0.out Hq_0.out (by omega)).mono ?_
      rw [HIP.out, HO.out]
      rintro e w1 ⟨v1, rfl, ho1, hb1⟩
      obtain ⟨A1, c1, rfl, hy1, _⟩ := byt_own ho1
      have HB1 := Lib.hid (HB0.out.trans (hb1.mono HB0.out.size))
      have Hp_1 := Lib.hid (Hp_0.out.below hb1)
      have Hq_1 := Lib.hid (Hq_0.out.below hb1)
      have Hr_1 := Lib.hid (Hr_0.out.below hb1)
      have Ha_1 := Lib.hid hy1
      clear ho1 hb1 hy1
      go_wp2_with fail
      refine (awake_b _).mono ?_
      rintro e w2 ⟨rfl, hb2⟩
      have HB2 := Lib.hid (HB1.out.trans (hb2.mono HB1.out.size))
      clear hb2
      go_wp2
      go_ret
      exact ⟨rfl, HB2.out⟩
  · have HT := Lib.hid (show allLe 16 [(Ap, np, cp), (Aq, nq, cq), (Ar, nr, cr)] = false by simp [allLe]; omega)
    clear hp hlnp hq hlnq hr hlnr hs
    go_enter Try.func5, Try.ntmps5
    go_wp2_with fail
    refine (small_b _ _ 3 3 16 [(Ap, np, cp), (Aq, nq, cq), (Ar, nr, cr)] HSL.out HLE.out).mono ?_
    rw [HT.out]
    rintro e w' ⟨rfl, rfl⟩
    go_wp2_with fail
    refine (awake_b _).mono ?_
    rintro e w1 ⟨rfl, hb⟩
    have HB := Lib.hid (HB0.out.trans (hb.mono HB0.out.size))
    clear hb
    go_wp2
    go_ret
    exact ⟨rfl, HB.out⟩

end GfpolyInterpolates
end Go.Proofs.Ytphlagmalppbkaa
