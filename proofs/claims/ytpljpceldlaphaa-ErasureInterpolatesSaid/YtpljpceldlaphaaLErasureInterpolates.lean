/- The law ErasureInterpolates of stelelaw15 returns true for every input, and the argument reads behind the call as it read before. No conditions. -/
import Derived.Test.YtpljpceldlaphaaEt

namespace Go.Proofs.Ytpljpceldlaphaa
namespace ErasureInterpolates
open Go.RowKit

theorem ip_stripe (l : List ByteArray) (k : Nat) : ipRun (idx (evn l).length) (col (stD l) k) = (spol (stD l) k, 0) := by
  have hb := evn_bound l
  have hnd : (idx (evn l).length).Nodup := idx_nodup (by omega)
  have htr : trim (spol (stD l) k) = spol (stD l) k := trim_canon (spol_canon _ _)
  have := ip_back (xs := idx (evn l).length) (p := spol (stD l) k) (vs := col (stD l) k) hnd (by rw [idx_len]; unfold col; rw [List.length_map, stD_len]) (fun i hi => by
    rw [col_getD]
    unfold spol
    rw [stD_len, pol_val hnd _ _ hi]) (by rw [htr, idx_len]; have := spol_len (stD l) k; rwa [stD_len] at this)
  rw [htr] at this
  exact this
theorem col_succ {l : List ByteArray} {k i : Nat} (hi : i < (evn l).length) {z : ByteArray} (hz : z = (evn l)[i]) (hk : k < z.size) : (col (stD l) k).take (i + 1) = (col (stD l) k).take i ++ [z[k]] := by
  subst hz
  have hl : i < (col (stD l) k).length := by unfold col; rw [List.length_map, stD_len]; exact hi
  have hg := col_getD (stD l) k i
  rw [List.take_succ_eq_append_getElem hl]
  rw [getD_lt hl] at hg
  rw [hg]
  congr 2
  have : (stD l).getD i [] = bl (evn l)[i] := by
    unfold stD
    simp [List.getD, List.getElem?_map, List.getElem?_eq_getElem hi]
  rw [this]
  exact bl_getD _ _

theorem alloc_sz (w : World) (o : Obj) : (w.alloc o).heap.size = w.heap.size + 1 := by simp
theorem Blk.new1 (w : World) (o : Obj) (t : TypeId) (cs : Array Value) : Blk ((w.alloc o).alloc (.cells cs t)) (w.heap.size + 1) t cs := by
  have := Blk.new (w.alloc o) t cs
  rwa [alloc_sz] at this
theorem lit1 (w : World) (o : Obj) (t : TypeId) : ((w.alloc o).alloc (.cells #[] t)).ownsRow w.heap.size t 1 (.slice (some ⟨w.heap.size + 1, 0, none⟩) 0 0) 0 [] := by
  have := World.ownsRow_lit (base := w.heap.size) (e := t) (size := 1) (w.alloc o) #[] 0 (by rw [alloc_sz]; omega) (Nat.zero_le _) rfl
  rwa [alloc_sz] at this
/-- two rows of bytes of the call's own, in blocks that differ -/
def Two (W0 W : World) (vx : Value) (nx : Nat) (xs : List Value) (vy : Value) (ny : Nat) (ys : List Value) : Prop :=
  W.ownsRow W0.heap.size 5 1 vx nx xs ∧ W.ownsRow W0.heap.size 5 1 vy ny ys ∧ (∀ g, vx.ownBlock = some g → vy.ownBlock ≠ some g) ∧ Below W0.heap.size W0 W
section
variable {W0 W : World} {vx vy : Value} {nX nY : Nat} {xs ys : List Value}
theorem Two.alloc (h : Two W0 W vx nX xs vy nY ys) (o : Obj) : Two W0 (W.alloc o) vx nX xs vy nY ys := ⟨own_alloc h.1 o, own_alloc h.2.1 o, h.2.2.1, h.2.2.2.alloc h.2.2.2.size o⟩
theorem Two.drew (h : Two W0 W vx nX xs vy nY ys) : Two W0 W.drew vx nX xs vy nY ys := ⟨h.1, h.2.1, h.2.2.1, h.2.2.2.drew⟩
theorem Two.gx (h : Two W0 W vx nX xs vy nY ys) {W' : World} {v' : Value} {n' : Nat} {xs' : List Value} (ho : W'.ownsRow W0.heap.size 5 1 v' n' xs') (hg : W.grownBy W' vx.ownBlock) (hv : v'.ownBlock = vx.ownBlock ∨ v'.ownBlock = some W.heap.size) : Two W0 W' v' n' xs' vy nY ys := by
  refine ⟨ho, own_grown h.2.1 hg h.2.2.1, fun g e e2 => ?_, h.2.2.2.grown hg h.2.2.2.size (fun k hk => (h.1.lt k hk).1)⟩
  rcases hv with hv | hv
  · exact h.2.2.1 g (hv.symm.trans e) e2
  · have e3 := hv.symm.trans e
    injection e3 with e3
    have := (h.2.1.lt g e2).2
    omega
theorem Two.gy (h : Two W0 W vx nX xs vy nY ys) {W' : World} {v' : Value} {n' : Nat} {ys' : List Value} (ho : W'.ownsRow W0.heap.size 5 1 v' n' ys') (hg : W.grownBy W' vy.ownBlock) (hv : v'.ownBlock = vy.ownBlock ∨ v'.ownBlock = some W.heap.size) : Two W0 W' vx nX xs v' n' ys' := by
  refine ⟨own_grown h.1 hg (fun g e e2 => h.2.2.1 g e2 e), ho, fun g e e2 => ?_, h.2.2.2.grown hg h.2.2.2.size (fun k hk => (h.2.1.lt k hk).1)⟩
  rcases hv with hv | hv
  · exact h.2.2.1 g e (hv.symm.trans e2)
  · have e3 := hv.symm.trans e2
    injection e3 with e3
    have := (h.1.lt g e).2
    omega
theorem Two.nx (h : Two W0 W vx nX xs vy nY ys) (g : Nat) (hg : W.heap.size ≤ g) : some g ≠ vx.ownBlock := fun e => by have := (h.1.lt g e.symm).2; omega
theorem Two.sz (h : Two W0 W vx nX xs vy nY ys) : W0.heap.size ≤ W.heap.size := h.2.2.2.size
end

set_option maxRecDepth 100000 in
set_option maxHeartbeats 4000000 in
theorem core (w : World) (A : Option Addr) (n c : Nat) (l : List ByteArray) (h : Lst Value.string w A n c l) (s : Nat) (hs : s < 256) (at_ : Nat) (hat : at_ < 256) :
    Calls Try.prog 10 #[.slice A n c, .int .u8 (s : Int), .int .u8 (at_ : Int)] w fun e w' => e = .returned (.bool true) ∧ Below w.heap.size w w' := by
  have hsp : s % 8 ≤ 7 := by omega
  have HSP := Lib.hid hsp
  have HC := Lib.hid (stripe_b w A n c l h s hs)
  have hbd := evn_bound l
  obtain ⟨D, hD⟩ : ∃ D, D = (evn l).length := ⟨_, rfl⟩
  obtain ⟨M, hM⟩ : ∃ M, M = (stL l (s % 8)).length := ⟨_, rfl⟩
  obtain ⟨L, hL⟩ : ∃ L, L = evL l := ⟨_, rfl⟩
  have hL4 := evL_le l
  rw [← hL] at hL4
  have HD := Lib.hid hD
  have HM := Lib.hid hM
  have HL := Lib.hid hL
  have hMb : M ≤ 15 := by rw [hM, stL_len]; omega
  rw [← hD] at hbd
  have h0l : 0 < (evn l).length := by omega
  have HSZ := Lib.hid (show ∀ t ∈ evn l, t.size = L by rw [hL]; exact evn_size l)
  clear h hD hM hsp hL
  go_enter Try.func10, Try.ntmps10
  go_wp2_with fail
  refine HC.out.mono ?_
  rintro e w1 ⟨v1, v2, rfl, ho1, ho2, hb1⟩
  rw [← HD.out] at ho1
  rw [← HM.out] at ho2
  obtain ⟨A1, c1, rfl, hy1, _⟩ := lst_own ho1
  obtain ⟨A2, c2, rfl, hy2, _⟩ := shs_own ho2
  have HY1 := Lib.hid hy1
  have HY2 := Lib.hid hy2
  have hlc1 : D ≤ c1 := hy1.1
  have hcm1 : c1 ≤ 9223372036854775807 := hy1.2.1
  have hlc2 : M ≤ c2 := hy2.1
  have hcm2 : c2 ≤ 9223372036854775807 := hy2.2.1
  have HB1 := Lib.hid hb1
  obtain ⟨ad1, rfl, _, hd0⟩ := hy1.at_ h0l
  rw [show ad1.add 0 = ad1 from rfl] at hd0
  have HS0 := Lib.hid (HSZ.out _ (List.getElem_mem h0l))
  have hsz1 : (evn l)[0].size ≤ L := by rw [HS0.out]; exact Nat.le_refl _
  have hsz2 : L ≤ (evn l)[0].size := by rw [HS0.out]; exact Nat.le_refl _
  clear ho1 ho2 hb1 hy1 hy2
  obtain ⟨z0, hz0⟩ : ∃ z0, z0 = (evn l)[0] := ⟨_, rfl⟩
  have hzs : z0.size = L := by rw [hz0]; exact HS0.out
  rw [← hz0] at hd0 hsz1 hsz2
  clear hz0
  by_cases hL0 : L = 0
  · have hz : (((z0.size : Nat) : Int) == 0) = true := by rw [beq_iff_eq]; omega
    have hze : z0 = ByteArray.empty := ByteArray.size_eq_zero_iff.1 (by omega)
    go_wp2_with fail
    refine (awake_e _).mono ?_
    rintro e w4 ⟨rfl, hb4⟩
    have HB4 := Lib.hid (HB1.out.trans (hb4.mono HB1.out.size))
    clear hb4
    go_wp2
    go_ret
    exact ⟨rfl, HB4.out⟩
  · have hz : (((z0.size : Nat) : Int) == 0) = false := by rw [beq_eq_false_iff_ne]; omega
    obtain ⟨k, hk⟩ : ∃ k, k = at_ % L := ⟨_, rfl⟩
    have hkL : k < L := by rw [hk]; exact Nat.mod_lt _ (by omega)
    have hze : ¬ z0 = ByteArray.empty := fun e => by rw [e] at hzs; exact hL0 hzs.symm
    have hkm : (at_ : Int) % (z0.size : Int) = (k : Int) := by rw [hzs, hk]; exact (Int.natCast_emod at_ L).symm
    have HIP := Lib.hid (ip_stripe l k)
    rw [← HD.out] at HIP
    have HCL := Lib.hid (show (col (stD l) k).length = D by unfold col; rw [List.length_map, stD_len]; exact HD.out.symm)
    have HZS := Lib.hid hzs
    clear hk hzs
    go_wp2
    rw [hkm]
    clear hkm
    go_loopw [11, 12, 43] (fun vx vy i wr => ∃ j : Nat, j ≤ D ∧ i = .int .i64 (j : Int) ∧ Two w1 wr vx j (bv (idx j)) vy j (bv ((col (stD l) k).take j))) (fun _ _ i _ => D - (intOf i).toNat)
    case atStart =>
      refine ⟨0, by omega, rfl, own_alloc (World.ownsRow_lit w1 #[] 0 (Nat.le_refl _) (Nat.zero_le _) rfl) _, lit1 w1 _ 5, fun g e e2 => ?_, ((Below.refl _ w1).alloc (Nat.le_refl _) _).alloc ((Below.refl _ w1).alloc (Nat.le_refl _) _).size _⟩
      have h1 : some w1.heap.size = some g := e
      have h2 : some (w1.heap.size + 1) = some g := e2
      injection h1 with h1
      injection h2 with h2
      omega
    case round =>
      obtain ⟨j, hj, rfl, hT⟩ := hrel
      have HT := Lib.hid hT
      clear hT
      by_cases hlt : j < D
      · have hjl : j < (evn l).length := by rw [← HD.out]; exact hlt
        obtain ⟨z, hz1⟩ : ∃ z, z = (evn l)[j] := ⟨_, rfl⟩
        have hzk : k < z.size := by rw [hz1, HSZ.out _ (List.getElem_mem hjl)]; exact hkL
        obtain ⟨b, hb⟩ : ∃ b, b = UInt8.ofNat j := ⟨_, rfl⟩
        have hwr1 : IntKind.u8.wrap (j : Int) = (b.toNat : Int) := by rw [IntKind.wrap_u8, hb, UInt8.toNat_ofNat']; omega
        have HS1 := Lib.hid (show idx (j + 1) = idx j ++ [b] by rw [hb]; exact idx_succ j)
        have HS2 := Lib.hid (col_succ hjl hz1 hzk)
        have HCZ := Lib.hid (fun (W : World) (hW : Below w1.heap.size w1 W) => show W.cell? (ad1.add j) = some (.string z) by
          obtain ⟨_, e1, _, hc⟩ := (HY1.out.below hW).at_ hjl
          injection e1 with e1
          subst e1
          rw [hz1]; exact hc)
        have hk1 : j + 1 ≤ maxLen := by unfold maxLen; omega
        have hk2 : (j + 1) * 1 ≤ 140737488355328 := by omega
        clear hz1 hb
        go_wp2
        go_region_held3 (fun W => W.cell? (ad1.add j) = some (.string z))
          (first | exact HCZ.out _ HT.out.drew.2.2.2 | exact HCZ.out _ (HT.out.drew.alloc _).2.2.2 | exact HCZ.out _ ((HT.out.drew.alloc _).alloc _).2.2.2 | exact HCZ.out _ HT5.out.2.2.2 | exact HCZ.out _ (HT5.out.alloc _).2.2.2 | exact HCZ.out _ HT6.out.2.2.2)
          (first
            | (refine step_push ty_u8 (by rfl) _ _ (by rfl) w1.heap.size u11 j (bv (idx j)) (by rfl) (HT.out.drew.alloc _).1 _ (B b) (by rfl) (Blk.new _ _ _) rfl (HT.out.drew.alloc _).sz hk1 hk2 ?_; intro v5 w5 hown5 hgrow5 hv5; have HT5 := Lib.hid ((HT.out.drew.alloc _).gx hown5 hgrow5 hv5))
            | (refine step_push ty_u8 (by rfl) _ _ (by rfl) w1.heap.size u11 j (bv (idx j)) (by rfl) ((HT.out.drew.alloc _).alloc _).1 _ (B b) (by rfl) (Blk.new1 _ _ _ _) rfl ((HT.out.drew.alloc _).alloc _).sz hk1 hk2 ?_; intro v5 w5 hown5 hgrow5 hv5; have HT5 := Lib.hid (((HT.out.drew.alloc _).alloc _).gx hown5 hgrow5 hv5); have HBK := Lib.hid (Blk.grown (Blk.alloc (Blk.new wr.drew 5 #[B z[k]]) _) hgrow5 (HT.out.drew.nx _ (Nat.le_refl _))))
            | (refine step_push ty_u8 (by rfl) _ _ (by rfl) w1.heap.size u11 j (bv (idx j)) (by rfl) ((HT.out.drew.alloc _).alloc _).1 _ (B b) (by rfl) (Blk.alloc (Blk.new _ _ _) _) rfl ((HT.out.drew.alloc _).alloc _).sz hk1 hk2 ?_; intro v5 w5 hown5 hgrow5 hv5; have HT5 := Lib.hid (((HT.out.drew.alloc _).alloc _).gx hown5 hgrow5 hv5); have HBK := Lib.hid (Blk.grown (Blk.new1 wr.drew _ 5 #[B z[k]]) hgrow5 ((HT.out.drew.alloc (.cells #[B b] 5)).nx _ (Nat.le_of_eq (alloc_sz wr.drew _)))))
            | (refine step_push ty_u8 (by rfl) _ _ (by rfl) w1.heap.size u12 j (bv ((col (stD l) k).take j)) (by rfl) HT5.out.2.1 _ (B z[k]) (by rfl) HBK.out rfl HT5.out.sz hk1 hk2 ?_; intro v6 w6 hown6 hgrow6 hv6; have HT6 := Lib.hid (HT5.out.gy hown6 hgrow6 hv6))
            | (refine step_push ty_u8 (by rfl) _ _ (by rfl) w1.heap.size u12 j (bv ((col (stD l) k).take j)) (by rfl) (HT5.out.alloc _).2.1 _ (B z[k]) (by rfl) (Blk.new _ _ _) rfl (HT5.out.alloc _).sz hk1 hk2 ?_; intro v6 w6 hown6 hgrow6 hv6; have HT6 := Lib.hid ((HT5.out.alloc _).gy hown6 hgrow6 hv6)))
        all_goals
          go_wp2
          go_roundw
          case rel => exact ⟨j + 1, by omega, by go_num, by rw [HS1.out, HS2.out, bv_append, bv_append]; exact HT6.out⟩
          case measure => simp [intOf]; omega
      · have hjD : j = D := by omega
        have hge : D ≤ j := by omega
        have hTx := HT.out.1
        have hTy := HT.out.2.1
        have hTb := HT.out.2.2.2
        rw [hjD] at hTx hTy
        rw [List.take_of_length_le (by rw [HCL.out]; exact Nat.le_refl _)] at hTy
        obtain ⟨Ax, cx, rfl, hbx, _⟩ := byt_own hTx
        obtain ⟨Ay, cy, rfl, hby, _⟩ := byt_own hTy
        have HC3 := Lib.hid (interp_b wr Ax D cx (idx D) Ay D cy (col (stD l) k) hbx hby (by rw [idx_len]; omega))
        rw [HIP.out] at HC3
        have HBR := Lib.hid hTb
        clear hTx hTy hTb hbx hby HT
        go_wp2_with fail
        refine HC3.out.mono ?_
        rintro e w3 ⟨v3, rfl, ho3, hb3⟩
        obtain ⟨p, hp⟩ : ∃ p, p = spol (stD l) k := ⟨_, rfl⟩
        replace ho3 : w3.ownsRow wr.heap.size 5 1 v3 p.length (bv p) := by rw [hp]; exact ho3
        obtain ⟨Ap, cp, rfl, hyp, _⟩ := byt_own ho3
        have HYP := Lib.hid hyp
        have HB3 := Lib.hid (HBR.out.trans (hb3.mono HBR.out.size))
        have HP := Lib.hid hp
        clear ho3 hb3 hyp hp
        go_wp2
        obtain ⟨wo, hwo⟩ : ∃ wo, wo = wr := ⟨_, rfl⟩
        rw [← hwo] at HBR HC3
        subst hwo
        go_loopw [69] (fun i W => ∃ q : Nat, q ≤ M ∧ i = .int .i64 (q : Int) ∧ Below w3.heap.size w3 W) (fun i _ => M - (intOf i).toNat)
        case atStart => exact ⟨0, by omega, rfl, Below.refl _ w3⟩
        case round =>
          obtain ⟨q, hq, rfl, hb⟩ := hrel
          have HBW := Lib.hid hb
          have HBT := Lib.hid (HB3.out.trans (hb.mono HB3.out.size))
          have HYW := Lib.hid (HYP.out.below hb)
          clear hb
          by_cases hqM : q < M
          · have hql : q < (stL l (s % 8)).length := by rw [← HM.out]; exact hqM
            have hqa := stL_at l (sp := s % 8) hql
            obtain ⟨ad2, rfl, _, hc0, hc1⟩ := (HY2.out.below HBT.out).at_ hql
            rw [hqa] at hc0 hc1
            obtain ⟨t, ht⟩ : ∃ t, t = ofL (shr (stD l) q) := ⟨_, rfl⟩
            rw [show ((q : Int), ofL (shr (stD l) q)).2 = t from ht.symm] at hc1
            rw [show ((q : Int), ofL (shr (stD l) q)).1 = (q : Int) from rfl] at hc0
            have htl : bl t = shr (stD l) q := by rw [ht, bl_ofL]
            have hkt : k < t.size := by rw [← bl_length, htl, shr_len (stD_even l), ← HL.out]; exact hkL
            obtain ⟨b, hb⟩ : ∃ b, b = UInt8.ofNat q := ⟨_, rfl⟩
            have hwr1 : IntKind.u8.wrap (q : Int) = (b.toNat : Int) := by rw [IntKind.wrap_u8, hb, UInt8.toNat_ofNat']; omega
            have HEV := Lib.hid (show evTo p b p.length = t[k] by
              rw [← bl_getD t hkt, htl, shr_at (stD_even l) q (by rw [← HL.out]; exact hkL), ← hb, ← HP.out]
              exact ev_hor p b)
            have HC1 := Lib.hid (fun (W : World) (hW : W.heap = wr.heap) => eval_b W Ap p.length cp p b (HYW.out.heap_ hW))
            clear ht htl hb
            go_wp2
            go_region_with (first | (go_at_call 25; (with_reducible refine (HC1.out _ ?_).mono ?_); rfl; rw [HEV.out]; rintro e w5 ⟨rfl, d, rfl⟩))
            all_goals
              go_wp2
              go_roundw
              case rel => exact ⟨q + 1, by omega, by go_num, below_drewN HBW.out _⟩
              case measure => simp [intOf]; omega
          · have hge2 : M ≤ q := by omega
            go_wp2_with fail
            refine (awake_e _).mono ?_
            rintro e w4 ⟨rfl, hb4⟩
            have HB4 := Lib.hid (HB1.out.trans ((HBT.out.trans (hb4.mono HBT.out.size)).mono HB1.out.size))
            clear hb4
            go_wp2
            go_ret
            exact ⟨rfl, HB4.out⟩

end ErasureInterpolates
end Go.Proofs.Ytpljpceldlaphaa
