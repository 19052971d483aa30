/- steleref15.first gives the rows of chs. -/
import Derived.Test.YtpljpceldlaphaaEv
namespace Go.Proofs.Ytpljpceldlaphaa
open Go.RowKit

set_option maxRecDepth 100000 in
set_option maxHeartbeats 4000000 in
theorem first_f (w : World) (A : Option Addr) (n c : Nat) (hv : List (Int × ByteArray)) (h : Shs w A n c hv) (hr : ∀ x ∈ hv, 0 ≤ x.1 ∧ x.1 ≤ 14) (hs : ∀ x ∈ hv, x.2.size ≤ 65536) (data : Nat) (hd : data ≤ 15) :
    Calls Try.prog 35 #[.slice A n c, .int .i64 (data : Int)] w (GivesP w (chs data hv)) := by
  have hn := h.len
  have hlc : n ≤ c := h.1
  have hcm : c ≤ 9223372036854775807 := h.2.1
  have HV := Lib.hid h
  have HN := Lib.hid hn
  have HR := Lib.hid hr
  have HS := Lib.hid hs
  clear h hn hr hs
  go_enter Try.func35, Try.ntmps35
  go_wp2
  go_loopw [6, 7, 8] (fun vx vy i wr => ∃ j m : Nat, j ≤ n ∧ i = .int .i64 (j : Int) ∧ m = (chs data (hv.take j)).1.length ∧ Pair 5 9 w wr vx m (bv (chs data (hv.take j)).1) vy m ((chs data (hv.take j)).2.map Value.string)) (fun _ _ i _ => n - (intOf i).toNat)
  case atStart =>
    refine ⟨0, 0, by omega, rfl, rfl, own_alloc (World.ownsRow_lit w #[] 0 (Nat.le_refl _) (Nat.zero_le _) rfl) _, lit1 w _ 9, fun g e e2 => ?_, ((Below.refl _ w).alloc (Nat.le_refl _) _).alloc ((Below.refl _ w).alloc (Nat.le_refl _) _).size _⟩
    have h1 : some w.heap.size = some g := e
    have h2 : some (w.heap.size + 1) = some g := e2
    injection h1 with h1
    injection h2 with h2
    omega
  case round =>
    obtain ⟨j, m, hj, rfl, hm, hT⟩ := hrel
    have HT := Lib.hid hT
    have HM := Lib.hid hm
    clear hT hm
    have hmd : m ≤ data := by rw [HM.out]; exact (chs_inv data (hv.take j)).le
    obtain ⟨Ax, cx, rfl, hbx, _⟩ := byt_own HT.out.1
    obtain ⟨Ay, cy, rfl, hby, _⟩ := lst_own HT.out.2.1
    have hlx : m ≤ cx := hbx.1
    have hcx : cx ≤ 9223372036854775807 := hbx.2.1
    have HBX := Lib.hid hbx
    clear hbx hby
    by_cases hlt : j < n
    · by_cases hmlt : m < data
      · have hjl : j < hv.length := by rw [← HN.out]; exact hlt
        obtain ⟨X, hX⟩ : ∃ X, X = hv[j] := ⟨_, rfl⟩
        have HX := Lib.hid hX
        obtain ⟨jx, hjx, hjx2⟩ : ∃ jx : Nat, X.1 = (jx : Int) ∧ jx < 15 := by
          have := HR.out _ (List.getElem_mem hjl)
          rw [← hX] at this
          exact ⟨X.1.toNat, by omega, by omega⟩
        obtain ⟨xs, hxs⟩ : ∃ xs, xs = (chs data (hv.take j)).1 := ⟨_, rfl⟩
        obtain ⟨bs, hbs⟩ : ∃ bs, bs = (chs data (hv.take j)).2 := ⟨_, rfl⟩
        have HXS := Lib.hid hxs
        have HBS := Lib.hid hbs
        rw [← hxs] at HBX HM
        rw [← hxs, ← hbs] at HT
        clear hX hxs hbs
        go_wp2
        obtain ⟨wo, hwo⟩ : ∃ wo, wo = wr := ⟨_, rfl⟩
        rw [← hwo] at HT HBX
        subst hwo
        go_loopw [9, 10] (fun kn i W => ∃ q : Nat, q ≤ m ∧ i = .int .i64 (q : Int) ∧ kn = .bool (knw xs (jx : Int) q) ∧ Pair 5 9 w W (.slice Ax m cx) m (bv xs) (.slice Ay m cy) m (bs.map Value.string) ∧ Below wo.heap.size wo W) (fun _ i _ => m - (intOf i).toNat)
        case atStart => exact ⟨0, by omega, rfl, rfl, HT.out, Below.refl _ _⟩
        case round =>
          obtain ⟨q, hq, rfl, rfl, hP, hB⟩ := hrel
          have HP := Lib.hid hP
          have HB := Lib.hid hB
          clear hP hB
          by_cases hqm : q < m
          · have hxl : xs.length = m := HM.out.symm
            have hql : q < xs.length := by rw [hxl]; exact hqm
            obtain ⟨ad, rfl, _, hcq⟩ := (HBX.out.below HB.out).at_ hql
            obtain ⟨av, rfl, _, hcv, _⟩ := (HV.out.below HP.out.2.2.2).at_ hjl
            rw [← HX.out, hjx] at hcv
            have HK := Lib.hid (knw_succ (x := (jx : Int)) hql)
            have hwq : IntKind.i64.wrap ((xs[q].toNat : Nat) : Int) = ((xs[q].toNat : Nat) : Int) := IntWalk.i64_in _ (by have := xs[q].toNat_lt; omega)
            clear hxl
            cases hkn : knw xs (jx : Int) q with
            | true =>
              rw [hkn] at HK
              go_wp2
              go_quiet (fail)
              all_goals
                go_wp2
                go_roundw
                case rel => exact ⟨q + 1, by omega, by go_num, by rw [HK.out]; rfl, HP.out.drewN _, below_drewN HB.out _⟩
                case measure => simp [intOf]; omega
            | false =>
              rw [hkn, Bool.false_or] at HK
              go_wp2
              go_quiet (fail)
              all_goals
                go_wp2
                go_roundw
                case rel => exact ⟨q + 1, by omega, by go_num, by rw [HK.out], HP.out.drewN _, below_drewN HB.out _⟩
                case measure => simp [intOf]; omega
          · have hqe : q = m := by omega
            have hge : m ≤ q := by omega
            have HKA := Lib.hid (show knw xs (jx : Int) q = decide (byt8 (jx : Int) ∈ xs) by rw [hqe, show m = xs.length from HM.out]; exact knw_all (by omega))
            have HCT := Lib.hid (chs_take (data := data) hjl)
            have HSTP := Lib.hid (show chs data (hv.take (j + 1)) = if byt8 (jx : Int) ∉ xs then (xs ++ [byt8 (jx : Int)], bs ++ [X.2]) else (xs, bs) by
              rw [HCT.out, ← HX.out]
              unfold chStep
              rw [hjx, ← HXS.out, ← HBS.out, show xs.length = m from HM.out.symm]
              by_cases hc : byt8 (jx : Int) ∉ xs
              · rw [if_pos ⟨hmlt, hc⟩, if_pos hc]
              · rw [if_neg (fun h => hc h.2), if_neg hc, HXS.out, HBS.out])
            by_cases hc : byt8 (jx : Int) ∈ xs
            · rw [if_neg (fun h => h hc)] at HSTP
              rw [decide_eq_true hc] at HKA
              rw [HKA.out]
              go_wp2
              go_roundw
              case rel => exact ⟨j + 1, m, by omega, by go_num, by rw [HSTP.out]; exact HM.out, by rw [HSTP.out]; exact HP.out⟩
              case measure => simp [intOf]; omega
            · rw [if_pos hc] at HSTP
              rw [decide_eq_false hc] at HKA
              rw [HKA.out]
              obtain ⟨av, rfl, _, hcv0, hcv1⟩ := (HV.out.below HP.out.2.2.2).at_ hjl
              obtain ⟨b, hb⟩ : ∃ b, b = byt8 (jx : Int) := ⟨_, rfl⟩
              rw [← hb] at HSTP
              have hwr1 : IntKind.u8.wrap (jx : Int) = (b.toNat : Int) := by rw [IntKind.wrap_u8, hb, byt8_nat (by omega), UInt8.toNat_ofNat']; omega
              obtain ⟨t, ht⟩ : ∃ t, t = X.2 := ⟨_, rfl⟩
              rw [← ht] at HSTP
              have HCZ := Lib.hid (fun (W : World) (hW : Below w.heap.size w W) => show W.cell? (av.add (j * 2)) = some (.int .i64 (jx : Int)) ∧ W.cell? ⟨(av.add (j * 2)).block, (av.add (j * 2)).off + 1, none⟩ = some (.string t) by
                obtain ⟨_, e1, _, h0, h1⟩ := (HV.out.below hW).at_ hjl
                injection e1 with e1
                subst e1
                rw [← HX.out] at h0 h1
                rw [hjx] at h0
                rw [ht]
                exact ⟨h0, h1⟩)
              have hk1 : m + 1 ≤ maxLen := by unfold maxLen; omega
              have hk2 : (m + 1) * 1 ≤ 140737488355328 := by omega
              have hk3 : (m + 1) * 16 ≤ 140737488355328 := by omega
              clear hb ht hcv0 hcv1
              go_wp2
              go_region_held3 (fun W => W.cell? (av.add (j * 2)) = some (.int .i64 (jx : Int)) ∧ W.cell? ⟨(av.add (j * 2)).block, (av.add (j * 2)).off + 1, none⟩ = some (.string t))
                (first | exact HCZ.out _ HP.out.drew.2.2.2 | exact HCZ.out _ (HP.out.drew.alloc _).2.2.2 | exact HCZ.out _ ((HP.out.drew.alloc _).alloc _).2.2.2 | exact HCZ.out _ HP5.out.2.2.2 | exact HCZ.out _ (HP5.out.alloc _).2.2.2 | exact HCZ.out _ HP6.out.2.2.2)
                (first
                  | (refine step_push ty_u8 (by rfl) _ _ (by rfl) w.heap.size (.slice Ax m cx) m (bv xs) (by rfl) (HP.out.drew.alloc _).1 _ (B b) (by rfl) (Blk.new _ _ _) rfl (HP.out.drew.alloc _).sz hk1 hk2 ?_; intro v5 w5 hown5 hgrow5 hv5; have HP5 := Lib.hid ((HP.out.drew.alloc _).gx hown5 hgrow5 hv5))
                  | (refine step_push ty_u8 (by rfl) _ _ (by rfl) w.heap.size (.slice Ax m cx) m (bv xs) (by rfl) ((HP.out.drew.alloc _).alloc _).1 _ (B b) (by rfl) (Blk.new1 _ _ _ _) rfl ((HP.out.drew.alloc _).alloc _).sz hk1 hk2 ?_; intro v5 w5 hown5 hgrow5 hv5; have HP5 := Lib.hid (((HP.out.drew.alloc _).alloc _).gx hown5 hgrow5 hv5); have HBK := Lib.hid (Blk.grown (Blk.alloc (Blk.new wr.drew 9 #[.string t]) _) hgrow5 (HP.out.drew.nx _ (Nat.le_refl _))))
                  | (refine step_push ty_u8 (by rfl) _ _ (by rfl) w.heap.size (.slice Ax m cx) m (bv xs) (by rfl) ((HP.out.drew.alloc _).alloc _).1 _ (B b) (by rfl) (Blk.alloc (Blk.new _ _ _) _) rfl ((HP.out.drew.alloc _).alloc _).sz hk1 hk2 ?_; intro v5 w5 hown5 hgrow5 hv5; have HP5 := Lib.hid (((HP.out.drew.alloc _).alloc _).gx hown5 hgrow5 hv5); have HBK := Lib.hid (Blk.grown (Blk.new1 wr.drew _ 9 #[.string t]) hgrow5 ((HP.out.drew.alloc (.cells #[B b] 5)).nx _ (Nat.le_of_eq (alloc_sz wr.drew _)))))
                  | (refine step_push ty_str (by rfl) _ _ (by rfl) w.heap.size (.slice Ay m cy) m (bs.map Value.string) (by rfl) HP5.out.2.1 _ (.string t) (by rfl) HBK.out rfl HP5.out.sz hk1 hk3 ?_; intro v6 w6 hown6 hgrow6 hv6; have HP6 := Lib.hid (HP5.out.gy hown6 hgrow6 hv6))
                  | (refine step_push ty_str (by rfl) _ _ (by rfl) w.heap.size (.slice Ay m cy) m (bs.map Value.string) (by rfl) (HP5.out.alloc _).2.1 _ (.string t) (by rfl) (Blk.new _ _ _) rfl (HP5.out.alloc _).sz hk1 hk3 ?_; intro v6 w6 hown6 hgrow6 hv6; have HP6 := Lib.hid ((HP5.out.alloc _).gy hown6 hgrow6 hv6)))
              all_goals
                go_wp2
                go_roundw
                case rel => exact ⟨j + 1, m + 1, by omega, by go_num, by rw [HSTP.out]; show m + 1 = (xs ++ [b]).length; rw [List.length_append, ← HM.out]; rfl, by rw [HSTP.out, bv_append, List.map_append]; exact HP6.out⟩
                case measure => simp [intOf]; omega
      · have hge : data ≤ m := by omega
        have HST := Lib.hid (chs_stop (data := data) (hv := hv) (i := j) (by rw [← HM.out]; exact hmlt))
        go_wp2
        go_ret2
        rw [HST.out]
        exact ⟨_, _, rfl, by rw [← HM.out]; exact HT.out⟩
    · have hge : n ≤ j := by omega
      have HST := Lib.hid (show hv.take j = hv from List.take_of_length_le (by rw [← HN.out]; exact hge))
      rw [HST.out] at HT HM
      go_wp2
      go_ret2
      exact ⟨_, _, rfl, by rw [← HM.out]; exact HT.out⟩

end Go.Proofs.Ytpljpceldlaphaa
