/- steleref15.Check answers restE. -/
import Derived.Test.YtpljpceldlaphaaEw
namespace Go.Proofs.Ytpljpceldlaphaa
open Go.RowKit

theorem any_take {α : Type} {l : List α} {p : α → Bool} {k : Nat} (h : k < l.length) (h0 : (l.take k).any p = false) (h1 : p l[k] = false) : (l.take (k + 1)).any p = false := by
  rw [List.take_succ_eq_append_getElem h, List.any_append, h0]
  simp [h1]

set_option maxRecDepth 100000 in
set_option maxHeartbeats 4000000 in
theorem check_f (w : World) (A : Option Addr) (n c : Nat) (hv : List (Int × ByteArray)) (h : Shs w A n c hv) (hm : ∀ x ∈ hv, (IntKind.i64.min ≤ x.1 ∧ x.1 ≤ IntKind.i64.max) ∧ x.2.size ≤ 65536) (data : Int) (hd : IntKind.i64.min ≤ data ∧ data ≤ IntKind.i64.max) :
    Calls Try.prog 34 #[.slice A n c, .int .i64 data] w fun e w' => e = .returned (.int .i64 (restE hv data)) ∧ Below w.heap.size w w' := by
  have hn := h.len
  have hlc : n ≤ c := h.1
  have hcm : c ≤ 9223372036854775807 := h.2.1
  have hd1 : -9223372036854775808 ≤ data := hd.1
  have hd2 : data ≤ 9223372036854775807 := hd.2
  have HV := Lib.hid h
  have HN := Lib.hid hn
  have HM := Lib.hid hm
  clear h hn hm hd
  obtain ⟨er, her⟩ : ∃ er, er = restE hv data := ⟨_, rfl⟩
  have HE := Lib.hid her
  rw [← her]
  clear her
  by_cases h1 : data < 1
  · have he : er = 1 := by rw [HE.out]; unfold restE; rw [if_pos (Or.inl h1)]
    subst he
    go_enter Try.func34, Try.ntmps34
    go_wp2
    go_ret
    exact ⟨rfl, Below.refl _ w⟩
  · by_cases h2 : 15 < data
    · have he : er = 1 := by rw [HE.out]; unfold restE; rw [if_pos (Or.inr h2)]
      subst he
      go_enter Try.func34, Try.ntmps34
      go_wp2
      go_ret
      exact ⟨rfl, Below.refl _ w⟩
    · have HE1 := Lib.hid (show er = if hv.any badIdx then 2 else if hv.any (badLen hv) then 1 else if (chs data.toNat hv).1.length < data.toNat then 19 else if hv.any (off (chs data.toNat hv)) then 20 else 0 by
        rw [HE.out]; unfold restE; rw [if_neg (by omega)])
      obtain ⟨dn, rfl⟩ := Int.eq_ofNat_of_zero_le (show 0 ≤ data by omega)
      rw [Int.toNat_natCast] at HE1
      go_enter Try.func34, Try.ntmps34
      go_wp2
      go_loopw [5] (fun i W => ∃ k : Nat, k ≤ n ∧ i = .int .i64 (k : Int) ∧ (hv.take k).any badIdx = false ∧ W = w) (fun i _ => n - (intOf i).toNat)
      case atStart => exact ⟨0, by omega, rfl, rfl, rfl⟩
      case round =>
        obtain ⟨k, hk, rfl, hany, rfl⟩ := hrel
        have HA := Lib.hid hany
        clear hany
        by_cases hkn : k < n
        · have hkl : k < hv.length := by rw [← HN.out]; exact hkn
          obtain ⟨X, hX⟩ : ∃ X, X = hv[k] := ⟨_, rfl⟩
          have HX := Lib.hid hX
          obtain ⟨av, rfl, _, hcv, _⟩ := HV.out.at_ hkl
          have hb := (HM.out _ (List.getElem_mem hkl)).1
          rw [← hX] at hcv hb
          clear hX
          have hb1 : -9223372036854775808 ≤ X.1 := hb.1
          have hb2 : X.1 ≤ 9223372036854775807 := hb.2
          clear hb
          by_cases hx1 : X.1 < 0
          · have he : er = 2 := by rw [HE1.out, if_pos (any_true (List.getElem_mem hkl) (by rw [← HX.out]; simp [badIdx, hx1]))]
            subst he
            go_wp2
            go_ret
            exact ⟨rfl, Below.refl _ _⟩
          · by_cases hx2 : 14 < X.1
            · have he : er = 2 := by rw [HE1.out, if_pos (any_true (List.getElem_mem hkl) (by rw [← HX.out]; simp [badIdx]; omega))]
              subst he
              go_wp2
              go_ret
              exact ⟨rfl, Below.refl _ _⟩
            · have HA2 := Lib.hid (any_take hkl HA.out (by rw [← HX.out]; simp [badIdx]; omega))
              go_wp2
              go_roundw
              case rel => exact ⟨k + 1, by omega, by go_num, HA2.out, trivial⟩
              case measure => simp [intOf]; omega
        · have hge : n ≤ k := by omega
          rw [List.take_of_length_le (by rw [← HN.out]; exact hge)] at HA
          have HBI := Lib.hid HA.out
          have HIX := Lib.hid (show ∀ x ∈ hv, 0 ≤ x.1 ∧ x.1 ≤ 14 from fun x hx => by
            have h := (List.any_eq_false.1 HA.out) x hx
            simp [badIdx] at h
            omega)
          rw [HA.out] at HE1
          replace HE1 := Lib.hid (show er = if hv.any (badLen hv) then 1 else if (chs dn hv).1.length < dn then 19 else if hv.any (off (chs dn hv)) then 20 else 0 from HE1.out)
          go_wp2
          obtain ⟨wo, hwo⟩ : ∃ wo, wo = wr := ⟨_, rfl⟩
          rw [← hwo] at HV
          subst hwo
          go_loopw [6] (fun i V => ∃ k : Nat, k ≤ n ∧ i = .int .i64 (k : Int) ∧ (hv.take k).any (badLen hv) = false ∧ Below wo.heap.size wo V) (fun i _ => n - (intOf i).toNat)
          case atStart => exact ⟨0, by omega, rfl, rfl, Below.refl _ _⟩
          case round =>
            obtain ⟨k, hk, rfl, hany, hb⟩ := hrel
            have HA := Lib.hid hany
            have HB := Lib.hid hb
            clear hany hb
            by_cases hkn : k < n
            · have hkl : k < hv.length := by rw [← HN.out]; exact hkn
              have h0l : 0 < hv.length := by omega
              obtain ⟨av, rfl, _, _, hcv⟩ := (HV.out.below HB.out).at_ hkl
              obtain ⟨_, e1, _, _, hc0⟩ := (HV.out.below HB.out).at_ h0l
              injection e1 with e1
              subst e1
              have hc0' : wr.cell? ⟨av.block, av.off + 1, none⟩ = some (.string hv[0].2) := by rw [← hc0]; rfl
              have hg0 : hv.getD 0 default = hv[0] := by simp [List.getD, List.getElem?_eq_getElem h0l]
              obtain ⟨x, hx⟩ : ∃ x, x = hv[k].2 := ⟨_, rfl⟩
              obtain ⟨x0, hx0⟩ : ∃ x0, x0 = hv[0].2 := ⟨_, rfl⟩
              have HBL := Lib.hid (show badLen hv hv[k] = (x.size != x0.size) by unfold badLen; rw [hg0, ← hx, ← hx0])
              have hs1 := (HM.out _ (List.getElem_mem hkl)).2
              have hs2 := (HM.out _ (List.getElem_mem h0l)).2
              rw [← hx] at hcv hs1
              rw [← hx0] at hc0' hs2
              clear hx hx0 hc0 hg0
              by_cases hxx : x.size = x0.size
              · have HA2 := Lib.hid (any_take hkl HA.out (by rw [HBL.out, hxx]; simp))
                go_wp2
                go_quiet (fail)
                all_goals
                  go_wp2
                  go_roundw
                  case rel => exact ⟨k + 1, by omega, by go_num, HA2.out, below_drewN HB.out _⟩
                  case measure => simp [intOf]; omega
              · have he : er = 1 := by rw [HE1.out, if_pos (any_hit hkl (by rw [HBL.out]; simp [hxx]))]
                subst he
                go_wp2
                go_quiet (fail)
                all_goals
                  go_wp2
                  go_ret
                  exact ⟨rfl, below_drewN HB.out _⟩
            · have hge : n ≤ k := by omega
              rw [List.take_of_length_le (by rw [← HN.out]; exact hge)] at HA
              rw [HA.out] at HE1
              replace HE1 := Lib.hid (show er = if (chs dn hv).1.length < dn then 19 else if hv.any (off (chs dn hv)) then 20 else 0 from HE1.out)
              have HBJ := Lib.hid HA.out
              have HLE := Lib.hid (show ∀ x ∈ hv, x.2.size = (hv.getD 0 default).2.size from fun x hx => by
                have h := (List.any_eq_false.1 HA.out) x hx
                simpa [badLen] using h)
              have HFC := Lib.hid (first_f wr A n c hv (HV.out.below HB.out) HIX.out (fun x hx => (HM.out x hx).2) dn (by omega))
              obtain ⟨wo2, hwo2⟩ : ∃ wo2, wo2 = wr := ⟨_, rfl⟩
              rw [← hwo2] at HB HFC
              subst hwo2
              go_wp2_with fail
              refine HFC.out.mono ?_
              rintro e w3 ⟨vx, vy, rfl, hP⟩
              obtain ⟨Ax, cx, rfl, hbx, _⟩ := byt_own hP.1
              obtain ⟨Ay, cy, rfl, hby, _⟩ := lst_own hP.2.1
              have HBX := Lib.hid hbx
              have HBY := Lib.hid hby
              have HB3 := Lib.hid (HB.out.trans (hP.2.2.2.mono HB.out.size))
              have hlx : (chs dn hv).1.length ≤ cx := hbx.1
              have hcx : cx ≤ 9223372036854775807 := hbx.2.1
              clear hP hbx hby
              by_cases hlost : (chs dn hv).1.length < dn
              · have he : er = 19 := by rw [HE1.out, if_pos hlost]
                subst he
                go_wp2
                go_ret
                exact ⟨rfl, HB3.out⟩
              · have hge2 : dn ≤ (chs dn hv).1.length := by omega
                rw [if_neg hlost] at HE1
                have hchn : Chosen hv dn (hv.getD 0 default).2.size := by
                  have := chosen_of (hv := hv) (data := (dn : Int)) (by omega) HBI.out HBJ.out (by rw [Int.toNat_natCast]; exact hlost)
                  rwa [Int.toNat_natCast] at this
                have hst : (chs dn hv).2.length = (chs dn hv).1.length := (chs_inv dn hv).len.symm
                have hle := (chs_inv dn hv).le
                have HAT := Lib.hid (fun (V : World) (hV : Below w3.heap.size w3 V) (x : UInt8) => at_f V Ax (chs dn hv).1.length cx (chs dn hv).1 (HBX.out.below hV) Ay (chs dn hv).1.length cy (chs dn hv).2 (HBY.out.below hV) x hst (by omega) (by omega) (hv.getD 0 default).2.size (chosen_L hchn (fun x hx => (HM.out x hx).2)) hchn.sb)
                clear hst hle hchn
                go_wp2
                go_loopw [9] (fun i V => ∃ k : Nat, k ≤ n ∧ i = .int .i64 (k : Int) ∧ (hv.take k).any (off (chs dn hv)) = false ∧ Below w3.heap.size w3 V) (fun i _ => n - (intOf i).toNat)
                case atStart => exact ⟨0, by omega, rfl, rfl, Below.refl _ _⟩
                case round =>
                  obtain ⟨q, hq, rfl, hany, hb⟩ := hrel
                  have HA3 := Lib.hid hany
                  have HB4 := Lib.hid hb
                  clear hany hb
                  by_cases hqn : q < n
                  · have hql : q < hv.length := by rw [← HN.out]; exact hqn
                    obtain ⟨X, hX⟩ : ∃ X, X = hv[q] := ⟨_, rfl⟩
                    have hix := HIX.out _ (List.getElem_mem hql)
                    rw [← hX] at hix
                    obtain ⟨jx, hjx, hjx2⟩ : ∃ jx : Nat, X.1 = (jx : Int) ∧ jx < 15 := ⟨X.1.toNat, by omega, by omega⟩
                    obtain ⟨b, hbb⟩ : ∃ b, b = byt8 (jx : Int) := ⟨_, rfl⟩
                    have hwr1 : IntKind.u8.wrap (jx : Int) = (b.toNat : Int) := by rw [IntKind.wrap_u8, hbb, byt8_nat (by omega), UInt8.toNat_ofNat']; omega
                    obtain ⟨t, ht⟩ : ∃ t, t = X.2 := ⟨_, rfl⟩
                    obtain ⟨r, hr⟩ : ∃ r, r = blkS (chs dn hv) b := ⟨_, rfl⟩
                    have HOF := Lib.hid (show off (chs dn hv) hv[q] = !decide (r = t) by rw [← hX]; unfold off; rw [hjx, ← hbb, ← hr, ← ht])
                    obtain ⟨av, rfl, _, _, _⟩ := (HV.out.below (HB3.out.trans (HB4.out.mono HB3.out.size))).at_ hql
                    have HCZ := Lib.hid (fun (V : World) (hV : Below w3.heap.size w3 V) => show V.cell? (av.add (q * 2)) = some (.int .i64 (jx : Int)) ∧ V.cell? ⟨(av.add (q * 2)).block, (av.add (q * 2)).off + 1, none⟩ = some (.string t) by
                      obtain ⟨_, e1, _, h0, h1⟩ := (HV.out.below (HB3.out.trans (hV.mono HB3.out.size))).at_ hql
                      injection e1 with e1
                      subst e1
                      rw [← hX] at h0 h1
                      rw [hjx] at h0
                      rw [ht]
                      exact ⟨h0, h1⟩)
                    have HA5 := Lib.hid (fun (V : World) (hV : Below w3.heap.size w3 V) => show Calls Try.prog 30 #[.slice Ax (chs dn hv).1.length cx, .slice Ay (chs dn hv).1.length cy, .int .u8 (b.toNat : Int)] V (fun e w' => e = .returned (.string r) ∧ Below V.heap.size V w') by rw [hr]; exact HAT.out V hV b)
                    clear hX hix hbb ht hr hjx
                    have hsb := str_beq r t
                    by_cases hrt : r = t
                    · rw [decide_eq_true hrt] at hsb HOF
                      have HA6 := Lib.hid (any_take hql HA3.out (by rw [HOF.out]; rfl))
                      go_wp2
                      go_region_held3 (fun V => V.cell? (av.add (q * 2)) = some (.int .i64 (jx : Int)) ∧ V.cell? ⟨(av.add (q * 2)).block, (av.add (q * 2)).off + 1, none⟩ = some (.string t))
                        (first | exact HCZ.out _ HB4.out.drew | exact HCZ.out _ (HB4.out.drew.trans (HB5.out.mono HB4.out.size)))
                        (first | (go_at_call 30; (with_reducible refine (HA5.out _ ?_).mono ?_); exact HB4.out.drew; rintro e w5 ⟨rfl, hb5⟩; have HB5 := Lib.hid hb5; clear hb5))
                      all_goals
                        go_wp2
                        go_roundw
                        case rel => exact ⟨q + 1, by omega, by go_num, HA6.out, HB4.out.drew.trans (HB5.out.mono HB4.out.size)⟩
                        case measure => simp [intOf]; omega
                    · rw [decide_eq_false hrt] at hsb HOF
                      have he : er = 20 := by rw [HE1.out, if_pos (any_hit hql (by rw [HOF.out]; rfl))]
                      subst he
                      go_wp2
                      go_region_held3 (fun V => V.cell? (av.add (q * 2)) = some (.int .i64 (jx : Int)) ∧ V.cell? ⟨(av.add (q * 2)).block, (av.add (q * 2)).off + 1, none⟩ = some (.string t))
                        (first | exact HCZ.out _ HB4.out.drew | exact HCZ.out _ (HB4.out.drew.trans (HB5.out.mono HB4.out.size)))
                        (first | (go_at_call 30; (with_reducible refine (HA5.out _ ?_).mono ?_); exact HB4.out.drew; rintro e w5 ⟨rfl, hb5⟩; have HB5 := Lib.hid hb5; clear hb5))
                      all_goals
                        go_wp2
                        go_ret
                        exact ⟨rfl, HB3.out.trans ((HB4.out.drew.trans (HB5.out.mono HB4.out.size)).mono HB3.out.size)⟩
                  · have hge3 : n ≤ q := by omega
                    rw [List.take_of_length_le (by rw [← HN.out]; exact hge3)] at HA3
                    have he : er = 0 := by rw [HE1.out, HA3.out]; rfl
                    subst he
                    go_wp2
                    go_ret
                    exact ⟨rfl, HB3.out.trans (HB4.out.mono HB3.out.size)⟩

end Go.Proofs.Ytpljpceldlaphaa
