/- The law ErasureDetects of stelelaw15 returns true for every input, and the argument reads behind the call as it read before. No conditions. -/
import Derived.Test.YtpljpceldlaphaaEt

namespace Go.Proofs.Ytpljpceldlaphaa
namespace ErasureDetects
open Go.RowKit

theorem flat_set : ∀ (l : List (Int × ByteArray)) (k : Nat) (x : Int) (s : ByteArray), (hk : k < l.length) → x = l[k].1 → (l.flatMap shc).set (k * 2 + 1) (.string s) = (l.set k (x, s)).flatMap shc
  | a :: l, 0, x, s, _, hx => by
    have hx : x = a.1 := hx
    subst hx
    simp [shc]
  | a :: l, k + 1, x, s, hk, hx => by
    rw [List.flatMap_cons, List.set_append_right _ _ (by show 2 ≤ _; omega), List.set_cons_succ, List.flatMap_cons, show (k + 1) * 2 + 1 - (shc a).length = k * 2 + 1 by show _ - 2 = _; omega, flat_set l k x s (by simpa using hk) (by simpa using hx)]
/-- the shares with one byte of one of them changed -/
theorem changed (l : List ByteArray) {sp set : Nat} (hsp : sp ≤ 7) (hm : (evn l).length < (hvS l sp set).length) {k i : Nat} (hk : k < (hvS l sp set).length) (hi : i < evL l) {by_ : UInt8} (hb : by_ ≠ 0) (t : List UInt8) (ht : t = (bl ((hvS l sp set)[k]).2).set i (Gf.ga ((bl ((hvS l sp set)[k]).2).getD i 0) by_)) :
    restE ((hvS l sp set).set k (((hvS l sp set)[k]).1, ofL t)) ((evn l).length : Int) = 20 ∧ t.length = evL l := by
  have hon := hvS_on l (set := set) hsp
  have hlen : (bl ((hvS l sp set)[k]).2).length = evL l := by
    obtain ⟨j, _, _, h2⟩ := hon _ (List.getElem_mem hk)
    rw [h2, shr_len (stD_even l)]
  have htl : t.length = evL l := by rw [ht, List.length_set, hlen]
  have hg : (hvS l sp set).getD k default = (hvS l sp set)[k] := by simp [List.getD, List.getElem?_eq_getElem hk]
  have := restE_changed (stD_even l) hon (hvS_nd l hsp) (by rw [stD_len]; exact hm) hk hi (ofL t) (by rw [← bl_length, bl_ofL, htl]) (by
    rw [hg, bl_ofL, ht, getD_lt (by rw [List.length_set, hlen]; exact hi), List.getElem_set_self]
    intro e
    refine hb ?_
    have h3 : Gf.ga ((bl ((hvS l sp set)[k]).2).getD i 0) by_ = Gf.ga ((bl ((hvS l sp set)[k]).2).getD i 0) 0 := by rw [e, ga_zero]
    exact ga_cancel h3)
  rw [hg, stD_len] at this
  exact ⟨this, htl⟩

set_option maxRecDepth 100000 in
set_option maxHeartbeats 2000000 in
theorem core (w : World) (A : Option Addr) (n c : Nat) (l : List ByteArray) (h : Lst Value.string w A n c l) (s : Nat) (hs : s < 256) (set : Nat) (hset : set < 65536) (at_ : Nat) (hat : at_ < 65536) (by_ : UInt8) :
    Calls Try.prog 7 #[.slice A n c, .int .u8 (s : Int), .int .u16 (set : Int), .int .u16 (at_ : Int), .int .u8 (by_.toNat : Int)] w fun e w' => e = .returned (.bool true) ∧ Below w.heap.size w w' := by
  have hsp : s % 8 ≤ 7 := by omega
  have HSP := Lib.hid hsp
  have HC := Lib.hid (stripe_b w A n c l h s hs)
  have hbd := evn_bound l
  obtain ⟨D, hD⟩ : ∃ D, D = (evn l).length := ⟨_, rfl⟩
  obtain ⟨M, hM⟩ : ∃ M, M = (stL l (s % 8)).length := ⟨_, rfl⟩
  obtain ⟨L, hL⟩ : ∃ L, L = evL l := ⟨_, rfl⟩
  have hL4 := evL_le l
  rw [← hL] at hL4
  have HD := Lib.hid hD
  have HM := Lib.hid hM
  have HL := Lib.hid hL
  have hMb : M ≤ 15 := by rw [hM, stL_len]; omega
  rw [← hD] at hbd
  have h0l : 0 < (evn l).length := by omega
  have HSZ := Lib.hid (show (evn l)[0].size = L by rw [hL]; exact evn_size l _ (List.getElem_mem h0l))
  clear h hD hM hsp hL
  go_enter Try.func7, Try.ntmps7
  go_wp2_with fail
  refine HC.out.mono ?_
  rintro e w1 ⟨v1, v2, rfl, ho1, ho2, hb1⟩
  rw [← HD.out] at ho1
  rw [← HM.out] at ho2
  obtain ⟨A1, c1, rfl, hy1, _⟩ := lst_own ho1
  obtain ⟨A2, c2, rfl, hy2, _⟩ := shs_own ho2
  have HY1 := Lib.hid hy1
  have hlc1 : D ≤ c1 := hy1.1
  have hcm1 : c1 ≤ 9223372036854775807 := hy1.2.1
  have HB1 := Lib.hid hb1
  have HCS := Lib.hid (some_b w1 A2 M c2 (stL l (s % 8)) hy2 (by rw [← HM.out]; omega) set hset)
  clear ho1 ho2 hb1 hy1 hy2
  go_wp2_with fail
  refine HCS.out.mono ?_
  rw [show smL (stL l (s % 8)) set (stL l (s % 8)).length = hvS l (s % 8) set from rfl]
  obtain ⟨H, hH⟩ : ∃ H, H = (hvS l (s % 8) set).length := ⟨_, rfl⟩
  have HH := Lib.hid hH
  have hHb : H ≤ 15 := by rw [hH]; have := smL_len_le (stL l (s % 8)) set (stL l (s % 8)).length; rw [← HM.out] at this; unfold hvS; rw [← HM.out]; omega
  clear hH
  rintro e w2 ⟨v3, rfl, ho3, hb2⟩
  rw [← HH.out] at ho3
  have HO3 := Lib.hid ho3
  have HB2 := Lib.hid (HB1.out.trans (hb2.mono HB1.out.size))
  have HB12 := Lib.hid hb2
  obtain ⟨ad1, rfl, _, hd0⟩ := (HY1.out.below hb2).at_ h0l
  rw [show ad1.add 0 = ad1 from rfl] at hd0
  have hsz1 : (evn l)[0].size ≤ L := by rw [HSZ.out]; exact Nat.le_refl _
  have hsz2 : L ≤ (evn l)[0].size := by rw [HSZ.out]; exact Nat.le_refl _
  by_cases hgo : D < H ∧ 0 < L ∧ by_ ≠ 0
  · obtain ⟨hDH, hL0, hby⟩ := hgo
    obtain ⟨g, c3, rfl, hg1, hg2⟩ := ho3.form (by omega)
    have hcc : H ≤ c3 ∧ c3 ≤ 9223372036854775807 := (own_form HO3.out).elim fun A h => h.elim fun c h => by have e := h.1; injection e with _ _ e3; subst e3; exact ⟨h.2.1.1, h.2.1.2.1⟩
    obtain ⟨hlc3, hcm3⟩ := hcc
    have hby2 : ((by_.toNat : Int) == 0) = false := by
      rw [beq_eq_false_iff_ne]; intro e; exact hby (Gf.ext (by show by_.toNat = 0; omega))
    have hsz3 : ((((evn l)[0].size : Nat) : Int) == 0) = false := by rw [beq_eq_false_iff_ne]; omega
    obtain ⟨k, hk⟩ : ∃ k, k = at_ % H := ⟨_, rfl⟩
    have hkH : k < H := by rw [hk]; exact Nat.mod_lt _ (by omega)
    have hkm : (at_ : Int) % (H : Int) = (k : Int) := by rw [hk]; exact (Int.natCast_emod at_ H).symm
    have hHz : ((H : Int) == 0) = false := by rw [beq_eq_false_iff_ne]; omega
    have hkl : k < (hvS l (s % 8) set).length := by rw [← HH.out]; exact hkH
    obtain ⟨xi, hxi⟩ : ∃ xi, xi = ((hvS l (s % 8) set)[k]).1 := ⟨_, rfl⟩
    obtain ⟨xs, hxs⟩ : ∃ xs, xs = ((hvS l (s % 8) set)[k]).2 := ⟨_, rfl⟩
    have hsL : xs.size = L := by
      obtain ⟨q, _, _, h2⟩ := hvS_on l (set := set) HSP.out _ (List.getElem_mem hkl)
      rw [hxs, ← bl_length, h2, shr_len (stD_even l), ← HL.out]
    have hX1 : w2.cell? ⟨g, k * 2 + 1, none⟩ = some (.string xs) := by
      rw [HO3.out.cellAt (k * 2 + 1) (by omega), flat2_at shc (fun _ => rfl) _ k hkl 1 (by omega), hxs]; rfl
    obtain ⟨i, hi⟩ : ∃ i, i = at_ % L := ⟨_, rfl⟩
    have hiL : i < L := by rw [hi]; exact Nat.mod_lt _ (by omega)
    have him : (at_ : Int) % (xs.size : Int) = (i : Int) := by rw [hsL, hi]; exact (Int.natCast_emod at_ L).symm
    have hwat : IntKind.i64.wrap (at_ : Int) = (at_ : Int) := IntWalk.i64_in _ (by omega)
    have him2 : (at_ : Int).tmod (xs.size : Int) = (i : Int) := by rw [Int.tmod_eq_emod_of_nonneg (by omega)]; exact him
    have his : i < xs.size := by omega
    have hxz : ((xs.size : Int) == 0) = false := by rw [beq_eq_false_iff_ne]; omega
    have hxe : ¬ xs = ByteArray.empty := by intro e; rw [e] at his; exact absurd his (Nat.not_lt_zero _)
    have hib : i < (bl xs).length := by rw [bl_length]; exact his
    obtain ⟨W3, cap, hrun, hbyt, hfz, hbel, hsz3'⟩ := conv_bytes (P := Try.prog) w2 9 45 5 xs Try.underlying9 Try.underlying45 Try.underlying5 (by unfold maxLen; omega)
    have hlb : xs.size ≤ cap := hbyt.1
    have hcb : cap ≤ 9223372036854775807 := hbyt.2.1
    obtain ⟨_, e1, _, hcb1⟩ := hbyt.at_ hib
    injection e1 with e1
    subst e1
    rw [add_own] at hcb1
    have hfb1 := hfz i his
    have hxr := xor_b (bl xs)[i] by_
    obtain ⟨T, hT⟩ : ∃ T, T = (bl xs).set i (Gf.ga (bl xs)[i] by_) := ⟨_, rfl⟩
    have hTl : T.length = xs.size := by rw [hT, List.length_set, bl_length]
    obtain ⟨W4, hW4⟩ : ∃ W4, W4 = (W3.setCell ⟨w2.heap.size, i, none⟩ (B (Gf.ga (bl xs)[i] by_))).drew := ⟨_, rfl⟩
    have HW4 := Lib.hid hW4
    have HBY4 := Lib.hid (show Byt W4 (some ⟨w2.heap.size, 0, none⟩) xs.size cap T by rw [hW4, hT]; exact byt_store hbyt his _)
    have hgw : g < w2.heap.size := by omega
    have HO4 := Lib.hid (show W4.ownsRow w1.heap.size 39 2 (.slice (some ⟨g, 0, none⟩) H c3) H ((hvS l (s % 8) set).flatMap shc) by
      rw [hW4]
      exact ownsRow_setCell_other (own_below HO3.out hbel) (a := ⟨w2.heap.size, i, none⟩) (fun e => by have e2 : some g = some w2.heap.size := e; injection e2 with e2; omega) _)
    have HB4 := Lib.hid (show Below w.heap.size w W4 by rw [hW4]; exact ((HB2.out.trans (hbel.mono HB2.out.size)).setCell (by show w.heap.size ≤ w2.heap.size; exact HB2.out.size) _).drew)
    have HB3d := Lib.hid hbel
    have hcv := run_conv_byt (P := Try.prog) HBY4.out 45 5 9 Try.underlying45 Try.underlying5 Try.underlying9
    have hX4 : W4.cell? ⟨g, k * 2 + 1, none⟩ = some (.string xs) := by
      rw [HO4.out.cellAt (k * 2 + 1) (by omega), flat2_at shc (fun _ => rfl) _ k hkl 1 (by omega), hxs]; rfl
    have hF4 : W4.frozen? ⟨g, k * 2 + 1, none⟩ = false := HO4.out.frozenAt _
    have HCH := Lib.hid (changed l (set := set) (k := k) (i := i) HSP.out (by rw [← HD.out, ← HH.out]; exact hDH) hkl (by rw [← HL.out]; exact hiL) hby T (by rw [hT, ← hxs, getD_lt hib]))
    rw [← HD.out] at HCH
    have HFS := Lib.hid (flat_set (hvS l (s % 8) set) k xi (ofL T) hkl hxi)
    have HBD := Lib.hid (show ∀ x ∈ (hvS l (s % 8) set).set k (xi, ofL T), (IntKind.i64.min ≤ x.1 ∧ x.1 ≤ IntKind.i64.max) ∧ x.2.size ≤ 65536 from fun x hx => by
      rcases List.mem_or_eq_of_mem_set hx with hx | rfl
      · exact hvS_bound l HSP.out x hx
      · refine ⟨?_, ?_⟩
        · show IntKind.i64.min ≤ xi ∧ xi ≤ IntKind.i64.max
          rw [hxi]
          exact (hvS_bound l HSP.out _ (List.getElem_mem hkl)).1
        · show (ofL T).size ≤ 65536
          rw [← bl_length, bl_ofL, hTl]; omega)
    rw [← hxi] at HCH
    have HX1 := Lib.hid hX1
    have HX1 := Lib.hid hX1
    have hcv' := hcv
    obtain ⟨W5, hW5⟩ : ∃ W5, W5 = W4.setCell ⟨g, k * 2 + 1, none⟩ (.string (ofL T)) := ⟨_, rfl⟩
    have HW5 := Lib.hid hW5
    have HO5 : W5.ownsRow w1.heap.size 39 2 (.slice (some ⟨g, 0, none⟩) H c3) H (((hvS l (s % 8) set).set k (xi, ofL T)).flatMap shc) := by
      rw [hW5, ← HFS.out]; exact (HO4.out.stored (k * 2 + 1) (.string (ofL T))).1
    have hy5 : Shs W5 (some ⟨g, 0, none⟩) H c3 ((hvS l (s % 8) set).set k (xi, ofL T)) := by
      obtain ⟨A, c, e, h, _⟩ := shs_own HO5
      injection e with e1 _ e3
      subst e1 e3
      exact h
    have HB5 := Lib.hid (show Below w.heap.size w W5 by rw [hW5]; exact HB4.out.setCell (by show w.heap.size ≤ g; have := HB1.out.size; omega) _)
    have HCR := Lib.hid (restore_f W5 (some ⟨g, 0, none⟩) H c3 _ hy5 HBD.out (D : Int) (by rw [i64_lo, i64_hi]; omega))
    rw [HCH.out.1] at HCR
    obtain ⟨RB, hRB⟩ : ∃ RB, RB = restB ((hvS l (s % 8) set).set k (xi, ofL T)) (D : Int) := ⟨_, rfl⟩
    rw [← hRB] at HCR
    clear ho3 hb2 hk hxi hxs hi hbyt hfz hbel hT hTl hW4 hsL HO5 hy5 hRB hW5
    go_wp2
    refine wp_region_still_tail 17 (by kernel_rfl) (by kernel_rfl) ?_
    simp only [List.take_succ_cons, List.take_zero, List.drop_succ_cons, List.drop_zero]
    repeat still_step
    refine wpStill_nil ?_
    go_wp2
    rw [show (W3.setCell ⟨w2.heap.size, i, none⟩ (.int .u8 ((Gf.ga (bl xs)[i] by_).toNat : Int))).drew = W4 from HW4.out.symm]
    go_simp
    go_wp2_with fail
    rw [show W4.setCell ⟨g, k * 2 + 1, none⟩ (.string (ofL T)) = W5 from HW5.out.symm]
    refine HCR.out.mono ?_
    rintro e w3 ⟨v4, rfl, ho4, hb3⟩
    obtain ⟨A4, c4, rfl, hy4, _⟩ := lst_own ho4
    have hlc4 := hy4.1
    have HB6 := Lib.hid (HB5.out.trans (hb3.mono HB5.out.size))
    clear ho4 hb3 hy4
    go_wp2_with fail
    refine (awake_e _).mono ?_
    rintro e w4 ⟨rfl, hb4⟩
    have HB7 := Lib.hid (HB6.out.trans (hb4.mono HB6.out.size))
    clear hb4
    go_wp2
    go_ret
    exact ⟨rfl, HB7.out⟩
  · obtain ⟨A3, c3, rfl, hy3, _⟩ := shs_own ho3
    have hlc3 : H ≤ c3 := hy3.1
    have hcm3 : c3 ≤ 9223372036854775807 := hy3.2.1
    clear ho3 hb2 hy3
    by_cases h1 : D < H
    · by_cases h2 : L = 0
      · have hsz3 : ((((evn l)[0].size : Nat) : Int) == 0) = true := by rw [beq_iff_eq]; omega
        clear hgo
        go_wp2_with fail
        refine (awake_e _).mono ?_
        rintro e w4 ⟨rfl, hb4⟩
        have HB7 := Lib.hid (HB2.out.trans (hb4.mono HB2.out.size))
        clear hb4
        go_wp2
        go_ret
        exact ⟨rfl, HB7.out⟩
      · have hsz3 : ((((evn l)[0].size : Nat) : Int) == 0) = false := by rw [beq_eq_false_iff_ne]; omega
        have hby : by_ = 0 := by
          exact Decidable.byContradiction fun hc => hgo ⟨h1, by omega, hc⟩
        have hby0 : by_.toNat = 0 := by rw [hby]; rfl
        have hby2 : ((by_.toNat : Int) == 0) = true := by rw [beq_iff_eq]; omega
        clear hgo hby
        go_wp2_with fail
        refine (awake_e _).mono ?_
        rintro e w4 ⟨rfl, hb4⟩
        have HB7 := Lib.hid (HB2.out.trans (hb4.mono HB2.out.size))
        clear hb4
        go_wp2
        go_ret
        exact ⟨rfl, HB7.out⟩
    · clear hgo
      go_wp2_with fail
      refine (awake_e _).mono ?_
      rintro e w4 ⟨rfl, hb4⟩
      have HB7 := Lib.hid (HB2.out.trans (hb4.mono HB2.out.size))
      clear hb4
      go_wp2
      go_ret
      exact ⟨rfl, HB7.out⟩

end ErasureDetects
end Go.Proofs.Ytpljpceldlaphaa
