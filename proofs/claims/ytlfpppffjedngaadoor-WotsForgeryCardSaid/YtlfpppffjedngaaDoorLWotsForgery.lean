/- The law WotsForgery of stelelaw29 returns true for every input in a world that holds the table of the powers of ten. -/
import Derived.Test.YtlfpppffjedngaaDoorCj
namespace Go.Proofs.YtlfpppffjedngaaDoor
namespace WotsForgery
open Go.RowKit Bk

theorem byt_set {W : World} {b n c : Nat} {l : List UInt8} (h : Byt W (some ⟨b, 0, none⟩) n c l) {i : Nat} (hi : i < n) (v : UInt8) : Byt (W.setCell ⟨b, i, none⟩ (B v)) (some ⟨b, 0, none⟩) n c (l.set i v) := by
  have hn := h.len
  refine ⟨h.1, h.2.1, by rw [bv_length, List.length_set, Nat.mul_one]; exact hn.symm, fun h0 => ?_⟩
  obtain ⟨ad, e, hb, hc⟩ := h.2.2.2 h0
  injection e with e
  subst e
  refine ⟨_, rfl, by simp [World.setCell]; exact hb, fun j u hu => ?_⟩
  rw [add_own]
  unfold bv at hu
  rw [List.map_set] at hu
  by_cases hij : i = j
  · subst hij
    rw [List.getElem?_set_self (by rw [List.length_map, ← hn]; exact hi)] at hu
    injection hu with hu
    subst hu
    have h2 := hc i (B (l[i]'(by omega))) (by unfold bv; rw [List.getElem?_map, List.getElem?_eq_getElem (by omega)]; rfl)
    rw [add_own] at h2
    exact World.cell?_setCell_same _ _ _ h2
  · rw [List.getElem?_set_ne hij] at hu
    have h2 := hc j u hu
    rw [add_own] at h2
    rw [World.cell?_setCell_other _ _ _ _ (fun e => by injection e with _ e _; exact hij e)]
    exact h2
theorem xor8 (x y : Nat) (hx : x < 256) (hy : y < 256) : bits .xor .u8 (x : Int) (y : Int) = ((UInt8.ofNat (x ^^^ y)).toNat : Int) := by
  have hxy : x ^^^ y < 2 ^ 8 := Nat.xor_lt_two_pow (by omega) (by omega)
  show IntKind.u8.wrap ((BitVec.ofInt 8 (x : Int) ^^^ BitVec.ofInt 8 (y : Int)).toNat : Int) = _
  rw [BitVec.toNat_xor, BitVec.ofInt_natCast, BitVec.ofInt_natCast, BitVec.toNat_ofNat, BitVec.toNat_ofNat, Nat.mod_eq_of_lt (by omega), Nat.mod_eq_of_lt (by omega), UInt8.toNat_ofNat', Nat.mod_eq_of_lt (by omega)]
  simp [IntKind.wrap, IntKind.bits, IntKind.signed]
  omega
set_option maxRecDepth 100000 in
theorem collide_f (w : World) (msg s t : ByteArray) (hm : msg.size ≤ 900000) (hs : s.size ≤ 9223372036854775807) (ht : t.size ≤ 9223372036854775807) (h : recP (bl msg) (bl s) = recP (bl msg) (bl t)) :
    Calls Tryd.prog 21 #[.string msg, .string s, .string t] w fun e w' => e = .returned (.bool true) ∧ Below w.heap.size w w' := by
  have H1 := Lib.hid (fun V => rrec_f V msg hm s hs)
  have H2 := Lib.hid (fun V => rrec_f V msg hm t ht)
  rw [← h] at H2
  obtain ⟨p, hp⟩ : ∃ p, p = ofL (recP (bl msg) (bl s)) := ⟨_, rfl⟩
  rw [← hp] at H1 H2
  have hpp := tl_eq p
  clear hp h
  go_enter Tryd.func21, Tryd.ntmps21
  go_wp2_with fail
  refine (H1.out w).mono ?_
  rintro e w1 ⟨rfl, hb1⟩
  have HB1 := Lib.hid hb1
  clear hb1
  go_wp2_with fail
  refine (H2.out w1).mono ?_
  rintro e w2 ⟨rfl, hb2⟩
  have HB2 := Lib.hid (HB1.out.trans (hb2.mono HB1.out.size))
  clear hb2
  go_wp2_with fail
  go_ret
  exact ⟨rfl, HB2.out⟩

theorem byt_piece {W : World} {g cap : Nat} {L : List UInt8} {m : Nat} (h : Byt W (some ⟨g, 0, none⟩) 560 cap L) (hm : m + 16 ≤ 560) : Byt W (some ⟨g, m, none⟩) 16 (cap - m) ((L.drop m).take 16) := by
  have h1 := Sl.drop h (k := m) (by omega)
  have hc := h.1
  rw [if_neg (by omega)] at h1
  have h2 := Sl.take h1 (k := 16) (by omega)
  rw [bv_drop, bv_take, Nat.mul_one] at h2
  simp only [Option.map_some, add_own] at h2
  exact h2
set_option maxRecDepth 100000 in
set_option maxHeartbeats 2000000 in
theorem core (w : World) (ht : Tab w) (seed msg : ByteArray) (hs : seed.size ≤ 140737488355328) (hm : msg.size ≤ 140737488355328) (a0 a1 : Nat) (h0 : a0 < 65536) (h1 : a1 < 65536) :
    Calls Tryd.prog 7 #[.string seed, .string msg, .agg #[.int .u16 (a0 : Int), .int .u16 (a1 : Int)]] w fun e w' => e = .returned (.bool true) ∧ Below w.heap.size w w' := by
  have HT := Lib.hid ht
  clear ht
  go_enter Tryd.func7, Tryd.ntmps7
  go_wp2_with fail
  have HK0 := Lib.hid (Blk.new w 35 #[.int .u16 (a0 : Int), .int .u16 (a1 : Int)])
  have HB0 := Lib.hid ((Below.refl w.heap.size w).alloc (Nat.le_refl _) (.cells #[.int .u16 (a0 : Int), .int .u16 (a1 : Int)] 35))
  have HT0 := Lib.hid (HT.out.alloc (.cells #[.int .u16 (a0 : Int), .int .u16 (a1 : Int)] 35))
  obtain ⟨w0, hw0⟩ : ∃ w0, w0 = w.alloc (.cells #[.int .u16 (a0 : Int), .int .u16 (a1 : Int)] 35) := ⟨_, rfl⟩
  rw [← hw0] at HK0 HB0 HT0 ⊢
  clear hw0
  obtain ⟨ga, hga⟩ : ∃ g, g = w.heap.size := ⟨_, rfl⟩
  rw [← hga] at HK0 ⊢
  have HGA := Lib.hid hga
  clear hga
  refine (alive_f w0 HT0.out).mono ?_
  rintro e w1 ⟨rfl, hb1⟩
  have HB1 := Lib.hid (HB0.out.trans (hb1.mono HB0.out.size))
  have HK1 := Lib.hid (HK0.out.below hb1)
  clear hb1
  rw [HGA.out] at HK1 ⊢
  by_cases hl : 500 < seed.size + msg.size
  · go_wp2_with fail
    go_ret
    exact ⟨rfl, HB1.out⟩
  have HS := Lib.hid (fun V (hV : Tab V) => sign_f V hV seed (by omega) 1 (by omega) (by omega) msg (by omega))
  obtain ⟨s, hs1⟩ : ∃ s, s = ofL (sigK (bl seed) 1 (bl msg)) := ⟨_, rfl⟩
  obtain ⟨p, hp⟩ : ∃ p, p = ofL (pubK (bl seed) 1) := ⟨_, rfl⟩
  have hsz : s.size = 560 := by rw [hs1, ofL_size, sigK_len (by omega)]
  have HREC := Lib.hid (show ofL (recP (bl msg) (bl s)) = p by rw [hs1, bl_ofL, rec_sig (by omega), hp])
  rw [← hs1] at HS
  have HP := Lib.hid (fun V (hV : Tab V) => pub_f V hV seed (by omega) 1 (by omega) (by omega))
  rw [← hp] at HP
  have HM := Lib.hid (show msg.size ≤ 900000 by omega)
  clear hs1 hp
  go_wp2_with fail
  refine (HS.out w1 (HT.out.bel HB1.out)).mono ?_
  rintro e w2 ⟨rfl, hb2⟩
  have HB2 := Lib.hid (HB1.out.trans (hb2.mono HB1.out.size))
  have HK2 := Lib.hid (HK1.out.below hb2)
  clear hb2
  obtain ⟨w3, cap, hrun, hbyt, hfr, hbel, hsz3⟩ := conv_bytes (P := Tryd.prog) w2 9 36 5 s Tryd.underlying9 Tryd.underlying36 Tryd.underlying5 (by unfold maxLen; omega)
  rw [hsz] at hrun hbyt hfr
  have HB3 := Lib.hid (HB2.out.trans (hbel.mono HB2.out.size))
  have HK3 := Lib.hid (HK2.out.below hbel)
  have HY3 := Lib.hid hbyt
  have HFR := Lib.hid hfr
  have HLT := Lib.hid (show w2.heap.size < w3.heap.size by omega)
  have HLA := Lib.hid HK2.out.lt
  have e0 := HK3.out.cell 0
  have e1 := HK3.out.cell 1
  simp only [List.getElem?_toArray, List.getElem?_cons_zero, List.getElem?_cons_succ] at e0 e1
  obtain ⟨i, hi⟩ : ∃ i, i = a0 % 560 := ⟨_, rfl⟩
  have q1 : (a0 : Int) % 560 = (i : Int) := by omega
  have q2 : (a0 : Int).tmod 560 = (i : Int) := by rw [Int.tmod_eq_emod_of_nonneg (by omega)]; exact q1
  have q3 : IntKind.i64.wrap (a0 : Int) = (a0 : Int) := wrap64_id (by omega) (by omega)
  have hi560 : i < 560 := by omega
  have hiI : (i : Int) < 560 := by omega
  have hil : i < (bl s).length := by rw [bl_len, hsz]; exact hi560
  obtain ⟨_, e2, hgl, hcx⟩ := hbyt.at_ hil
  injection e2 with e2
  subst e2
  rw [add_own] at hcx
  have hfx := hfr i hi560
  obtain ⟨x, hx⟩ : ∃ x, x = ((bl s)[i]).toNat := ⟨_, rfl⟩
  have hx256 : x < 256 := by rw [hx]; exact ((bl s)[i]).toNat_lt
  rw [← hx] at hcx
  obtain ⟨r, hr⟩ : ∃ r, r = a1 % 255 := ⟨_, rfl⟩
  obtain ⟨r1, hr1⟩ : ∃ r1, r1 = 1 + r := ⟨_, rfl⟩
  have t1 : (a1 : Int) % 255 = (r : Int) := by omega
  have t2 : (a1 : Int).tmod 255 = (r : Int) := by rw [Int.tmod_eq_emod_of_nonneg (by omega)]; exact t1
  have t3 : IntKind.u16.wrap (1 + (r : Int)) = (r1 : Int) := by simp [IntKind.wrap, IntKind.bits, IntKind.signed]; omega
  have t4 : IntKind.u8.wrap (r1 : Int) = (r1 : Int) := by simp [IntKind.wrap, IntKind.bits, IntKind.signed]; omega
  have t0 : IntKind.u16.wrap (r : Int) = (r : Int) := by simp [IntKind.wrap, IntKind.bits, IntKind.signed]; omega
  have t5 := xor8 x r1 hx256 (by omega)
  obtain ⟨c8, hc8⟩ : ∃ c8, c8 = UInt8.ofNat (x ^^^ r1) := ⟨_, rfl⟩
  rw [← hc8] at t5
  clear hbyt hfr hbel hsz3 hi hr hr1 hc8 hx hil hx256
  go_wp2_with fail
  refine wp_region_still_tail 11 (by kernel_rfl) (by kernel_rfl) ?_
  simp only [List.take_succ_cons, List.take_zero, List.drop_succ_cons, List.drop_zero]
  repeat still_step
  refine wpStill_nil ?_
  change wpList _ _ _ _ _ w3.drew
  have HY4 := Lib.hid (show Byt (w3.setCell ⟨w2.heap.size, i, none⟩ (.int .u8 (c8.toNat : Int))).drew (some ⟨w2.heap.size, 0, none⟩) 560 cap ((bl s).set i c8) from byt_set HY3.out hi560 c8)
  have HB4 := Lib.hid (HB3.out.setCell (p := ⟨w2.heap.size, i, none⟩) (by show w.heap.size ≤ w2.heap.size; exact HB2.out.size) (.int .u8 (c8.toNat : Int))).drew
  have HL4 := Lib.hid (show ((bl s).set i c8).length = 560 by rw [List.length_set, bl_len, hsz])
  obtain ⟨L, hL⟩ : ∃ L, L = (bl s).set i c8 := ⟨_, rfl⟩
  rw [← hL] at HY4 HL4
  have h560 : 560 ≤ cap := HY3.out.1
  have h561 : cap ≤ 9223372036854775807 := HY3.out.2.1
  clear e0 e1 hrun t0 t1 t2 t3 t4 t5 HY3 HFR hL q1 q2 q3
  obtain ⟨k, hk⟩ : ∃ k, k = i / 16 := ⟨_, rfl⟩
  have q1 : (i : Int) / 16 = (k : Int) := by omega
  have q2 : (i : Int).tdiv 16 = (k : Int) := by rw [Int.tdiv_eq_ediv_of_nonneg (by omega)]; exact q1
  have hk35 : k < 35 := by omega
  have hkI : (k : Int) < 35 := by omega
  obtain ⟨w4, hw4⟩ : ∃ w4, w4 = (w3.setCell ⟨w2.heap.size, i, none⟩ (.int .u8 (c8.toNat : Int))).drew := ⟨_, rfl⟩
  have HW4 := Lib.hid hw4
  clear hk hw4
  go_wp2_with fail
  rw [← HW4.out] at HY4 HB4 ⊢
  clear HW4 hfx hcx
  refine (rdigs_f w4 msg HM.out).mono ?_
  rintro e w5 ⟨v, rfl, hown, hb5⟩
  have HB5 := Lib.hid (HB4.out.trans (hb5.mono HB4.out.size))
  have HY5 := Lib.hid (Sl.below HY4.out hb5)
  obtain ⟨A, c, rfl, hsl, _⟩ := own_form hown
  rw [mdig_len] at hsl
  rw [mdig_len]
  obtain ⟨ad, rfl, _, hcd⟩ := dv_at hsl (k := k) (by rw [mdig_len]; exact hk35)
  have hd15 := mdig_le (bl msg) k
  obtain ⟨d, hd⟩ : ∃ d, d = (mdig (bl msg)).getD k 0 := ⟨_, rfl⟩
  rw [← hd] at hcd hd15
  clear hown hsl hb5 hd
  go_wp2_with fail
  go_loopw [12] (fun x W => ∃ n : Nat, 1 ≤ n ∧ n ≤ 16 - d ∧ x = .int .i64 (n : Int) ∧ Hid (Byt W (some ⟨w2.heap.size, 0, none⟩) 560 cap L) ∧ Hid (Below w.heap.size w W)) (fun x _ => 16 - (intOf x).toNat)
  case atStart => exact ⟨1, by omega, by omega, rfl, HY5, HB5⟩
  case round =>
    obtain ⟨n, hn1, hn2, rfl, HY, HB⟩ := hrel
    by_cases hnd : n + d ≤ 15
    · obtain ⟨m, hm1⟩ : ∃ m, m = 16 * k := ⟨_, rfl⟩
      obtain ⟨m2, hm2⟩ : ∃ m2, m2 = m + 16 := ⟨_, rfl⟩
      have q3 : IntKind.i64.wrap (16 * (k : Int)) = (m : Int) := by rw [wrap64_id (by omega) (by omega)]; omega
      have q4 : IntKind.i64.wrap ((m : Int) + 16) = (m2 : Int) := by rw [wrap64_id (by omega) (by omega)]; omega
      have l1 : (m : Int) ≤ (m2 : Int) := by omega
      have l2 : (m2 : Int) ≤ 560 := by omega
      have l3 : (m2 : Int) ≤ (s.size : Int) := by omega
      have l4 : (m : Int) ≤ 560 := by omega
      have l5 : (m2 : Int) ≤ (cap : Int) := by omega
      have l6 : ¬ cap = m := by omega
      have l7 : ¬ (cap : Int) = (m : Int) := by omega
      have l8 : m2 - m = 16 := by omega
      have l9 : (m : Int) ≤ (cap : Int) := by omega
      obtain ⟨y, hy⟩ : ∃ y, s.extract m m2 = y := ⟨_, rfl⟩
      have hyz : y.size = 16 := by rw [← hy, ByteArray.size_extract]; omega
      have HPC := Lib.hid (fun W (h : Byt W (some ⟨w2.heap.size, 0, none⟩) 560 cap L) => byt_piece h (show m + 16 ≤ 560 by omega))
      obtain ⟨z, hz⟩ : ∃ z, z = ofL ((L.drop m).take 16) := ⟨_, rfl⟩
      have hzz : z.size = 16 := by rw [hz, ofL_size, List.length_take, List.length_drop, HL4.out]; omega
      have HCV := Lib.hid (fun W (h : Byt W (some ⟨w2.heap.size, 0, none⟩) 560 cap L) => (run_conv_byt (P := Tryd.prog) (HPC.out W h) 36 5 9 Tryd.underlying36 Tryd.underlying5 Tryd.underlying9).trans (by rw [← hz]))
      have HC1 := Lib.hid (fun V => rchain_f V y (by omega) n (by omega))
      have HC2 := Lib.hid (fun V => rchain_f V z (by omega) n (by omega))
      obtain ⟨y', hy'⟩ : ∃ x, x = ofL (Wt.chain fh (bl y) n) := ⟨_, rfl⟩
      obtain ⟨z', hz'⟩ : ∃ x, x = ofL (Wt.chain fh (bl z) n) := ⟨_, rfl⟩
      rw [← hy'] at HC1
      rw [← hz'] at HC2
      have cv := HCV.out wr.drew HY.out
      clear hm1 hm2 hyz hz hzz hy' hz'
      go_wp2_with fail
      have HYD := Lib.hid (show Byt wr.drew (some ⟨w2.heap.size, 0, none⟩) 560 cap L from HY.out)
      have HBD := Lib.hid HB.out.drew
      go_region_with (first | (go_at_call 20; (with_reducible refine (HC1.out _).mono ?_); rintro e w6 ⟨rfl, hb1⟩; have KY1 := Lib.hid (show Byt w6 (some ⟨w2.heap.size, 0, none⟩) 560 cap L by first | exact Sl.below KY2.out hb1 | exact Sl.below HYD.out hb1); have KB1 := Lib.hid (show Below w.heap.size w w6 by first | exact KB2.out.trans (hb1.mono KB2.out.size) | exact HBD.out.trans (hb1.mono HBD.out.size)); have cv1 := HCV.out _ KY1.out; clear hb1) | (go_at_call 20; (with_reducible refine (HC2.out _).mono ?_); rintro e w7 ⟨rfl, hb2⟩; have KY2 := Lib.hid (show Byt w7 (some ⟨w2.heap.size, 0, none⟩) 560 cap L by first | exact Sl.below KY1.out hb2 | exact Sl.below HYD.out hb2); have KB2 := Lib.hid (show Below w.heap.size w w7 by first | exact KB1.out.trans (hb2.mono KB1.out.size) | exact HBD.out.trans (hb2.mono HBD.out.size)); have cv2 := HCV.out _ KY2.out; clear hb2))
      all_goals
        go_wp2_with fail
      all_goals
        first
        | (go_ret; exact ⟨rfl, KB2.out⟩)
        | (go_ret; exact ⟨rfl, KB1.out⟩)
        | (refine ⟨⟨n + 1, by omega, by omega, by go_num, KY2, KB2⟩, ?_⟩; simp [intOf]; omega)
        | (refine ⟨⟨n + 1, by omega, by omega, by go_num, KY1, KB1⟩, ?_⟩; simp [intOf]; omega)
    · have cv := run_conv_byt (P := Tryd.prog) HY.out 36 5 9 Tryd.underlying36 Tryd.underlying5 Tryd.underlying9
      obtain ⟨t, ht⟩ : ∃ t, t = ofL L := ⟨_, rfl⟩
      have htz : t.size = 560 := by rw [ht, ofL_size, HL4.out]
      rw [← ht] at cv
      have HR := Lib.hid (fun V (hV : Tab V) => rec_f V hV msg HM.out t (by omega))
      rw [show recE (bl t) = 0 from if_pos (by rw [bl_len]; exact htz)] at HR
      have HCO := Lib.hid (fun V => collide_f V msg s t HM.out (by omega) (by omega))
      obtain ⟨r, hr⟩ : ∃ r, r = ofL (recP (bl msg) (bl t)) := ⟨_, rfl⟩
      rw [← hr] at HR
      have HRE := Lib.hid hr
      have HTL := Lib.hid ht
      clear ht hr htz
      go_wp2_with fail
      refine (HR.out wr (HT.out.bel HB.out)).mono ?_
      rintro e w6 ⟨rfl, hb6⟩
      have HB6 := Lib.hid (HB.out.trans (hb6.mono HB.out.size))
      have HY6 := Lib.hid (Sl.below HY.out hb6)
      clear hb6 cv
      go_wp2_with fail
      refine (HP.out w6 (HT.out.bel HB6.out)).mono ?_
      rintro e w7 ⟨rfl, hb7⟩
      have HB7 := Lib.hid (HB6.out.trans (hb7.mono HB6.out.size))
      have HY7 := Lib.hid (show Byt w7 (some ⟨w2.heap.size, 0, none⟩) 560 cap L from Sl.below HY6.out hb7)
      clear hb7
      by_cases hrp : r = p
      · have HCC := Lib.hid (fun V => HCO.out V (by
          have h1 := HRE.out
          rw [hrp, ← HREC.out] at h1
          exact ofL_inj.1 h1))
        rw [hrp]
        have hpp := tl_eq p
        have cv := run_conv_byt (P := Tryd.prog) HY7.out 36 5 9 Tryd.underlying36 Tryd.underlying5 Tryd.underlying9
        rw [← HTL.out] at cv
        clear hrp
        go_wp2_with fail
        refine (HCC.out w7).mono ?_
        rintro e w8 ⟨rfl, hb8⟩
        have HB8 := Lib.hid (HB7.out.trans (hb8.mono HB7.out.size))
        clear hb8
        go_wp2_with fail
        go_ret
        exact ⟨rfl, HB8.out⟩
      · have hne := tl_ne hrp
        clear hrp
        go_wp2_with fail
        go_ret
        exact ⟨rfl, HB7.out⟩

end WotsForgery
end Go.Proofs.YtlfpppffjedngaaDoor
