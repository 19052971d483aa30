/- The law WotsChains of stelelaw29 returns true for every input in a world that holds the table of the powers of ten. -/
import Derived.Test.YtlfpppffjedngaaDoorCj
namespace Go.Proofs.YtlfpppffjedngaaDoor
namespace WotsChains
open Go.RowKit Bk

set_option maxRecDepth 100000 in
set_option maxHeartbeats 2000000 in
theorem core (w : World) (ht : Tab w) (seed msg : ByteArray) (hs : seed.size ≤ 140737488355328) (hm : msg.size ≤ 140737488355328) (kk : Nat) (hkk : kk < 256) :
    Calls Tryd.prog 9 #[.string seed, .string msg, .int .u8 (kk : Int)] w fun e w' => e = .returned (.bool true) ∧ Below w.heap.size w w' := by
  have HT := Lib.hid ht
  clear ht
  go_enter Tryd.func9, Tryd.ntmps9
  go_wp2_with fail
  refine (alive_f w HT.out).mono ?_
  rintro e w1 ⟨rfl, hb1⟩
  have HB1 := Lib.hid hb1
  clear hb1
  by_cases hl : 300 < seed.size + msg.size
  · go_wp2_with fail
    go_ret
    exact ⟨rfl, HB1.out⟩
  have HS := Lib.hid (fun V (hV : Tab V) => sign_f V hV seed (by omega) 2 (by omega) (by omega) msg (by omega))
  obtain ⟨s, hs1⟩ : ∃ s, s = ofL (sigK (bl seed) 2 (bl msg)) := ⟨_, rfl⟩
  obtain ⟨p, hp⟩ : ∃ p, p = ofL (pubK (bl seed) 2) := ⟨_, rfl⟩
  have hsz : s.size = 560 := by rw [hs1, ofL_size, sigK_len (by omega)]
  rw [← hs1] at HS
  have HP := Lib.hid (fun V (hV : Tab V) => pub_f V hV seed (by omega) 2 (by omega) (by omega))
  have HRP := Lib.hid (fun V => rpub_f V seed (by omega) 2 (by omega) (by omega))
  rw [← hp] at HP HRP
  have HM := Lib.hid (show msg.size ≤ 900000 by omega)
  clear hs1 hp
  go_wp2_with fail
  refine (HS.out w1 (HT.out.bel HB1.out)).mono ?_
  rintro e w2 ⟨rfl, hb2⟩
  have HB2 := Lib.hid (HB1.out.trans (hb2.mono HB1.out.size))
  clear hb2 HB1
  go_wp2_with fail
  refine (digits_f w2 (HT.out.bel HB2.out) msg HM.out).mono ?_
  rintro e w3 ⟨v, rfl, hown, hb3⟩
  have HB3 := Lib.hid (HB2.out.trans (hb3.mono HB2.out.size))
  rw [mdig_len] at hown
  obtain ⟨A, c, rfl, _, _⟩ := own_form hown
  clear hb3 HB2 hown
  obtain ⟨i, hi⟩ : ∃ i, i = kk % 35 := ⟨_, rfl⟩
  have q1 : (kk : Int) % 35 = (i : Int) := by omega
  have q2 : (kk : Int).tmod 35 = (i : Int) := by rw [Int.tmod_eq_emod_of_nonneg (by omega)]; exact q1
  obtain ⟨m, hm1⟩ : ∃ m, m = 16 * i := ⟨_, rfl⟩
  obtain ⟨m2, hm2⟩ : ∃ m, m = 16 * i + 16 := ⟨_, rfl⟩
  have i35 : i < 35 := by omega
  have q3 : 16 * (i : Int) = (m : Int) := by omega
  have q4 : (m : Int) + 16 = (m2 : Int) := by omega
  have q5 : IntKind.i64.wrap (m : Int) = (m : Int) := wrap64_id (by omega) (by omega)
  have q6 : IntKind.i64.wrap (m2 : Int) = (m2 : Int) := wrap64_id (by omega) (by omega)
  have l1 : (m : Int) ≤ (m2 : Int) := by omega
  have l2 : (m2 : Int) ≤ 560 := by omega
  have l3 : (m2 : Int) ≤ (s.size : Int) := by omega
  have l4 : (m : Int) ≤ (s.size : Int) := by omega
  obtain ⟨x, hx⟩ : ∃ x, s.extract m m2 = x := ⟨_, rfl⟩
  obtain ⟨a, ha⟩ : ∃ x, s.extract 0 m = x := ⟨_, rfl⟩
  obtain ⟨z, hz⟩ : ∃ x, s.extract m2 560 = x := ⟨_, rfl⟩
  have hxz : x.size = 16 := by rw [← hx, ByteArray.size_extract]; omega
  have haz : a.size = m := by rw [← ha, ByteArray.size_extract]; omega
  have hzz : z.size = 560 - m2 := by rw [← hz, ByteArray.size_extract]; omega
  have HC := Lib.hid (show ∀ V, Calls Tryd.prog 20 #[.string x, .int .i64 1] V (fun e w' => e = .returned (.string (ofL (Wt.chain fh (bl x) 1))) ∧ Below V.heap.size V w') from fun V => rchain_f V x (by omega) 1 (by omega))
  obtain ⟨y, hy⟩ : ∃ y, y = ofL (Wt.chain fh (bl x) 1) := ⟨_, rfl⟩
  have hyz : y.size = 16 := by rw [hy, ofL_size, Wt.chain_len fh_len (by rw [bl_len]; exact hxz)]
  rw [← hy] at HC
  have hn0 : (a ++ y).size = m + 16 := by rw [ByteArray.size_append, haz, hyz]
  have hnz : (a ++ y ++ z).size = 560 := by rw [ByteArray.size_append, hn0, hzz]; omega
  have g1 : ¬ 9223372036854775807 < a.size + y.size := by omega
  have g2 : ¬ 9223372036854775807 < (a ++ y).size + z.size := by omega
  obtain ⟨b, hb⟩ : ∃ b, a ++ y = b := ⟨_, rfl⟩
  rw [hb] at g2 hnz
  obtain ⟨n, hn⟩ : ∃ n, b ++ z = n := ⟨_, rfl⟩
  rw [hn] at hnz
  have HR := Lib.hid (fun V (hV : Tab V) => rec_f V hV msg HM.out n (by omega))
  have HRR := Lib.hid (fun V => rrec_f V msg HM.out n (by omega))
  rw [show recE (bl n) = 0 from if_pos (by rw [bl_len]; exact hnz)] at HR HRR
  obtain ⟨r, hr⟩ : ∃ r, r = ofL (recP (bl msg) (bl n)) := ⟨_, rfl⟩
  rw [← hr] at HR HRR
  have HNZ := Lib.hid hnz
  clear hi hm1 hm2 hxz haz hzz hyz hn0 hnz hy hr
  go_wp2_with fail
  go_region_with (first | (go_at_call 20; (with_reducible refine (HC.out _).mono ?_); rintro e w4 ⟨rfl, hb4⟩; have HB4 := Lib.hid ((HB3.out.drew).trans (hb4.mono HB3.out.size)); clear hb4))
  all_goals
    go_wp2_with fail
    refine (HR.out w4 (HT.out.bel HB4.out)).mono ?_
    rintro e w5 ⟨rfl, hb5⟩
    have HB5 := Lib.hid (HB4.out.trans (hb5.mono HB4.out.size))
    clear hb5
    go_wp2_with fail
    refine (HP.out w5 (HT.out.bel HB5.out)).mono ?_
    rintro e w6 ⟨rfl, hb6⟩
    have HB6 := Lib.hid (HB5.out.trans (hb6.mono HB5.out.size))
    clear hb6
    by_cases hrp : r = p
    · have hpp : (p.toList == p.toList) = true := by simp
      rw [hrp] at HRR ⊢
      clear hrp
      go_wp2_with fail
      refine (HRR.out w6).mono ?_
      rintro e w7 ⟨rfl, hb7⟩
      have HB7 := Lib.hid (HB6.out.trans (hb7.mono HB6.out.size))
      clear hb7
      go_wp2_with fail
      refine (HRP.out w7).mono ?_
      rintro e w8 ⟨rfl, hb8⟩
      have HB8 := Lib.hid (HB7.out.trans (hb8.mono HB7.out.size))
      clear hb8
      go_wp2_with fail
      go_ret
      exact ⟨rfl, HB8.out⟩
    · have hne := tl_ne hrp
      clear hrp
      go_wp2_with fail
      go_ret
      exact ⟨rfl, HB6.out⟩

end WotsChains
end Go.Proofs.YtlfpppffjedngaaDoor
