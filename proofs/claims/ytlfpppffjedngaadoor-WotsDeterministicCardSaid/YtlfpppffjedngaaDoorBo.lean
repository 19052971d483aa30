/- The examples of chapter 29 hold: alive answers true; the public key is recovered from every signature. -/
import Derived.Test.YtlfpppffjedngaaDoorBn
namespace Go.Proofs.YtlfpppffjedngaaDoor
open Go.RowKit
set_option linter.unusedVariables false
namespace Bk

theorem mdig_at (msg : List UInt8) : ∀ i, (mdig msg).getD i 0 ≤ 15 := mdig_le msg
theorem sigK_pos {seed msg : List UInt8} {key : Int} (hk : ¬ key < 0) : sigK seed key msg = Wt.sgn fh (sf seed key) (mdig msg) 35 := if_neg hk
theorem sigK_len {seed msg : List UInt8} {key : Int} (hk : ¬ key < 0) : (sigK seed key msg).length = 560 := by
  rw [sigK_pos hk, sgn_size]
/-- the public key is recovered from every signature -/
theorem rec_sig {seed msg : List UInt8} {key : Int} (hk : ¬ key < 0) : recP msg (sigK seed key msg) = pubK seed key := by
  unfold recP pubK
  rw [if_pos (sigK_len hk), if_neg hk, sigK_pos hk, Wt.ends_sgn fh_len (sf_len seed key) (mdig_at msg) 35 35 (Nat.le_refl _)]
theorem recE_sig {seed msg : List UInt8} {key : Int} (hk : ¬ key < 0) : recE (sigK seed key msg) = 0 := if_pos (sigK_len hk)
theorem pubK_len {seed : List UInt8} {key : Int} (hk : ¬ key < 0) : (pubK seed key).length = 16 := by
  unfold pubK
  rw [if_neg hk]
  exact H_len _

set_option maxRecDepth 100000 in
set_option maxHeartbeats 1000000 in
theorem alive_f (w : World) (ht : Tab w) : Calls Tryd.prog 10 #[] w fun e w' => e = .returned (.bool true) ∧ Below w.heap.size w w' := by
  have HT := Lib.hid ht
  have HS := Lib.hid (sign_f w ht ⟨#[115, 101, 101, 100]⟩ (by decide) 3 (by omega) (by omega) ⟨#[109, 101, 115, 115, 97, 103, 101]⟩ (by decide))
  obtain ⟨s, hs⟩ : ∃ s, s = ofL (sigK (bl ⟨#[115, 101, 101, 100]⟩) 3 (bl ⟨#[109, 101, 115, 115, 97, 103, 101]⟩)) := ⟨_, rfl⟩
  obtain ⟨p, hp⟩ : ∃ p, p = ofL (pubK (bl ⟨#[115, 101, 101, 100]⟩) 3) := ⟨_, rfl⟩
  have hsz : s.size = 560 := by rw [hs, ofL_size, sigK_len (by omega)]
  have hpz : p.size = 16 := by rw [hp, ofL_size, pubK_len (by omega)]
  rw [← hs] at HS
  have HR := Lib.hid (fun V (hV : Tab V) => rec_f V hV ⟨#[109, 101, 115, 115, 97, 103, 101]⟩ (by decide) s (by omega))
  rw [show ofL (recP (bl ⟨#[109, 101, 115, 115, 97, 103, 101]⟩) (bl s)) = p by rw [hs, bl_ofL, rec_sig (by omega), hp], show recE (bl s) = 0 by rw [hs, bl_ofL, recE_sig (by omega)]] at HR
  have HP := Lib.hid (fun V (hV : Tab V) => pub_f V hV ⟨#[115, 101, 101, 100]⟩ (by decide) 3 (by omega) (by omega))
  rw [← hp] at HP
  obtain ⟨s1, hs1⟩ : ∃ s1, s.extract 1 560 = s1 := ⟨_, rfl⟩
  have hz1 : (bl s1).length = 559 := by rw [← hs1, bl_len, ByteArray.size_extract]; omega
  have HR1 := Lib.hid (fun V (hV : Tab V) => rec_f V hV ⟨#[109, 101, 115, 115, 97, 103, 101]⟩ (by decide) s1 (by rw [← bl_len]; omega))
  rw [show recP (bl ⟨#[109, 101, 115, 115, 97, 103, 101]⟩) (bl s1) = [] from if_neg (by omega), show recE (bl s1) = 4 from if_neg (by omega)] at HR1
  have HD := Lib.hid (fun V (hV : Tab V) => digits_f V hV ⟨#[]⟩ (by decide))
  have hpp : (p.toList == p.toList) = true := by simp
  have he : (ofL []).toList.isEmpty = true := by simp [ofL]
  clear hs hp ht hz1
  go_enter Tryd.func10, Tryd.ntmps10
  go_wp2_with fail
  refine HS.out.mono ?_
  rintro e w1 ⟨rfl, hb1⟩
  have HB1 := Lib.hid hb1
  clear hb1
  go_wp2_with fail
  refine (HR.out w1 (HT.out.bel HB1.out)).mono ?_
  rintro e w2 ⟨rfl, hb2⟩
  have HB2 := Lib.hid (HB1.out.trans (hb2.mono HB1.out.size))
  clear hb2 HB1
  go_wp2_with fail
  refine (HR1.out w2 (HT.out.bel HB2.out)).mono ?_
  rintro e w3 ⟨rfl, hb3⟩
  have HB3 := Lib.hid (HB2.out.trans (hb3.mono HB2.out.size))
  clear hb3 HB2
  go_wp2_with fail
  refine (HP.out w3 (HT.out.bel HB3.out)).mono ?_
  rintro e w4 ⟨rfl, hb4⟩
  have HB4 := Lib.hid (HB3.out.trans (hb4.mono HB3.out.size))
  clear hb4 HB3
  go_wp2_with fail
  refine (HD.out w4 (HT.out.bel HB4.out)).mono ?_
  rintro e w5 ⟨v, rfl, hown, hb5⟩
  have HB5 := Lib.hid (HB4.out.trans (hb5.mono HB4.out.size))
  rw [mdig_len] at hown
  obtain ⟨A, c, rfl, _, _⟩ := own_form hown
  clear hb5 HB4 hown
  go_wp2_with fail
  go_ret
  exact ⟨rfl, HB5.out⟩

end Bk
end Go.Proofs.YtlfpppffjedngaaDoor
