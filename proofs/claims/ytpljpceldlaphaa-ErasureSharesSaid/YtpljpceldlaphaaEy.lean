/- Walks of steleref15.Restore and steleref15.Block: they answer restB, restE, blockB, blockE. -/
import Derived.Test.YtpljpceldlaphaaEx
namespace Go.Proofs.Ytpljpceldlaphaa
open Go.RowKit

set_option maxRecDepth 100000 in
set_option maxHeartbeats 2000000 in
theorem rrestore_f (w : World) (A : Option Addr) (n c : Nat) (hv : List (Int × ByteArray)) (h : Shs w A n c hv) (hm : ∀ x ∈ hv, (IntKind.i64.min ≤ x.1 ∧ x.1 ≤ IntKind.i64.max) ∧ x.2.size ≤ 65536) (data : Int) (hd : IntKind.i64.min ≤ data ∧ data ≤ IntKind.i64.max) :
    Calls Try.prog 22 #[.slice A n c, .int .i64 data] w (GivesLE 9 Value.string w (restB hv data) (restE hv data)) := by
  have HC := Lib.hid (check_f w A n c hv h hm data hd)
  have HV := Lib.hid h
  obtain ⟨er, her⟩ : ∃ er, er = restE hv data := ⟨_, rfl⟩
  have HE := Lib.hid her
  have HM := Lib.hid (fun x hx => (hm x hx).2)
  have hd1 : -9223372036854775808 ≤ data := hd.1
  have hd2 : data ≤ 9223372036854775807 := hd.2
  rw [← her] at HC ⊢
  by_cases h0 : er = 0
  · obtain ⟨hb, hch⟩ := restE_zero (her.symm.trans h0)
    obtain ⟨d, rfl⟩ := Int.eq_ofNat_of_zero_le (show 0 ≤ data by omega)
    rw [Int.toNat_natCast] at hch
    have HCH := Lib.hid hch
    have HIX := Lib.hid (show ∀ x ∈ hv, 0 ≤ x.1 ∧ x.1 ≤ 14 from fun x hx => by
      have h := hch.ix x hx
      simp [badIdx] at h
      omega)
    have HL := Lib.hid (chosen_L hch HM.out)
    have hl1 := hch.lo
    have hl2 := hch.hi
    have HRB := Lib.hid (show restB hv (d : Int) = rbs (chs d hv) d by unfold restB; rw [← her, if_pos h0, Int.toNat_natCast]; rfl)
    have HER := Lib.hid h0
    have he : (er != 0) = false := by simp [h0]
    clear h hm hd her h0 hch hb
    go_enter Try.func22, Try.ntmps22
    go_wp2_with fail
    refine HC.out.mono ?_
    rintro e w1 ⟨rfl, hb1⟩
    have HB1 := Lib.hid hb1
    have HFC := Lib.hid (first_f w1 A n c hv (HV.out.below hb1) HIX.out HM.out d (by omega))
    clear hb1
    go_wp2_with fail
    refine HFC.out.mono ?_
    rintro e w3 ⟨vx, vy, rfl, hP⟩
    obtain ⟨Ax, cx, rfl, hbx, _⟩ := byt_own hP.1
    obtain ⟨Ay, cy, rfl, hby, _⟩ := lst_own hP.2.1
    have HBX := Lib.hid hbx
    have HBY := Lib.hid hby
    have HB3 := Lib.hid (HB1.out.trans (hP.2.2.2.mono HB1.out.size))
    clear hP hbx hby
    rw [HCH.out.xl] at HBX HBY ⊢
    have HAT := Lib.hid (fun (V : World) (hV : Below w3.heap.size w3 V) (x : UInt8) => at_f V Ax d cx (chs d hv).1 (HBX.out.below hV) Ay d cy (chs d hv).2 (HBY.out.below hV) x HCH.out.bl_ (by rw [HCH.out.xl]; omega) (by rw [HCH.out.xl]; omega) _ HL.out HCH.out.sb)
    go_wp2
    go_loopw [9, 10] (fun vo i wr => ∃ k : Nat, k ≤ d ∧ i = .int .i64 (k : Int) ∧ wr.ownsRow w3.heap.size 9 1 vo k ((rbs (chs d hv) k).map Value.string) ∧ Below w3.heap.size w3 wr) (fun _ i _ => d - (intOf i).toNat)
    case atStart => exact ⟨0, by omega, rfl, World.ownsRow_lit w3 #[] 0 (Nat.le_refl _) (Nat.zero_le _) rfl, (Below.refl _ w3).alloc (Nat.le_refl _) _⟩
    case round =>
      obtain ⟨k, hk, rfl, hown, hb⟩ := hrel
      have HO := Lib.hid hown
      have HB := Lib.hid hb
      have hbs := hb.size
      clear hown hb
      by_cases hlt2 : k < d
      · have HS := Lib.hid (rbs_succ (chs d hv) k)
        obtain ⟨b, hbb⟩ : ∃ b, b = UInt8.ofNat k := ⟨_, rfl⟩
        have hwr1 : IntKind.u8.wrap (k : Int) = (b.toNat : Int) := by rw [IntKind.wrap_u8, hbb, UInt8.toNat_ofNat']; omega
        have hbn : (b.toNat : Int) = (k : Int) := by rw [hbb, UInt8.toNat_ofNat']; omega
        obtain ⟨r, hr⟩ : ∃ r, r = blkS (chs d hv) b := ⟨_, rfl⟩
        have HBK := Lib.hid (show Calls Try.prog 30 #[.slice Ax d cx, .slice Ay d cy, .int .u8 (k : Int)] wr (fun e w' => e = .returned (.string r) ∧ Below wr.heap.size wr w') by rw [hr, ← hbn]; exact HAT.out wr HB.out b)
        have HR := Lib.hid (show rbs (chs d hv) (k + 1) = rbs (chs d hv) k ++ [r] by rw [HS.out, hr, hbb])
        clear hr hbb hwr1 hbn
        go_wp2_with fail
        refine HBK.out.mono ?_
        rintro e w4 ⟨rfl, hb4⟩
        have HB4 := Lib.hid hb4
        have HO4 := Lib.hid (own_below HO.out hb4)
        have hs4 := hb4.size
        clear hb4
        go_wp2_with (at_builtin; refine wpl_push ty_str rfl _ _ rfl w3.heap.size u9 k ((rbs (chs d hv) k).map Value.string) rfl (HO4.out.alloc _) _ (.string r) rfl (Blk.new _ _ _) rfl (by simp; omega) (by unfold maxLen; omega) (by omega) ?_; intro v' w8 hown8 hgrow _)
        go_roundw
        case rel => exact ⟨k + 1, by omega, by go_num, by rw [HR.out, List.map_append]; exact hown8, push_below (HB.out.trans (HB4.out.mono hbs)) (by omega) HO4.out hgrow⟩
        case measure => simp [intOf]; omega
      · have HK := Lib.hid (show k = d by omega)
        have hge : d ≤ k := by omega
        go_wp2
        go_ret2
        refine ⟨u9, ?_, ?_, HB3.out.trans (HB.out.mono HB3.out.size)⟩
        · rw [HER.out]; rfl
        · have h7 := HO.out
          rw [HK.out] at h7
          rw [HRB.out, rbs_len]
          exact own_mono h7 HB3.out.size
  · have he : (er != 0) = true := by simp [h0]
    have HRB := Lib.hid (show restB hv data = [] by unfold restB; rw [← her, if_neg h0])
    have HE0 := Lib.hid h0
    clear h hm hd her h0
    go_enter Try.func22, Try.ntmps22
    go_wp2_with fail
    refine HC.out.mono ?_
    rintro e w1 ⟨rfl, hb1⟩
    have HB1 := Lib.hid hb1
    clear hb1
    go_wp2
    go_ret2
    refine ⟨_, rfl, ?_, HB1.out⟩
    rw [HRB.out]
    exact World.ownsRow_nil _ _ _ _

set_option maxRecDepth 100000 in
set_option maxHeartbeats 2000000 in
theorem rblock_f (w : World) (A : Option Addr) (n c : Nat) (hv : List (Int × ByteArray)) (h : Shs w A n c hv) (hm : ∀ x ∈ hv, (IntKind.i64.min ≤ x.1 ∧ x.1 ≤ IntKind.i64.max) ∧ x.2.size ≤ 65536) (data : Int) (hd : IntKind.i64.min ≤ data ∧ data ≤ IntKind.i64.max) (index : Int) (hi : IntKind.i64.min ≤ index ∧ index ≤ IntKind.i64.max) :
    Calls Try.prog 23 #[.slice A n c, .int .i64 data, .int .i64 index] w (GivesSE (blockB hv data index) (blockE hv data index) w) := by
  have HC := Lib.hid (check_f w A n c hv h hm data hd)
  have HV := Lib.hid h
  obtain ⟨er, her⟩ : ∃ er, er = restE hv data := ⟨_, rfl⟩
  have HE := Lib.hid her
  have HM := Lib.hid (fun x hx => (hm x hx).2)
  have hd1 : -9223372036854775808 ≤ data := hd.1
  have hd2 : data ≤ 9223372036854775807 := hd.2
  have hi1 : -9223372036854775808 ≤ index := hi.1
  have hi2 : index ≤ 9223372036854775807 := hi.2
  rw [← her] at HC
  by_cases hix : index < 0 ∨ 15 ≤ index
  · have HBE := Lib.hid (show blockE hv data index = 2 by unfold blockE; rw [if_pos hix])
    have HBB := Lib.hid (show blockB hv data index = ⟨#[]⟩ by unfold blockB; rw [HBE.out]; rfl)
    unfold GivesSE
    rw [HBE.out, HBB.out]
    clear h hm hd hi her HC
    by_cases hi0 : index < 0
    · clear hix
      go_enter Try.func23, Try.ntmps23
      go_wp2
      go_ret2
      exact ⟨rfl, Below.refl _ w⟩
    · have hi3 : 14 < index := by omega
      clear hix
      go_enter Try.func23, Try.ntmps23
      go_wp2
      go_ret2
      exact ⟨rfl, Below.refl _ w⟩
  · obtain ⟨j, rfl⟩ := Int.eq_ofNat_of_zero_le (show 0 ≤ index by omega)
    have hj : j ≤ 14 := by omega
    have HBE := Lib.hid (show blockE hv data (j : Int) = er by unfold blockE; rw [if_neg hix, her])
    by_cases h0 : er = 0
    · obtain ⟨hb, hch⟩ := restE_zero (her.symm.trans h0)
      obtain ⟨d, rfl⟩ := Int.eq_ofNat_of_zero_le (show 0 ≤ data by omega)
      rw [Int.toNat_natCast] at hch
      have HCH := Lib.hid hch
      have HIX := Lib.hid (show ∀ x ∈ hv, 0 ≤ x.1 ∧ x.1 ≤ 14 from fun x hx => by
        have h := hch.ix x hx
        simp [badIdx] at h
        omega)
      have HL := Lib.hid (chosen_L hch HM.out)
      have hl1 := hch.lo
      have hl2 := hch.hi
      have HRB := Lib.hid (show blockB hv (d : Int) (j : Int) = blkS (chs d hv) (UInt8.ofNat j) by unfold blockB; rw [HBE.out, if_pos h0, Int.toNat_natCast, byt8_nat (by omega)])
      have HER := Lib.hid h0
      have he : (er != 0) = false := by simp [h0]
      clear h hm hd hi her h0 hch hb hix
      go_enter Try.func23, Try.ntmps23
      go_wp2_with fail
      refine HC.out.mono ?_
      rintro e w1 ⟨rfl, hb1⟩
      have HB1 := Lib.hid hb1
      have HFC := Lib.hid (first_f w1 A n c hv (HV.out.below hb1) HIX.out HM.out d (by omega))
      clear hb1
      go_wp2_with fail
      refine HFC.out.mono ?_
      rintro e w3 ⟨vx, vy, rfl, hP⟩
      obtain ⟨Ax, cx, rfl, hbx, _⟩ := byt_own hP.1
      obtain ⟨Ay, cy, rfl, hby, _⟩ := lst_own hP.2.1
      have HBX := Lib.hid hbx
      have HBY := Lib.hid hby
      have HB3 := Lib.hid (HB1.out.trans (hP.2.2.2.mono HB1.out.size))
      clear hP hbx hby
      rw [HCH.out.xl] at HBX HBY ⊢
      obtain ⟨b, hbb⟩ : ∃ b, b = UInt8.ofNat j := ⟨_, rfl⟩
      have hbn : (b.toNat : Int) = (j : Int) := by rw [hbb, UInt8.toNat_ofNat']; omega
      obtain ⟨r, hr⟩ : ∃ r, r = blkS (chs d hv) b := ⟨_, rfl⟩
      have HBK := Lib.hid (show Calls Try.prog 30 #[.slice Ax d cx, .slice Ay d cy, .int .u8 (j : Int)] w3 (fun e w' => e = .returned (.string r) ∧ Below w3.heap.size w3 w') by
        rw [hr, ← hbn]; exact at_f w3 Ax d cx (chs d hv).1 HBX.out Ay d cy (chs d hv).2 HBY.out b HCH.out.bl_ (by rw [HCH.out.xl]; omega) (by rw [HCH.out.xl]; omega) _ HL.out HCH.out.sb)
      rw [← hbb, ← hr] at HRB
      clear hr hbb hbn
      go_wp2_with fail
      refine HBK.out.mono ?_
      rintro e w4 ⟨rfl, hb4⟩
      have HB4 := Lib.hid (HB3.out.trans (hb4.mono HB3.out.size))
      clear hb4
      go_wp2
      go_ret2
      exact ⟨by rw [HRB.out, HBE.out, HER.out]; rfl, HB4.out⟩
    · have he : (er != 0) = true := by simp [h0]
      have HRB := Lib.hid (show blockB hv data (j : Int) = ⟨#[]⟩ by unfold blockB; rw [HBE.out, if_neg h0]; rfl)
      unfold GivesSE
      rw [HBE.out, HRB.out]
      clear h hm hd hi her h0 hix
      go_enter Try.func23, Try.ntmps23
      go_wp2_with fail
      refine HC.out.mono ?_
      rintro e w1 ⟨rfl, hb1⟩
      have HB1 := Lib.hid hb1
      clear hb1
      go_wp2
      go_ret2
      exact ⟨rfl, HB1.out⟩

end Go.Proofs.Ytpljpceldlaphaa
