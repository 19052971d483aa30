/- Walks of erasure.Restore and erasure.Block. -/
import Derived.Test.YtogcgeiocndlbaaYc
namespace Go.Proofs.Ytogcgeiocndlbaa
open Go.RowKit

/-- what is known of a choice that succeeded -/
structure Chosen (hv : List (Int × ByteArray)) (data : Nat) (L : Nat) : Prop where
  lo : 1 ≤ data
  hi : data ≤ 15
  ix : ∀ x ∈ hv, badIdx x = false
  sz : ∀ x ∈ hv, x.2.size = L
  xl : (chs data hv).1.length = data
  bl_ : (chs data hv).2.length = (chs data hv).1.length
  sb : ∀ b ∈ (chs data hv).2, b.size = L
theorem chosen_of {hv : List (Int × ByteArray)} {data : Int} (h1 : ¬ (data < 1 ∨ 15 < data)) (h2 : hv.any badIdx = false) (h3 : hv.any (badLen hv) = false) (h4 : ¬ (chs data.toNat hv).1.length < data.toNat) : Chosen hv data.toNat (hv.getD 0 default).2.size := by
  have hsz : ∀ x ∈ hv, x.2.size = (hv.getD 0 default).2.size := fun x hx => by
    rw [List.any_eq_false] at h3
    have := h3 x hx
    unfold badLen at this
    simp only [bne_iff_ne, ne_eq, Classical.not_not] at this
    exact this
  have hc := chs_inv data.toNat hv
  refine ⟨by omega, by omega, fun x hx => ?_, hsz, by have := hc.le; omega, hc.len.symm, fun b hb => ?_⟩
  · rw [List.any_eq_false] at h2
    simpa using h2 x hx
  · obtain ⟨q, hq, rfl⟩ := List.mem_iff_getElem.1 hb
    obtain ⟨x, hx, _, h5⟩ := hc.from_ q (by rw [hc.len]; exact hq)
    rw [show (chs data.toNat hv).2[q] = (chs data.toNat hv).2.getD q default by simp [List.getD, List.getElem?_eq_getElem hq], ← h5]
    exact hsz x hx
theorem restE_zero {hv : List (Int × ByteArray)} {data : Int} (h : restE hv data = 0) : ¬ (data < 1 ∨ 15 < data) ∧ Chosen hv data.toNat (hv.getD 0 default).2.size := by
  unfold restE at h
  by_cases h1 : data < 1 ∨ 15 < data
  · rw [if_pos h1] at h; exact absurd h (by decide)
  · rw [if_neg h1] at h
    cases h2 : hv.any badIdx with
    | true => rw [h2] at h; exact absurd h (by simp)
    | false =>
      cases h3 : hv.any (badLen hv) with
      | true => rw [h2, h3] at h; exact absurd h (by simp)
      | false =>
        by_cases h4 : (chs data.toNat hv).1.length < data.toNat
        · rw [h2, h3, if_pos h4] at h; exact absurd h (by simp)
        · exact ⟨h1, chosen_of h1 h2 h3 h4⟩
theorem chosen_L {hv : List (Int × ByteArray)} {data L : Nat} (h : Chosen hv data L) (hm : ∀ x ∈ hv, x.2.size ≤ 65536) : L ≤ 65536 := by
  have hc := chs_inv data hv
  obtain ⟨x, hx, _, _⟩ := hc.from_ 0 (by rw [h.xl]; have := h.lo; omega)
  rw [← h.sz x hx]
  exact hm x hx

theorem choose_any (w : World) (A : Option Addr) (n c : Nat) (hv : List (Int × ByteArray)) (h : Shs w A n c hv) (hm : ∀ x ∈ hv, (IntKind.i64.min ≤ x.1 ∧ x.1 ≤ IntKind.i64.max) ∧ x.2.size ≤ 65536) (data : Int) (hd : IntKind.i64.min ≤ data ∧ data ≤ IntKind.i64.max) :
    Calls Try.prog 27 #[.slice A n c, .int .i64 data] w (GivesC (chs data.toNat hv).1 (chs data.toNat hv).2 (restE hv data) w) := by
  by_cases hbad : data < 1 ∨ 15 < data
  · rw [restE_hi hbad]
    refine (choose_bad w A n c data hd hbad).mono fun e w' h => ?_
    obtain ⟨A1, n1, c1, A2, n2, c2, h1, _, h3⟩ := h
    exact ⟨A1, n1, c1, A2, n2, c2, h1, fun h => absurd h (by decide), h3⟩
  · obtain ⟨d, rfl⟩ := Int.eq_ofNat_of_zero_le (show 0 ≤ data by omega)
    rw [Int.toNat_natCast]
    exact choose_f w A n c hv h hm d (by omega) (by omega) _ (Lib.hid rfl)

/-- the first k blocks -/
def rbs (c : List UInt8 × List ByteArray) (k : Nat) : List ByteArray := (List.range k).map fun i => blkS c (UInt8.ofNat i)
theorem rbs_succ (c : List UInt8 × List ByteArray) (k : Nat) : rbs c (k + 1) = rbs c k ++ [blkS c (UInt8.ofNat k)] := by simp [rbs, List.range_succ]
theorem rbs_len (c : List UInt8 × List ByteArray) (k : Nat) : (rbs c k).length = k := by simp [rbs]

set_option maxRecDepth 100000 in
set_option maxHeartbeats 1000000 in
theorem restore_f (w : World) (A : Option Addr) (n c : Nat) (hv : List (Int × ByteArray)) (h : Shs w A n c hv) (hm : ∀ x ∈ hv, (IntKind.i64.min ≤ x.1 ∧ x.1 ≤ IntKind.i64.max) ∧ x.2.size ≤ 65536) (data : Int) (hd : IntKind.i64.min ≤ data ∧ data ≤ IntKind.i64.max) :
    Calls Try.prog 22 #[.slice A n c, .int .i64 data] w (GivesLE 9 Value.string w (restB hv data) (restE hv data)) := by
  have HC := Lib.hid (choose_any w A n c hv h hm data hd)
  obtain ⟨er, her⟩ : ∃ er, er = restE hv data := ⟨_, rfl⟩
  have HE := Lib.hid her
  have HM := Lib.hid (fun x hx => (hm x hx).2)
  have hd1 : -9223372036854775808 ≤ data := hd.1
  have hd2 : data ≤ 9223372036854775807 := hd.2
  rw [← her] at HC ⊢
  by_cases h0 : er = 0
  · obtain ⟨hb, hch⟩ := restE_zero (her.symm.trans h0)
    obtain ⟨d, rfl⟩ := Int.eq_ofNat_of_zero_le (show 0 ≤ data by omega)
    rw [Int.toNat_natCast] at hch HC
    have HCH := Lib.hid hch
    have HL := Lib.hid (chosen_L hch HM.out)
    have hl1 := hch.lo
    have hl2 := hch.hi
    have HRB := Lib.hid (show restB hv (d : Int) = rbs (chs d hv) d by unfold restB; rw [← her, if_pos h0, Int.toNat_natCast]; rfl)
    have HER := Lib.hid h0
    have he : (er != 0) = false := by simp [h0]
    clear h hm hd her h0 hch hb
    go_enter Try.func22, Try.ntmps22
    go_wp2_with fail
    refine HC.out.mono ?_
    rintro e w1 ⟨A1, n1, c1, A2, n2, c2, rfl, hgood, hb1⟩
    obtain ⟨hx1, hx2⟩ := hgood HER.out
    have hn1 := hx1.len
    have hn2 := hx2.len
    have HX1 := Lib.hid (hx1.alloc (.cells #[.slice A1 n1 c1, .slice A2 n2 c2] 59))
    have HX2 := Lib.hid (hx2.alloc (.cells #[.slice A1 n1 c1, .slice A2 n2 c2] 59))
    have HV := Lib.hid (Blk.new w1 59 #[.slice A1 n1 c1, .slice A2 n2 c2])
    have HB1 := Lib.hid hb1
    obtain ⟨wa, hwa⟩ : ∃ wa, wa = w1.alloc (.cells #[.slice A1 n1 c1, .slice A2 n2 c2] 59) := ⟨_, rfl⟩
    have HWA := Lib.hid hwa
    rw [← hwa] at HX1 HX2 HV
    have HBA := Lib.hid (show Below w.heap.size w wa by rw [hwa]; exact hb1.alloc hb1.size _)
    have HSA := Lib.hid (show wa.heap.size = w1.heap.size + 1 by rw [hwa]; simp)
    clear hgood hx1 hx2 hb1 hwa hn1 hn2
    go_wp2
    rw [← HWA.out]
    have hlt := HV.out.lt
    go_loopw [8, 20] (fun vo i wr => ∃ k : Nat, k ≤ d ∧ i = .int .i64 (k : Int) ∧ wr.ownsRow wa.heap.size 9 1 vo k ((rbs (chs d hv) k).map Value.string) ∧ Below wa.heap.size wa wr) (fun _ i _ => d - (intOf i).toNat)
    case atStart => exact ⟨0, by omega, rfl, World.ownsRow_nil _ _ _ _, Below.refl _ wa⟩
    case round =>
      obtain ⟨k, hk, rfl, hown, hb⟩ := hrel
      have HO := Lib.hid hown
      have HB := Lib.hid hb
      have hbs := hb.size
      have HVr := Lib.hid (HV.out.below hb)
      have HX1r := Lib.hid (HX1.out.below hb)
      have HX2r := Lib.hid (HX2.out.below hb)
      clear hown hb
      by_cases hlt2 : k < d
      · have hc0 := HVr.out.cell 0
        have hc1 := HVr.out.cell 1
        have HS := Lib.hid (rbs_succ (chs d hv) k)
        have HBK := Lib.hid (block_f wr A1 n1 c1 _ HX1r.out A2 n2 c2 _ HX2r.out HCH.out.bl_ (by rw [HCH.out.xl]; omega) (by rw [HCH.out.xl]; omega) _ HL.out HCH.out.sb k (by omega))
        obtain ⟨r, hr⟩ : ∃ r, r = blkS ((chs d hv).1, (chs d hv).2) (UInt8.ofNat k) := ⟨_, rfl⟩
        rw [← hr] at HBK
        have HR := Lib.hid (show rbs (chs d hv) (k + 1) = rbs (chs d hv) k ++ [r] by rw [HS.out, hr])
        clear hr
        go_wp2_with fail
        refine HBK.out.mono ?_
        rintro e w4 ⟨rfl, hb4⟩
        have HB4 := Lib.hid hb4
        have HO4 := Lib.hid (own_below HO.out hb4)
        have hs4 := hb4.size
        clear hb4 hc0 hc1
        go_wp2_with (at_builtin; refine wpl_push ty_str rfl _ _ rfl wa.heap.size u8 k ((rbs (chs d hv) k).map Value.string) rfl (HO4.out.alloc _) _ (.string r) rfl (Blk.new _ _ _) rfl (by simp; omega) (by unfold maxLen; omega) (by omega) ?_; intro v' w8 hown8 hgrow _)
        go_roundw
        case rel => exact ⟨k + 1, by omega, by go_num, by rw [HR.out, List.map_append]; exact hown8, push_below (HB.out.trans (HB4.out.mono hbs)) (by omega) HO4.out hgrow⟩
        case measure => simp [intOf]; omega
      · have HK := Lib.hid (show k = d by omega)
        go_wp2
        go_ret2
        refine ⟨u8, ?_, ?_, HBA.out.trans (HB.out.mono HBA.out.size)⟩
        · rw [HER.out]; rfl
        · have h7 := HO.out
          rw [HK.out] at h7
          rw [HRB.out, rbs_len]
          exact own_mono h7 HBA.out.size
  · have he : (er != 0) = true := by simp [h0]
    have HRB := Lib.hid (show restB hv data = [] by unfold restB; rw [← her, if_neg h0])
    have HE0 := Lib.hid h0
    clear h hm hd her h0
    go_enter Try.func22, Try.ntmps22
    go_wp2_with fail
    refine HC.out.mono ?_
    rintro e w1 ⟨A1, n1, c1, A2, n2, c2, rfl, _, hb1⟩
    have HB1 := Lib.hid hb1
    clear hb1
    go_wp2
    go_ret2
    refine ⟨_, rfl, ?_, HB1.out.alloc HB1.out.size _⟩
    rw [HRB.out]
    exact World.ownsRow_nil _ _ _ _

end Go.Proofs.Ytogcgeiocndlbaa
