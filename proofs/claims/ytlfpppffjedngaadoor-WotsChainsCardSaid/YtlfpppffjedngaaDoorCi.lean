/- wots of the reference: Public, Recover, Sign. -/
import Derived.Test.YtlfpppffjedngaaDoorCh
namespace Go.Proofs.YtlfpppffjedngaaDoor
open Go.RowKit
set_option linter.unusedVariables false
namespace Bk

theorem tot_small : ∀ m : List ByteArray, (∀ s ∈ m, s.size ≤ 1000) → tot m ≤ 1023 * m.length := by
  intro m
  induction m with
  | nil => intro _; exact Nat.le_refl _
  | cons a m ih =>
    intro hm
    have h1 := hm a (by simp)
    have h2 := tot_cons a m (by omega)
    have h3 := ih (fun s hs => hm s (by simp [hs]))
    simp only [List.length_cons]
    omega
def bPublic : ByteArray := ⟨#[112, 117, 98, 108, 105, 99]⟩
theorem pubH_f (w : World) (A : Option Addr) (n c : Nat) (l : List ByteArray) (h : Stl w A n c (bPublic :: l)) (hn : n ≤ 100) (hl : ∀ s ∈ l, s.size ≤ 1000) :
    Calls Tryd.prog 27 #[.slice A n c] w fun e w' => e = .returned (.string (ofL (pubH (bls l)))) ∧ Below w.heap.size w w' := by
  have hbp : bPublic.size ≤ 1000 := by decide
  have hm : ∀ s ∈ bPublic :: l, s.size ≤ 1000 := fun s hs => by
    rcases List.mem_cons.1 hs with rfl | hs
    · exact hbp
    · exact hl s hs
  have h1 := tot_small (bPublic :: l) hm
  have h2 := h.len
  exact rhash_f w A n c (bPublic :: l) h (fun s hs => by have := hm s hs; omega) (by omega)

set_option maxRecDepth 100000 in
set_option maxHeartbeats 2000000 in
theorem rpub_f (w : World) (seed : ByteArray) (hs : seed.size ≤ 900000) (key : Int) (hk0 : -9223372036854775808 ≤ key) (hk1 : key ≤ 9223372036854775807) :
    Calls Tryd.prog 12 #[.string seed, .int .i64 key] w fun e w' => e = .returned (.string (ofL (pubK (bl seed) key))) ∧ Below w.heap.size w w' := by
  obtain ⟨i0, hi', hz0, hz1, hz2⟩ := info_parts info_str
  by_cases hneg : key < 0
  · have HE := Lib.hid (show pubK (bl seed) key = [] from if_pos hneg)
    rw [HE.out]
    go_enter Tryd.func12, Tryd.ntmps12
    go_wp2_with fail
    go_ret
    exact ⟨rfl, Below.refl _ _⟩
  · have HE := Lib.hid (show pubK (bl seed) key = pubH (Wt.pubs fh (sf (bl seed) key) 35) from if_neg hneg)
    rw [HE.out]
    go_enter Tryd.func12, Tryd.ntmps12
    go_wp2_with fail
    have HO := Lib.hid (show (w.alloc (.cells #[.string ⟨#[112, 117, 98, 108, 105, 99]⟩] 9)).ownsRow w.heap.size 9 1 (.slice (some ⟨w.heap.size, 0, none⟩) 1 1) 1 (sv (bPublic :: ols (Wt.pubs fh (sf (bl seed) key) 0))) from Blk.own (n := 1) (size := 1) (Blk.new w 9 _) (Nat.le_refl _) rfl (by unfold maxLen; omega))
    have HB := Lib.hid ((Below.refl w.heap.size w).alloc (Nat.le_refl _) (.cells #[.string ⟨#[112, 117, 98, 108, 105, 99]⟩] 9))
    obtain ⟨w1, hw1⟩ : ∃ w1, w1 = w.alloc (.cells #[.string ⟨#[112, 117, 98, 108, 105, 99]⟩] 9) := ⟨_, rfl⟩
    rw [← hw1] at HO HB ⊢
    clear hw1
    go_loopw [5, 6] (fun y x W => ∃ k : Nat, k ≤ 35 ∧ x = .int .i64 (k : Int) ∧ Hid (W.ownsRow w.heap.size 9 1 y (1 + k) (sv (bPublic :: ols (Wt.pubs fh (sf (bl seed) key) k)))) ∧ Hid (Below w.heap.size w W)) (fun _ x _ => 35 - (intOf x).toNat)
    case atStart => exact ⟨0, by omega, rfl, HO, HB⟩
    case round =>
      obtain ⟨k, hk, rfl, HO, HB⟩ := hrel
      by_cases hk35 : k < 35
      · go_wp2_with fail
        refine (rsecret_f wr seed hs key (k : Int) hk0 hk1 (by omega) (by omega)).mono ?_
        rintro e w1 ⟨rfl, hb1⟩
        have HO1 := Lib.hid (own_below HO.out hb1)
        have HB1 := Lib.hid (HB.out.trans (hb1.mono HB.out.size))
        clear hb1
        go_wp2_with fail
        refine (rsteps_f w1 (ofL (sec (bl seed) key (k : Int))) (by rw [ofL_size, sec_len]; omega) 15 (by omega)).mono ?_
        rintro e w2 ⟨rfl, hb2⟩
        have HO2 := Lib.hid (own_below HO1.out hb2)
        have HB2 := Lib.hid (HB1.out.trans (hb2.mono HB1.out.size))
        clear hb2 HO1 HB1
        rw [bl_ofL]
        obtain ⟨y, hy⟩ : ∃ y, y = ofL (Wt.chain fh (sec (bl seed) key (k : Int)) 15) := ⟨_, rfl⟩
        have HPS := Lib.hid (show ols (Wt.pubs fh (sf (bl seed) key) (k + 1)) = ols (Wt.pubs fh (sf (bl seed) key) k) ++ [y] by rw [ols_pubs, hy]; rfl)
        rw [← hy]
        clear hy
        have HBN := Lib.hid (Blk.new w2 9 #[.string y])
        have HOA := Lib.hid (own_alloc HO2.out (.cells #[.string y] 9))
        have HBA := Lib.hid (HB2.out.alloc HB2.out.size (.cells #[.string y] 9))
        have HSL := Lib.hid (show Sl (w2.alloc (.cells #[.string y] 9)) 1 (some ⟨w2.heap.size, 0, none⟩) 1 1 (sv [y]) from Blk.sl (n := 1) (size := 1) HBN.out rfl (by unfold maxLen; omega))
        go_wp2_with (at_builtin; refine wpl_append_sl _ rfl _ _ _ rfl w.heap.size 9 i0 (.string ⟨#[]⟩) 1 16 Tryd.underlying42 hi' hz0 hz1 hz2 rfl (by decide) _ (1 + k) (sv (bPublic :: ols (Wt.pubs fh (sf (bl seed) key) k))) rfl HOA.out (some ⟨w2.heap.size, 0, none⟩) 1 1 (sv [y]) rfl HSL.out (sv_one _) (by unfold maxLen; omega) (by omega) HBA.out.size ?_; intro v' w8 hown hgrow _)
        have HO9 := Lib.hid (show w8.ownsRow w.heap.size 9 1 v' (1 + (k + 1)) (sv (bPublic :: ols (Wt.pubs fh (sf (bl seed) key) (k + 1)))) by rw [HPS.out, show bPublic :: (ols (Wt.pubs fh (sf (bl seed) key) k) ++ [y]) = (bPublic :: ols (Wt.pubs fh (sf (bl seed) key) k)) ++ [y] from rfl, sv_app]; exact hown)
        have HB9 := Lib.hid (show Below w.heap.size w w8 from HBA.out.grown hgrow HBA.out.size (fun j e => (HOA.out.lt j e).1))
        clear hown hgrow
        go_wp2_with fail
        go_roundw
        case rel => exact ⟨k + 1, by omega, by go_num, HO9, HB9⟩
        case measure => simp [intOf]; omega
      · have HK := Lib.hid (show k = 35 by omega)
        obtain ⟨A, c, rfl, hsl, _⟩ := own_form HO.out
        have HSL := Lib.hid (show Stl wr A (1 + k) c (bPublic :: ols (Wt.pubs fh (sf (bl seed) key) k)) from hsl)
        clear hsl
        go_wp2_with fail
        refine (pubH_f wr A (1 + k) c _ HSL.out (by omega) (pubs_mem k)).mono ?_
        rintro e w2 ⟨rfl, hb2⟩
        have HB2 := Lib.hid (HB.out.trans (hb2.mono HB.out.size))
        clear hb2
        rw [bls_ols, HK.out]
        go_wp2_with fail
        go_ret
        exact ⟨rfl, HB2.out⟩

set_option maxRecDepth 100000 in
set_option maxHeartbeats 2000000 in
theorem rrec_f (w : World) (msg : ByteArray) (hm : msg.size ≤ 900000) (sig : ByteArray) (hsg : sig.size ≤ 9223372036854775807) :
    Calls Tryd.prog 16 #[.string msg, .string sig] w fun e w' => e = .returned (.tuple #[.string (ofL (recP (bl msg) (bl sig))), .int .i64 (recE (bl sig))]) ∧ Below w.heap.size w w' := by
  obtain ⟨i0, hi', hz0, hz1, hz2⟩ := info_parts info_str
  by_cases hsz : sig.size = 560
  · have HE := Lib.hid (show recP (bl msg) (bl sig) = pubH (Wt.ends fh (bl sig) (mdig (bl msg)) 35) from if_pos (by rw [bl_len]; exact hsz))
    have HE2 := Lib.hid (show recE (bl sig) = 0 from if_pos (by rw [bl_len]; exact hsz))
    rw [HE.out, HE2.out]
    go_enter Tryd.func16, Tryd.ntmps16
    go_wp2_with fail
    have HO0 := Lib.hid (show (w.alloc (.cells #[.string ⟨#[112, 117, 98, 108, 105, 99]⟩] 9)).ownsRow w.heap.size 9 1 (.slice (some ⟨w.heap.size, 0, none⟩) 1 1) 1 (sv (bPublic :: ols (Wt.ends fh (bl sig) (mdig (bl msg)) 0))) from Blk.own (n := 1) (size := 1) (Blk.new w 9 _) (Nat.le_refl _) rfl (by unfold maxLen; omega))
    have HB0 := Lib.hid ((Below.refl w.heap.size w).alloc (Nat.le_refl _) (.cells #[.string ⟨#[112, 117, 98, 108, 105, 99]⟩] 9))
    obtain ⟨w0, hw0⟩ : ∃ w1, w1 = w.alloc (.cells #[.string ⟨#[112, 117, 98, 108, 105, 99]⟩] 9) := ⟨_, rfl⟩
    rw [← hw0] at HO0 HB0 ⊢
    clear hw0
    refine (rdigs_f w0 msg hm).mono ?_
    rintro e w1 ⟨v, rfl, hown, hb1⟩
    have HO := Lib.hid (own_below HO0.out hb1)
    have HB1 := Lib.hid (HB0.out.trans (hb1.mono HB0.out.size))
    obtain ⟨A, c, rfl, hsl, hab⟩ := own_form hown
    rw [mdig_len] at hsl hown
    rw [mdig_len]
    obtain ⟨gd, capd, e1, hgd1, hgd2⟩ := hown.form (by omega)
    injection e1 with e1 _ _
    subst e1
    have HD := Lib.hid hsl
    have HGD := Lib.hid hgd2
    have HNE := Lib.hid (show (Value.slice (some ⟨w.heap.size, 0, none⟩) 1 1).ownBlock ≠ some gd by
      have h1 := (HO0.out.lt w.heap.size rfl).2
      intro e
      have e2 : w.heap.size = gd := by injection e
      omega)
    have hc9 : c ≤ 9223372036854775807 := hsl.2.1
    have hc8 : 35 ≤ c := hsl.1
    clear hown hb1 hsl hab hgd1 hgd2
    go_wp2_with fail
    go_loopw [6, 16] (fun y x W => ∃ k : Nat, k ≤ 35 ∧ x = .int .i64 (k : Int) ∧ Hid (W.ownsRow w.heap.size 9 1 y (1 + k) (sv (bPublic :: ols (Wt.ends fh (bl sig) (mdig (bl msg)) k)))) ∧ Hid (y.ownBlock ≠ some gd) ∧ Hid (Sl W 1 (some ⟨gd, 0, none⟩) 35 c (dv (mdig (bl msg)))) ∧ Hid (gd < W.heap.size) ∧ Hid (Below w.heap.size w W)) (fun _ x _ => 35 - (intOf x).toNat)
    case atStart => exact ⟨0, by omega, rfl, HO, HNE, HD, HGD, HB1⟩
    case round =>
      obtain ⟨k, hk, rfl, HO, HNE, HD, HGD, HB⟩ := hrel
      by_cases hk35 : k < 35
      · obtain ⟨ad, e1, _, hc⟩ := dv_at HD.out (k := k) (by rw [mdig_len]; exact hk35)
        injection e1 with e1
        subst e1
        rw [add_own] at hc
        have hd15 := mdig_le (bl msg) k
        obtain ⟨d, hd⟩ : ∃ d, d = (mdig (bl msg)).getD k 0 := ⟨_, rfl⟩
        rw [← hd] at hc hd15
        obtain ⟨e15, he15⟩ : ∃ e, e = 15 - d := ⟨_, rfl⟩
        obtain ⟨m, hm1⟩ : ∃ m, m = 16 * k := ⟨_, rfl⟩
        obtain ⟨m2, hm2⟩ : ∃ m, m = 16 * k + 16 := ⟨_, rfl⟩
        have q1 : (15 : Int) - (d : Int) = (e15 : Int) := by omega
        have q2 : 16 * (k : Int) = (m : Int) := by omega
        have q3 : (m : Int) + 16 = (m2 : Int) := by omega
        have l1 : (m : Int) ≤ (m2 : Int) := by omega
        have l2 : (m2 : Int) ≤ 560 := by omega
        have l3 : (m2 : Int) ≤ (sig.size : Int) := by omega
        obtain ⟨p, hp⟩ : ∃ p, sig.extract m m2 = p := ⟨_, rfl⟩
        have HPL := Lib.hid (show bl p = Wt.piece (bl sig) k by rw [← hp, bl_cut, hm1, hm2, show 16 * k + 16 - 16 * k = 16 by omega]; rfl)
        have HPZ := Lib.hid (show p.size ≤ 900000 by rw [← bl_len, HPL.out, piece_size (by rw [bl_len, hsz]; omega)]; omega)
        have HES := Lib.hid (show ols (Wt.ends fh (bl sig) (mdig (bl msg)) (k + 1)) = ols (Wt.ends fh (bl sig) (mdig (bl msg)) k) ++ [ofL (Wt.chain fh (bl p) e15)] by rw [ols_ends, HPL.out, he15, hd])
        have HE15 := Lib.hid (show e15 ≤ 1000 by omega)
        clear hd he15 hm1 hm2
        go_wp2_with fail
        refine (rsteps_f wr p HPZ.out e15 HE15.out).mono ?_
        rintro e w2 ⟨rfl, hb2⟩
        have HO2 := Lib.hid (own_below HO.out hb2)
        have HB2 := Lib.hid (HB.out.trans (hb2.mono HB.out.size))
        have HD2 := Lib.hid (Sl.below HD.out hb2)
        have HGD2 := Lib.hid (Nat.lt_of_lt_of_le HGD.out hb2.size)
        clear hb2
        obtain ⟨y, hy⟩ : ∃ y, y = ofL (Wt.chain fh (bl p) e15) := ⟨_, rfl⟩
        rw [← hy] at HES ⊢
        clear hy
        have HBN := Lib.hid (Blk.new w2 9 #[.string y])
        have HOA := Lib.hid (own_alloc HO2.out (.cells #[.string y] 9))
        have HDA := Lib.hid (Sl.alloc HD2.out (.cells #[.string y] 9))
        have HBA := Lib.hid (HB2.out.alloc HB2.out.size (.cells #[.string y] 9))
        have HGA := Lib.hid (show gd < (w2.alloc (.cells #[.string y] 9)).heap.size by have := HGD2.out; rw [asz]; omega)
        have HSL := Lib.hid (show Sl (w2.alloc (.cells #[.string y] 9)) 1 (some ⟨w2.heap.size, 0, none⟩) 1 1 (sv [y]) from Blk.sl (n := 1) (size := 1) HBN.out rfl (by unfold maxLen; omega))
        go_wp2_with (at_builtin; refine wpl_append_sl _ rfl _ _ _ rfl w.heap.size 9 i0 (.string ⟨#[]⟩) 1 16 Tryd.underlying42 hi' hz0 hz1 hz2 rfl (by decide) _ (1 + k) (sv (bPublic :: ols (Wt.ends fh (bl sig) (mdig (bl msg)) k))) rfl HOA.out (some ⟨w2.heap.size, 0, none⟩) 1 1 (sv [y]) rfl HSL.out (sv_one _) (by unfold maxLen; omega) (by omega) HBA.out.size ?_; intro v' w8 hown hgrow hob)
        have HO9 := Lib.hid (show w8.ownsRow w.heap.size 9 1 v' (1 + (k + 1)) (sv (bPublic :: ols (Wt.ends fh (bl sig) (mdig (bl msg)) (k + 1)))) by rw [HES.out, show bPublic :: (ols (Wt.ends fh (bl sig) (mdig (bl msg)) k) ++ [y]) = (bPublic :: ols (Wt.ends fh (bl sig) (mdig (bl msg)) k)) ++ [y] from rfl, sv_app]; exact hown)
        have HB9 := Lib.hid (show Below w.heap.size w w8 from HBA.out.grown hgrow HBA.out.size (fun j e => (HOA.out.lt j e).1))
        have HD9 := Lib.hid (show Sl w8 1 (some ⟨gd, 0, none⟩) 35 c (dv (mdig (bl msg))) from Sl.grown HDA.out hgrow (fun ad g e1 e2 => by
          injection e1 with e1
          subst e1
          intro e3
          exact HNE.out (e2.trans (congrArg some e3.symm))))
        have HNE9 := Lib.hid (show v'.ownBlock ≠ some gd by
          rcases hob with h1 | h1
          · intro e
            exact HNE.out (h1.symm.trans e)
          · rw [h1]
            intro e
            injection e with e
            have := HGA.out
            omega)
        have HGD9 := Lib.hid (Nat.lt_of_lt_of_le HGA.out hgrow.size)
        clear hown hgrow hob
        go_wp2_with fail
        go_roundw
        case rel => exact ⟨k + 1, by omega, by go_num, HO9, HNE9, HD9, HGD9, HB9⟩
        case measure => simp [intOf]; omega
      · have HK := Lib.hid (show k = 35 by omega)
        obtain ⟨A2, c2, rfl, hsl2, _⟩ := own_form HO.out
        have HSL := Lib.hid (show Stl wr A2 (1 + k) c2 (bPublic :: ols (Wt.ends fh (bl sig) (mdig (bl msg)) k)) from hsl2)
        have HSG := Lib.hid (show (bl sig).length = 560 by rw [bl_len]; exact hsz)
        clear hsl2
        go_wp2_with fail
        refine (pubH_f wr A2 (1 + k) c2 _ HSL.out (by omega) (ends_mem HSG.out k hk)).mono ?_
        rintro e w2 ⟨rfl, hb2⟩
        have HB2 := Lib.hid (HB.out.trans (hb2.mono HB.out.size))
        clear hb2
        rw [bls_ols, HK.out]
        go_wp2_with fail
        go_ret2
        exact ⟨rfl, HB2.out⟩
  · have HE := Lib.hid (show recP (bl msg) (bl sig) = [] from if_neg (by rw [bl_len]; exact hsz))
    have HE2 := Lib.hid (show recE (bl sig) = 4 from if_neg (by rw [bl_len]; exact hsz))
    rw [HE.out, HE2.out]
    have hszI : ¬ (sig.size : Int) = 560 := by omega
    go_enter Tryd.func16, Tryd.ntmps16
    go_wp2_with fail
    go_ret2
    exact ⟨rfl, Below.refl _ _⟩

set_option maxRecDepth 100000 in
set_option maxHeartbeats 2000000 in
theorem rsign_f (w : World) (seed : ByteArray) (hs : seed.size ≤ 900000) (key : Int) (hk0 : -9223372036854775808 ≤ key) (hk1 : key ≤ 9223372036854775807) (msg : ByteArray) (hm : msg.size ≤ 900000) :
    Calls Tryd.prog 14 #[.string seed, .int .i64 key, .string msg] w fun e w' => e = .returned (.string (ofL (sigK (bl seed) key (bl msg)))) ∧ Below w.heap.size w w' := by
  by_cases hneg : key < 0
  · have HE := Lib.hid (show sigK (bl seed) key (bl msg) = [] from if_pos hneg)
    rw [HE.out]
    go_enter Tryd.func14, Tryd.ntmps14
    go_wp2_with fail
    go_ret
    exact ⟨rfl, Below.refl _ _⟩
  · have HE := Lib.hid (show sigK (bl seed) key (bl msg) = Wt.sgn fh (sf (bl seed) key) (mdig (bl msg)) 35 from if_neg hneg)
    rw [HE.out]
    go_enter Tryd.func14, Tryd.ntmps14
    go_wp2_with fail
    refine (rdigs_f w msg hm).mono ?_
    rintro e w1 ⟨v, rfl, hown, hb1⟩
    have HB1 := Lib.hid hb1
    obtain ⟨A, c, rfl, hsl, hab⟩ := own_form hown
    rw [mdig_len] at hsl
    rw [mdig_len]
    have HD := Lib.hid hsl
    have hc9 : c ≤ 9223372036854775807 := hsl.2.1
    have hc8 : 35 ≤ c := hsl.1
    clear hown hb1 hsl hab
    go_wp2_with fail
    go_loopw [7, 15] (fun y x W => ∃ k : Nat, k ≤ 35 ∧ x = .int .i64 (k : Int) ∧ y = .string (ofL (Wt.sgn fh (sf (bl seed) key) (mdig (bl msg)) k)) ∧ Hid (Sl W 1 A 35 c (dv (mdig (bl msg)))) ∧ Hid (Below w.heap.size w W)) (fun _ x _ => 35 - (intOf x).toNat)
    case atStart => exact ⟨0, by omega, rfl, rfl, HD, HB1⟩
    case round =>
      obtain ⟨k, hk, rfl, rfl, HD, HB⟩ := hrel
      by_cases hk35 : k < 35
      · obtain ⟨ad, rfl, _, hc⟩ := dv_at HD.out (k := k) (by rw [mdig_len]; exact hk35)
        have hd15 := mdig_le (bl msg) k
        have hsgz : (ofL (Wt.sgn fh (sf (bl seed) key) (mdig (bl msg)) k)).size ≤ 560 := by rw [ofL_size, sgn_size]; omega
        have HSG := Lib.hid (show Wt.sgn fh (sf (bl seed) key) (mdig (bl msg)) (k + 1) = Wt.sgn fh (sf (bl seed) key) (mdig (bl msg)) k ++ Wt.chain fh (sf (bl seed) key k) ((mdig (bl msg)).getD k 0) from rfl)
        obtain ⟨d, hd⟩ : ∃ d, d = (mdig (bl msg)).getD k 0 := ⟨_, rfl⟩
        rw [← hd] at hc hd15 HSG
        have HD15 := Lib.hid hd15
        have HA := Lib.hid (ofL_append (Wt.sgn fh (sf (bl seed) key) (mdig (bl msg)) k) (Wt.chain fh (sf (bl seed) key k) d))
        rw [← HSG.out] at HA
        have hcz : (ofL (Wt.chain fh (sf (bl seed) key k) d)).size ≤ 16 := by rw [ofL_size, Wt.chain_len fh_len (sf_len _ _ _)]; omega
        obtain ⟨a, ha⟩ : ∃ a, a = ofL (Wt.sgn fh (sf (bl seed) key) (mdig (bl msg)) k) := ⟨_, rfl⟩
        rw [← ha] at hsgz HA ⊢
        clear hd ha
        go_wp2_with fail
        refine (rsecret_f wr seed hs key (k : Int) hk0 hk1 (by omega) (by omega)).mono ?_
        rintro e w3 ⟨rfl, hb3⟩
        have HD3 := Lib.hid (Sl.below HD.out hb3)
        have HB3 := Lib.hid (HB.out.trans (hb3.mono HB.out.size))
        clear hb3 hc
        go_wp2_with fail
        refine (rsteps_f w3 (ofL (sec (bl seed) key (k : Int))) (by rw [ofL_size, sec_len]; omega) d (by have := HD15.out; omega)).mono ?_
        rintro e w4 ⟨rfl, hb4⟩
        have HD4 := Lib.hid (Sl.below HD3.out hb4)
        have HB4 := Lib.hid (HB3.out.trans (hb4.mono HB3.out.size))
        clear hb4 HD3 HB3
        rw [bl_ofL, show Wt.chain fh (sec (bl seed) key (k : Int)) d = Wt.chain fh (sf (bl seed) key k) d from rfl]
        obtain ⟨b, hb⟩ : ∃ b, b = ofL (Wt.chain fh (sf (bl seed) key k) d) := ⟨_, rfl⟩
        rw [← hb] at hcz HA ⊢
        clear hb
        have g1 : ¬ 9223372036854775807 < a.size + b.size := by omega
        go_wp2_with fail
        go_roundw
        case rel => exact ⟨k + 1, by omega, by go_num, by rw [HA.out], HD4, HB4⟩
        case measure => simp [intOf]; omega
      · have HK := Lib.hid (show k = 35 by omega)
        rw [HK.out]
        go_wp2_with fail
        go_ret
        exact ⟨rfl, HB.out⟩

end Bk
end Go.Proofs.YtlfpppffjedngaaDoor
