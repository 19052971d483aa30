/- wots: Recover and Sign; the program's. -/
import Derived.Test.YtlfpppffjedngaaDoorBm
namespace Go.Proofs.YtlfpppffjedngaaDoor
open Go.RowKit
set_option linter.unusedVariables false
namespace Bk

theorem mdig_le (msg : List UInt8) (i : Nat) : (mdig msg).getD i 0 ≤ 15 := Wt.digs_get_le (H_len _) i
theorem dv_at {w : World} {A : Option Addr} {n c : Nat} {l : List Nat} (h : Sl w 1 A n c (dv l)) {k : Nat} (hk : k < l.length) : ∃ ad, A = some ad ∧ ad.block < w.heap.size ∧ w.cell? (ad.add k) = some (.int .i64 (l.getD k 0 : Int)) := by
  have hn : n = l.length := by have := h.2.2.1; simp [dv] at this; omega
  obtain ⟨ad, u, e, hb, hx, hc⟩ := Sl.at_ h (by rw [hn]; exact hk)
  refine ⟨ad, e, hb, ?_⟩
  rw [hc]
  unfold dv at hx
  rw [List.getElem?_map, List.getElem?_eq_getElem hk] at hx
  rw [← hx, List.getD_eq_getElem?_getD, List.getElem?_eq_getElem hk]
  rfl
theorem piece_size {s : List UInt8} {i : Nat} (h : 16 * i + 16 ≤ s.length) : (Wt.piece s i).length = 16 := by
  unfold Wt.piece
  rw [List.length_take, List.length_drop]; omega
theorem ols_ends (s : List UInt8) (d : List Nat) (k : Nat) : ols (Wt.ends fh s d (k + 1)) = ols (Wt.ends fh s d k) ++ [ofL (Wt.chain fh (Wt.piece s k) (15 - d.getD k 0))] := by
  unfold ols
  rw [show Wt.ends fh s d (k + 1) = Wt.ends fh s d k ++ [Wt.chain fh (Wt.piece s k) (15 - d.getD k 0)] from rfl, List.map_append]; rfl
theorem ends_mem {s : List UInt8} {d : List Nat} (hs : s.length = 560) : ∀ (k : Nat), k ≤ 35 → ∀ x ∈ ols (Wt.ends fh s d k), x.size ≤ 1000
  | 0, _, x, hx => by cases hx
  | k + 1, hk, x, hx => by
    rw [ols_ends] at hx
    rcases List.mem_append.1 hx with h | h
    · exact ends_mem hs k (by omega) x h
    · rw [List.mem_singleton] at h
      rw [h, ofL_size, Wt.chain_len fh_len (piece_size (by omega))]; omega

set_option maxRecDepth 100000 in
set_option maxHeartbeats 2000000 in
theorem rec_f (w : World) (ht : Tab w) (msg : ByteArray) (hm : msg.size ≤ 900000) (sig : ByteArray) (hsg : sig.size ≤ 9223372036854775807) :
    Calls Tryd.prog 15 #[.string msg, .string sig] w fun e w' => e = .returned (.tuple #[.string (ofL (recP (bl msg) (bl sig))), .int .i64 (recE (bl sig))]) ∧ Below w.heap.size w w' := by
  have HT := Lib.hid ht
  obtain ⟨i0, hi', hz0, hz1, hz2⟩ := info_parts info_str
  clear ht
  by_cases hsz : sig.size = 560
  · have HE := Lib.hid (show recP (bl msg) (bl sig) = pubH (Wt.ends fh (bl sig) (mdig (bl msg)) 35) from if_pos (by rw [bl_len]; exact hsz))
    have HE2 := Lib.hid (show recE (bl sig) = 0 from if_pos (by rw [bl_len]; exact hsz))
    rw [HE.out, HE2.out]
    go_enter Tryd.func15, Tryd.ntmps15
    go_wp2_with fail
    refine (digits_f w HT.out msg hm).mono ?_
    rintro e w1 ⟨v, rfl, hown, hb1⟩
    have HB1 := Lib.hid hb1
    obtain ⟨A, c, rfl, hsl, hab⟩ := own_form hown
    rw [mdig_len] at hsl
    rw [mdig_len]
    have HD := Lib.hid hsl
    have hc9 : c ≤ 9223372036854775807 := hsl.2.1
    have hc8 : 35 ≤ c := hsl.1
    clear hown hb1 hsl
    go_wp2_with fail
    have HO := Lib.hid (World.ownsRow_nil w1 w1.heap.size 9 1)
    go_loopw [15, 6] (fun x y W => ∃ k : Nat, k ≤ 35 ∧ x = .int .i64 (k : Int) ∧ Hid (W.ownsRow w1.heap.size 9 1 y k (sv (ols (Wt.ends fh (bl sig) (mdig (bl msg)) k)))) ∧ Hid (Below w1.heap.size w1 W)) (fun x _ _ => 35 - (intOf x).toNat)
    case atStart => exact ⟨0, by omega, rfl, HO, Lib.hid (Below.refl _ _)⟩
    case round =>
      obtain ⟨k, hk, rfl, HO, HB⟩ := hrel
      by_cases hk35 : k < 35
      · obtain ⟨ad, rfl, _, hc⟩ := dv_at (Sl.below HD.out HB.out) (k := k) (by rw [mdig_len]; exact hk35)
        have hd15 := mdig_le (bl msg) k
        obtain ⟨d, hd⟩ : ∃ d, d = (mdig (bl msg)).getD k 0 := ⟨_, rfl⟩
        rw [← hd] at hc hd15
        obtain ⟨e15, he15⟩ : ∃ e, e = 15 - d := ⟨_, rfl⟩
        obtain ⟨m, hm1⟩ : ∃ m, m = 16 * k := ⟨_, rfl⟩
        obtain ⟨m2, hm2⟩ : ∃ m, m = 16 * k + 16 := ⟨_, rfl⟩
        have q1 : (15 : Int) - (d : Int) = (e15 : Int) := by omega
        have q2 : (k : Int) * 16 = (m : Int) := by omega
        have q3 : ((k : Int) + 1) * 16 = (m2 : Int) := by omega
        have l1 : (m : Int) ≤ (m2 : Int) := by omega
        have l2 : (m2 : Int) ≤ 560 := by omega
        have l3 : (m2 : Int) ≤ (sig.size : Int) := by omega
        obtain ⟨p, hp⟩ : ∃ p, sig.extract m m2 = p := ⟨_, rfl⟩
        have HPL := Lib.hid (show bl p = Wt.piece (bl sig) k by rw [← hp, bl_cut, hm1, hm2, show 16 * k + 16 - 16 * k = 16 by omega]; rfl)
        have HPZ := Lib.hid (show p.size ≤ 900000 by rw [← bl_len, HPL.out, piece_size (by rw [bl_len, hsz]; omega)]; omega)
        have HES := Lib.hid (show ols (Wt.ends fh (bl sig) (mdig (bl msg)) (k + 1)) = ols (Wt.ends fh (bl sig) (mdig (bl msg)) k) ++ [ofL (Wt.chain fh (bl p) e15)] by rw [ols_ends, HPL.out, he15, hd])
        have HE15 := Lib.hid (show e15 ≤ 1000 by omega)
        clear hd he15 hm1 hm2
        go_wp2_with fail
        refine (walk_f wr (HT.out.bel (HB1.out.trans (HB.out.mono HB1.out.size))) p HPZ.out e15 HE15.out).mono ?_
        rintro e w2 ⟨rfl, hb2⟩
        have HO2 := Lib.hid (own_below HO.out hb2)
        have HB2 := Lib.hid (HB.out.trans (hb2.mono HB.out.size))
        clear hb2
        obtain ⟨y, hy⟩ : ∃ y, y = ofL (Wt.chain fh (bl p) e15) := ⟨_, rfl⟩
        rw [← hy] at HES ⊢
        clear hy
        have HBN := Lib.hid (Blk.new w2 9 #[.string y])
        have HOA := Lib.hid (own_alloc HO2.out (.cells #[.string y] 9))
        have HBA := Lib.hid (HB2.out.alloc HB2.out.size (.cells #[.string y] 9))
        have HSL := Lib.hid (show Sl (w2.alloc (.cells #[.string y] 9)) 1 (some ⟨w2.heap.size, 0, none⟩) 1 1 (sv [y]) from Blk.sl (n := 1) (size := 1) HBN.out rfl (by unfold maxLen; omega))
        go_wp2_with (at_builtin; refine wpl_append_sl _ rfl _ _ _ rfl w1.heap.size 9 i0 (.string ⟨#[]⟩) 1 16 Tryd.underlying42 hi' hz0 hz1 hz2 rfl (by decide) _ k (sv (ols (Wt.ends fh (bl sig) (mdig (bl msg)) k))) rfl HOA.out (some ⟨w2.heap.size, 0, none⟩) 1 1 (sv [y]) rfl HSL.out (sv_one _) (by unfold maxLen; omega) (by omega) HBA.out.size ?_; intro v' w8 hown hgrow _)
        have HO9 := Lib.hid (show w8.ownsRow w1.heap.size 9 1 v' (k + 1) (sv (ols (Wt.ends fh (bl sig) (mdig (bl msg)) (k + 1)))) by rw [HES.out, sv_app]; exact hown)
        have HB9 := Lib.hid (show Below w1.heap.size w1 w8 from HBA.out.grown hgrow HBA.out.size (fun j e => (HOA.out.lt j e).1))
        clear hown hgrow
        go_wp2_with fail
        go_roundw
        case rel => exact ⟨k + 1, by omega, by go_num, HO9, HB9⟩
        case measure => simp [intOf]; omega
      · have HK := Lib.hid (show k = 35 by omega)
        obtain ⟨A2, c2, rfl, hsl2, _⟩ := own_form HO.out
        have HSL := Lib.hid (show Stl wr A2 k c2 (ols (Wt.ends fh (bl sig) (mdig (bl msg)) k)) from hsl2)
        have HSG := Lib.hid (show (bl sig).length = 560 by rw [bl_len]; exact hsz)
        clear hsl2
        go_wp2_with fail
        refine (public_f wr (HT.out.bel (HB1.out.trans (HB.out.mono HB1.out.size))) A2 k c2 _ HSL.out (by omega) (ends_mem HSG.out k hk)).mono ?_
        rintro e w2 ⟨rfl, hb2⟩
        have HB2 := Lib.hid (HB1.out.trans ((HB.out.trans (hb2.mono HB.out.size)).mono HB1.out.size))
        clear hb2
        rw [bls_ols, HK.out]
        go_wp2_with fail
        go_ret2
        exact ⟨rfl, HB2.out⟩
  · have HE := Lib.hid (show recP (bl msg) (bl sig) = [] from if_neg (by rw [bl_len]; exact hsz))
    have HE2 := Lib.hid (show recE (bl sig) = 4 from if_neg (by rw [bl_len]; exact hsz))
    rw [HE.out, HE2.out]
    have hszI : ¬ (sig.size : Int) = 560 := by omega
    go_enter Tryd.func15, Tryd.ntmps15
    go_wp2_with fail
    go_ret2
    exact ⟨rfl, Below.refl _ _⟩

theorem sgn_size (seed : List UInt8) (key : Int) (d : List Nat) (k : Nat) : (Wt.sgn fh (sf seed key) d k).length = 16 * k := Wt.sgn_len fh_len (sf_len _ _) k
set_option maxRecDepth 100000 in
set_option maxHeartbeats 2000000 in
theorem sign_f (w : World) (ht : Tab w) (seed : ByteArray) (hs : seed.size ≤ 900000) (key : Int) (hk0 : -9223372036854775808 ≤ key) (hk1 : key ≤ 9223372036854775807) (msg : ByteArray) (hm : msg.size ≤ 900000) :
    Calls Tryd.prog 13 #[.string seed, .int .i64 key, .string msg] w fun e w' => e = .returned (.string (ofL (sigK (bl seed) key (bl msg)))) ∧ Below w.heap.size w w' := by
  have HT := Lib.hid ht
  clear ht
  by_cases hneg : key < 0
  · have HE := Lib.hid (show sigK (bl seed) key (bl msg) = [] from if_pos hneg)
    rw [HE.out]
    go_enter Tryd.func13, Tryd.ntmps13
    go_wp2_with fail
    go_ret
    exact ⟨rfl, Below.refl _ _⟩
  · have HE := Lib.hid (show sigK (bl seed) key (bl msg) = Wt.sgn fh (sf (bl seed) key) (mdig (bl msg)) 35 from if_neg hneg)
    rw [HE.out]
    go_enter Tryd.func13, Tryd.ntmps13
    go_wp2_with fail
    have HBD := Lib.hid (Bld.new w (Nat.le_refl w.heap.size))
    have HBW := Lib.hid ((Below.refl w.heap.size w).alloc (Nat.le_refl _) (.cells #[.pointer none, .slice none 0 0] 47))
    have HLT := Lib.hid (show w.heap.size < (w.alloc (.cells #[.pointer none, .slice none 0 0] 47)).heap.size by rw [asz]; omega)
    obtain ⟨b, hb⟩ : ∃ b, b = w.heap.size := ⟨_, rfl⟩
    rw [← hb] at HBD HLT
    have HBQ := Lib.hid hb
    rw [← hb]
    clear hb
    obtain ⟨w1, hw1⟩ : ∃ w1, w1 = w.alloc (.cells #[.pointer none, .slice none 0 0] 47) := ⟨_, rfl⟩
    rw [← hw1] at HBD HBW HLT
    rw [← hw1]
    clear hw1
    refine (digits_f w1 (HT.out.bel HBW.out) msg hm).mono ?_
    rintro e w2 ⟨v, rfl, hown, hb2⟩
    have HBD2 := Lib.hid (HBD.out.below hb2)
    have HBW2 := Lib.hid (HBW.out.trans (hb2.mono HBW.out.size))
    rw [mdig_len] at hown
    have HO := Lib.hid (own_mono hown (show b + 1 ≤ w1.heap.size from HLT.out))
    obtain ⟨A, c, rfl, hsl, hab⟩ := own_form hown
    have hc9 : c ≤ 9223372036854775807 := hsl.2.1
    have hc8 : 35 ≤ c := hsl.1
    have HC8 := Lib.hid hsl.1
    have HC9 := Lib.hid hsl.2.1
    clear hown hb2 hsl hab
    go_wp2_with fail
    go_loopw [15] (fun x W => ∃ k : Nat, k ≤ 35 ∧ x = .int .i64 (k : Int) ∧ Hid (Bld W b b (Wt.sgn fh (sf (bl seed) key) (mdig (bl msg)) k)) ∧ Hid (W.ownsRow (b + 1) 3 1 (.slice A 35 c) 35 (dv (mdig (bl msg)))) ∧ Hid (Below w.heap.size w W)) (fun x _ => 35 - (intOf x).toNat)
    case atStart => exact ⟨0, by omega, rfl, HBD2, HO, HBW2⟩
    case round =>
      obtain ⟨k, hk, rfl, HBD, HO, HB⟩ := hrel
      clear HBD2 HBW2
      by_cases hk35 : k < 35
      · obtain ⟨ad, e1, _, hc⟩ := dv_at (Sl.own HO.out ⟨HC8.out, HC9.out⟩) (k := k) (by rw [mdig_len]; exact hk35)
        subst e1
        have hd15 := mdig_le (bl msg) k
        have HSG := Lib.hid (show Wt.sgn fh (sf (bl seed) key) (mdig (bl msg)) (k + 1) = Wt.sgn fh (sf (bl seed) key) (mdig (bl msg)) k ++ Wt.chain fh (sf (bl seed) key k) ((mdig (bl msg)).getD k 0) from rfl)
        obtain ⟨d, hd⟩ : ∃ d, d = (mdig (bl msg)).getD k 0 := ⟨_, rfl⟩
        rw [← hd] at hc hd15 HSG
        have HD15 := Lib.hid hd15
        clear hd
        go_wp2_with fail
        refine (secret_f wr (HT.out.bel HB.out) seed hs key (k : Int) hk0 hk1 (by omega) (by omega)).mono ?_
        rintro e w3 ⟨rfl, hb3⟩
        have HO3 := Lib.hid (own_below HO.out hb3)
        have HBD3 := Lib.hid (HBD.out.below hb3)
        have HB3 := Lib.hid (HB.out.trans (hb3.mono HB.out.size))
        clear hb3 hc
        go_wp2_with fail
        refine (walk_f w3 (HT.out.bel HB3.out) (ofL (sec (bl seed) key (k : Int))) (by rw [ofL_size, sec_len]; omega) d (by have := HD15.out; omega)).mono ?_
        rintro e w4 ⟨rfl, hb4⟩
        have HO4 := Lib.hid (own_below HO3.out hb4)
        have HBD4 := Lib.hid (HBD3.out.below hb4)
        have HB4 := Lib.hid (HB3.out.trans (hb4.mono HB3.out.size))
        clear hb4 HO3 HBD3 HB3
        rw [bl_ofL]
        go_wp2_with fail
        refine (wstr HBD4.out (by rw [sgn_size]; omega) (Nat.le_of_lt HBD4.out.lt) (ofL (Wt.chain fh (sec (bl seed) key (k : Int)) d)) (by rw [ofL_size, Wt.chain_len fh_len (sec_len _ _ _)]; omega)).mono ?_
        rintro e w5 ⟨rfl, hbd, hbb, hkp⟩
        rw [bl_ofL] at hbd
        have HBD5 := Lib.hid (show Bld w5 b b (Wt.sgn fh (sf (bl seed) key) (mdig (bl msg)) (k + 1)) by rw [HSG.out]; exact hbd)
        have HO5 := Lib.hid (own_kept HO4.out hkp (Nat.lt_succ_self b))
        have HB5 := Lib.hid (HB4.out.trans (show Below w.heap.size w4 w5 from HBQ.out ▸ hbb))
        clear hbd hbb hkp
        go_wp2_with fail
        go_roundw
        case rel => exact ⟨k + 1, by omega, by go_num, HBD5, HO5, HB5⟩
        case measure => simp [intOf]; omega
      · have HK := Lib.hid (show k = 35 by omega)
        rw [HK.out] at HBD
        go_wp2_with fail
        refine (bstring HBD.out (Nat.le_of_lt HBD.out.lt)).mono ?_
        rintro e w5 ⟨rfl, _, hbb, _⟩
        have HB5 := Lib.hid (HB.out.trans (show Below w.heap.size wr w5 from HBQ.out ▸ hbb))
        clear hbb
        go_wp2_with fail
        go_ret
        exact ⟨rfl, HB5.out⟩

end Bk
end Go.Proofs.YtlfpppffjedngaaDoor
