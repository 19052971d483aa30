/- wots of the reference: Digits. -/
import Derived.Test.YtlfpppffjedngaaDoorCg
namespace Go.Proofs.YtlfpppffjedngaaDoor
open Go.RowKit
set_option linter.unusedVariables false
namespace Bk

set_option maxRecDepth 100000 in
set_option maxHeartbeats 2000000 in
theorem rdigs_f (w : World) (msg : ByteArray) (hm : msg.size ≤ 900000) :
    Calls Tryd.prog 19 #[.string msg] w (GivesD w (mdig (bl msg))) := by
  have HH := Lib.hid (rhash_f (w.alloc (.cells #[.string ⟨#[109, 101, 115, 115, 97, 103, 101]⟩, .string msg] 9)) (some ⟨w.heap.size, 0, none⟩) 2 2 [⟨#[109, 101, 115, 115, 97, 103, 101]⟩, msg]
    (Blk.sl (n := 2) (size := 1) (Blk.new w 9 _) rfl (by unfold maxLen; omega)) (fun s hs => by
      rcases List.mem_cons.1 hs with rfl | hs
      · decide
      · rw [List.mem_singleton] at hs; subst hs; omega) (by
      have t1 := tot_cons ⟨#[109, 101, 115, 115, 97, 103, 101]⟩ [msg] (by decide)
      have t2 := tot_cons msg [] (by omega)
      have t5 := tot_nil
      have t6 : (⟨#[109, 101, 115, 115, 97, 103, 101]⟩ : ByteArray).size = 7 := rfl
      omega))
  obtain ⟨h, hh⟩ : ∃ h, h = H [sMessage, bl msg] := ⟨_, rfl⟩
  have hhl : h.length = 16 := by rw [hh]; exact H_len _
  have HMD := Lib.hid (show mdig (bl msg) = Wt.nibs h ++ Wt.sums (Wt.nibs h) by unfold mdig; rw [← hh]; rfl)
  obtain ⟨hs, hhs⟩ : ∃ s, s = ofL h := ⟨_, rfl⟩
  rw [show ofL (H (bls [⟨#[109, 101, 115, 115, 97, 103, 101]⟩, msg])) = hs by rw [hhs, hh]; rfl] at HH
  have hsz : hs.size = 16 := by rw [hhs, ofL_size, hhl]
  have HSZ := Lib.hid hsz
  have hbl : hs.data.toList = h := by rw [hhs]; exact bl_ofL h
  have HBL := Lib.hid hbl
  obtain ⟨i0, hi', hz0, hz1, hz2⟩ := info_parts info_int
  clear hh hhs hsz hbl
  go_enter Tryd.func19, Tryd.ntmps19
  go_wp2_with fail
  refine HH.out.mono ?_
  rintro e w1 ⟨rfl, hb1⟩
  have HB1 := Lib.hid (((Below.refl w.heap.size w).alloc (Nat.le_refl _) (.cells #[.string ⟨#[109, 101, 115, 115, 97, 103, 101]⟩, .string msg] 9)).trans (hb1.mono (by simp)))
  clear hb1
  go_wp2_with fail
  have HO := Lib.hid (show (w1.alloc (.cells #[] 3)).ownsRow w.heap.size 3 1 (.slice (some ⟨w1.heap.size, 0, none⟩) 0 0) 0 [] from Blk.own (n := 0) (size := 1) (Blk.new w1 3 #[]) HB1.out.size rfl (by unfold maxLen; omega))
  have HB2 := Lib.hid (HB1.out.alloc HB1.out.size (.cells #[] 3))
  obtain ⟨w2, hw2⟩ : ∃ w2, w2 = w1.alloc (.cells #[] 3) := ⟨_, rfl⟩
  rw [← hw2] at HO HB2 ⊢
  clear hw2
  go_loopw [4, 5, 6] (fun y z x W => ∃ k : Nat, k ≤ 16 ∧ x = .int .i64 (k : Int) ∧ z = .int .i64 (Wt.chk (Wt.nibs (h.take k)) : Int) ∧ Hid (W.ownsRow w.heap.size 3 1 y (2 * k) (dv (Wt.nibs (h.take k)))) ∧ Hid (Below w.heap.size w W)) (fun _ _ x _ => 16 - (intOf x).toNat)
  case atStart => exact ⟨0, by omega, rfl, rfl, HO, HB2⟩
  case round =>
    obtain ⟨k, hk, rfl, rfl, HO, HB⟩ := hrel
    by_cases hk16 : k < 16
    · have hkh : k < h.length := by rw [hhl]; exact hk16
      have hks : k < hs.size := by rw [HSZ.out]; exact hk16
      have hcl : Wt.chk (Wt.nibs (h.take k)) ≤ 15 * (2 * k) := by
        have := Wt.chk_le (Wt.nibs (h.take k))
        rw [Wt.nibs_len, List.length_take, Nat.min_eq_left (by omega)] at this
        exact this
      have hgd : h[k] = hs[k] := by
        have hg := get_d hs hks
        rw [HBL.out, List.getD, List.getElem?_eq_getElem hkh] at hg
        exact hg
      obtain ⟨b8, hb8⟩ : ∃ b, b = hs[k] := ⟨_, rfl⟩
      have hb8' : hs[k] = b8 := hb8.symm
      obtain ⟨x, hx⟩ : ∃ x, x = b8.toNat := ⟨_, rfl⟩
      have hx256 : x < 256 := by rw [hx]; exact b8.toNat_lt
      have hx' : (b8.toNat : Int) = (x : Int) := by rw [hx]
      have q0 : IntKind.i64.wrap (x : Int) = (x : Int) := wrap64_id (by omega) (by omega)
      obtain ⟨a, ha⟩ : ∃ a, a = x / 16 := ⟨_, rfl⟩
      obtain ⟨b, hb⟩ : ∃ b, b = x % 16 := ⟨_, rfl⟩
      have q1 : (x : Int) / 16 = (a : Int) := by omega
      have q2 : (x : Int) % 16 = (b : Int) := by omega
      have q3 : (x : Int).tdiv 16 = (a : Int) := by rw [Int.tdiv_eq_ediv_of_nonneg (by omega)]; exact q1
      have q4 : (x : Int).tmod 16 = (b : Int) := by rw [Int.tmod_eq_emod_of_nonneg (by omega)]; exact q2
      have q5 : IntKind.i64.wrap (a : Int) = (a : Int) := wrap64_id (by omega) (by omega)
      have ha15 : a ≤ 15 := by omega
      have hb15 : b ≤ 15 := by omega
      have hkI : (k : Int) < 16 := by omega
      have HNT := Lib.hid (show Wt.nibs (h.take (k + 1)) = Wt.nibs (h.take k) ++ [a, b] by rw [nibs_take hkh, hgd, hb8', ← hx, ha, hb])
      obtain ⟨z, hz⟩ : ∃ z, z = Wt.chk (Wt.nibs (h.take k)) := ⟨_, rfl⟩
      have HZN := Lib.hid (show Wt.chk (Wt.nibs (h.take (k + 1))) = z + ((15 - a) + (15 - b)) by rw [HNT.out, chk_two, ← hz])
      rw [← hz] at hcl
      rw [← hz]
      clear hz ha hb hx hgd hb8 hkh hx256
      go_wp2_with fail
      go_quiet (fail)
      have HO3 := Lib.hid (show (wr.drewN nq).ownsRow w.heap.size 3 1 _ (2 * k) (dv (Wt.nibs (h.take k))) from HO.out)
      have HB3 := Lib.hid (below_drewN HB.out nq)
      clear HO HB q0 q1 q2 q3 q4 q5 hx' hb8'
      generalize wr.drewN nq = w3 at *
      have HBN := Lib.hid (Blk.new w3 3 #[.int .i64 (a : Int), .int .i64 (b : Int)])
      have HOA := Lib.hid (own_alloc HO3.out (.cells #[.int .i64 (a : Int), .int .i64 (b : Int)] 3))
      have HBA := Lib.hid (HB3.out.alloc HB3.out.size (.cells #[.int .i64 (a : Int), .int .i64 (b : Int)] 3))
      have HSL := Lib.hid (show Sl (w3.alloc (.cells #[.int .i64 (a : Int), .int .i64 (b : Int)] 3)) 1 (some ⟨w3.heap.size, 0, none⟩) 2 2 (dv [a, b]) from Blk.sl (n := 2) (size := 1) HBN.out rfl (by unfold maxLen; omega))
      go_wp2_with (at_builtin; refine wpl_append_sl _ rfl _ _ _ rfl w.heap.size 3 i0 (.int .i64 0) 1 8 Tryd.underlying30 hi' hz0 hz1 hz2 rfl (by decide) _ (2 * k) (dv (Wt.nibs (h.take k))) rfl HOA.out (some ⟨w3.heap.size, 0, none⟩) 2 2 (dv [a, b]) rfl HSL.out (dv_one _) (by unfold maxLen; omega) (by omega) HBA.out.size ?_; intro v' w8 hown hgrow _)
      have HO9 := Lib.hid (show w8.ownsRow w.heap.size 3 1 v' (2 * (k + 1)) (dv (Wt.nibs (h.take (k + 1)))) by rw [HNT.out, dv_app]; exact hown)
      have HB9 := Lib.hid (show Below w.heap.size w w8 from HBA.out.grown hgrow HBA.out.size (fun j e => (HOA.out.lt j e).1))
      clear hown hgrow
      go_wp2_with fail
      go_roundw
      case rel => exact ⟨k + 1, by omega, by go_num, by rw [HZN.out]; go_num, HO9, HB9⟩
      case measure => simp [intOf]; omega
    · have HK := Lib.hid (show k = 16 by omega)
      have HTK := Lib.hid (show h.take k = h from List.take_of_length_le (by omega))
      have hcl : Wt.chk (Wt.nibs (h.take k)) ≤ 480 := by
        have := Wt.chk_le (Wt.nibs h)
        rw [Wt.nibs_len, hhl] at this
        rw [HTK.out]; exact this
      obtain ⟨z, hz⟩ : ∃ z, z = Wt.chk (Wt.nibs (h.take k)) := ⟨_, rfl⟩
      rw [← hz] at hcl
      rw [← hz]
      obtain ⟨a, ha⟩ : ∃ a, a = z / 256 := ⟨_, rfl⟩
      obtain ⟨b0, hb0⟩ : ∃ b, b = z / 16 := ⟨_, rfl⟩
      obtain ⟨b, hb⟩ : ∃ b, b = b0 % 16 := ⟨_, rfl⟩
      obtain ⟨c, hc⟩ : ∃ b, b = z % 16 := ⟨_, rfl⟩
      have q1 : (z : Int) / 256 = (a : Int) := by omega
      have q2 : (z : Int) / 16 = (b0 : Int) := by omega
      have q3 : (z : Int).tdiv 256 = (a : Int) := by rw [Int.tdiv_eq_ediv_of_nonneg (by omega)]; exact q1
      have q4 : (z : Int).tdiv 16 = (b0 : Int) := by rw [Int.tdiv_eq_ediv_of_nonneg (by omega)]; exact q2
      have q5 : (b0 : Int) % 16 = (b : Int) := by omega
      have q6 : (b0 : Int).tmod 16 = (b : Int) := by rw [Int.tmod_eq_emod_of_nonneg (by omega)]; exact q5
      have q7 : (z : Int) % 16 = (c : Int) := by omega
      have q8 : (z : Int).tmod 16 = (c : Int) := by rw [Int.tmod_eq_emod_of_nonneg (by omega)]; exact q7
      have q9 : (a : Int) ≤ 480 := by omega
      have q10 : (b0 : Int) ≤ 480 := by omega
      have HSU := Lib.hid (show mdig (bl msg) = Wt.nibs h ++ [a, b, c] by
        rw [HMD.out, ha, hb, hc, hb0, hz, HTK.out]; rfl)
      rw [HTK.out] at HO
      clear hz ha hb0 hb hc
      have HBN := Lib.hid (Blk.new wr 3 #[.int .i64 (a : Int), .int .i64 (b : Int), .int .i64 (c : Int)])
      have HOA := Lib.hid (own_alloc HO.out (.cells #[.int .i64 (a : Int), .int .i64 (b : Int), .int .i64 (c : Int)] 3))
      have HBA := Lib.hid (HB.out.alloc HB.out.size (.cells #[.int .i64 (a : Int), .int .i64 (b : Int), .int .i64 (c : Int)] 3))
      have HSL := Lib.hid (show Sl (wr.alloc (.cells #[.int .i64 (a : Int), .int .i64 (b : Int), .int .i64 (c : Int)] 3)) 1 (some ⟨wr.heap.size, 0, none⟩) 3 3 (dv [a, b, c]) from Blk.sl (n := 3) (size := 1) HBN.out rfl (by unfold maxLen; omega))
      go_wp2_with (at_builtin; refine wpl_append_sl _ rfl _ _ _ rfl w.heap.size 3 i0 (.int .i64 0) 1 8 Tryd.underlying30 hi' hz0 hz1 hz2 rfl (by decide) _ (2 * k) (dv (Wt.nibs h)) rfl HOA.out (some ⟨wr.heap.size, 0, none⟩) 3 3 (dv [a, b, c]) rfl HSL.out (dv_one _) (by unfold maxLen; omega) (by omega) HBA.out.size ?_; intro v' w8 hown hgrow _)
      have HB9 := Lib.hid (show Below w.heap.size w w8 from HBA.out.grown hgrow HBA.out.size (fun j e => (HOA.out.lt j e).1))
      clear hgrow
      go_ret
      exact ⟨v', rfl, by
        rw [HSU.out, dv_app, List.length_append, Wt.nibs_len, hhl]
        rw [HK.out] at hown
        exact hown, HB9.out⟩

end Bk
end Go.Proofs.YtlfpppffjedngaaDoor
