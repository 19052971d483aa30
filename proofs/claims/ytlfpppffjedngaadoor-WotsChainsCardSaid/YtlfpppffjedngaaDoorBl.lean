/- wots: the digits of a message; the program's. -/
import Derived.Test.YtlfpppffjedngaaDoorBj
namespace Go.Proofs.YtlfpppffjedngaaDoor
open Go.RowKit
set_option linter.unusedVariables false
namespace Bk

theorem conv_bytes {P : Program} (w : World) (src dst e : TypeId) (s : ByteArray) (hs : P.underlying src = some .string) (hd : P.underlying dst = some (.slice e)) (he : P.underlying e = some (.int .u8)) (hm : s.size ≤ maxLen) :
    ∃ W cap, (convert src dst (.string s)).run P w = .ok (.slice (some ⟨w.heap.size, 0, none⟩) s.size cap) W ∧ Byt W (some ⟨w.heap.size, 0, none⟩) s.size cap (bl s) ∧ (∀ j, j < s.size → W.frozen? ⟨w.heap.size, j, none⟩ = false) ∧ Below w.heap.size w W ∧ W.heap.size = w.heap.size + 1 := by
  have hr := run_bytes_of_string (P := P) w src dst e s hs hd he
  obtain ⟨cap, hcap⟩ : ∃ cap, cap = grownCap w s.size 0 e := ⟨_, rfl⟩
  have hge : s.size ≤ cap := by rw [hcap]; exact grownCap_ge w s.size 0 e
  have hle : cap ≤ maxLen := by rw [hcap]; exact grownCap_le_maxLen w s.size 0 e hm
  rw [← hcap] at hr
  have hblk : (w.drew.alloc (.cells (bytesRow s cap) e ((bytesRow s cap).size, (bytesRow s cap).size + 1))).heap[w.heap.size]? = some (.cells (bytesRow s cap) e ((bytesRow s cap).size, (bytesRow s cap).size + 1)) := heap_alloc_new w.drew _
  have hsz : (bytesRow s cap).size = s.size + (cap - s.size) := by simp [bytesRow]
  have hdat : s.data.size = s.size := rfl
  refine ⟨_, cap, hr, ⟨hge, hle, by rw [bv_length, bl_len, Nat.mul_one], fun _ => ⟨_, rfl, by simp, fun j u hu => ?_⟩⟩, fun j hj => ?_, (Below.refl _ w).drew.alloc (Nat.le_refl _) _, by simp⟩
  · obtain ⟨hj, rfl⟩ := bv_get hu
    rw [bl_len] at hj
    rw [add_own, cell_of_row _ _ _ _ _ _ hblk, bytesRow_at s cap j (by rw [hdat]; exact hj)]
    rfl
  · unfold World.frozen?
    rw [hblk]
    simp
    omega

/-- numbers as values -/
def D (n : Nat) : Value := .int .i64 (n : Int)
def dv (l : List Nat) : List Value := l.map D
theorem dv_app (a b : List Nat) : dv (a ++ b) = dv a ++ dv b := by simp [dv]
theorem dv_one (l : List Nat) : ∀ u ∈ dv l, u.oneCell' = true := by
  intro u hu
  obtain ⟨x, _, rfl⟩ := List.mem_map.1 hu
  rfl
/-- what a call that hands back a []int of its own leaves -/
def GivesD (w : World) (l : List Nat) (e : Ending) (w' : World) : Prop := ∃ v, e = .returned v ∧ w'.ownsRow w.heap.size 3 1 v l.length (dv l) ∧ Below w.heap.size w w'
theorem info_int : (Tryd.prog.info? 3).map (fun i => (i.zero, i.size, i.bytes)) = some (some (.int .i64 0), 1, 8) := by kernel_rfl
def mdig (msg : List UInt8) : List Nat := Wt.digs (H [sMessage, msg])
theorem mdig_len (msg : List UInt8) : (mdig msg).length = 35 := Wt.digs_len (H_len _)
theorem nibs_take {h : List UInt8} {k : Nat} (hk : k < h.length) : Wt.nibs (h.take (k + 1)) = Wt.nibs (h.take k) ++ [(h[k]).toNat / 16, (h[k]).toNat % 16] := by
  unfold Wt.nibs
  rw [List.take_succ_eq_append_getElem hk, List.flatMap_append]
  simp
theorem chk_two (l : List Nat) (a b : Nat) : Wt.chk (l ++ [a, b]) = Wt.chk l + ((15 - a) + (15 - b)) := by
  rw [Wt.chk_append, Wt.chk_cons, Wt.chk_cons]
  rfl

set_option maxRecDepth 100000 in
set_option maxHeartbeats 2000000 in
theorem digits_f (w : World) (ht : Tab w) (msg : ByteArray) (hm : msg.size ≤ 900000) :
    Calls Tryd.prog 18 #[.string msg] w (GivesD w (mdig (bl msg))) := by
  have HH := Lib.hid (hash_f (w.alloc (.cells #[.string ⟨#[109, 101, 115, 115, 97, 103, 101]⟩, .string msg] 9)) (ht.alloc _) (some ⟨w.heap.size, 0, none⟩) 2 2 [⟨#[109, 101, 115, 115, 97, 103, 101]⟩, msg]
    (Blk.sl (n := 2) (size := 1) (Blk.new w 9 _) rfl (by unfold maxLen; omega)) (fun s hs => by
      rcases List.mem_cons.1 hs with rfl | hs
      · decide
      · rw [List.mem_singleton] at hs; subst hs; omega) (by
      have t1 := tot_cons ⟨#[109, 101, 115, 115, 97, 103, 101]⟩ [msg] (by decide)
      have t2 := tot_cons msg [] (by omega)
      have t5 := tot_nil
      have t6 : (⟨#[109, 101, 115, 115, 97, 103, 101]⟩ : ByteArray).size = 7 := rfl
      omega))
  obtain ⟨h, hh⟩ : ∃ h, h = H [sMessage, bl msg] := ⟨_, rfl⟩
  have hhl : h.length = 16 := by rw [hh]; exact H_len _
  have HMD := Lib.hid (show mdig (bl msg) = Wt.nibs h ++ Wt.sums (Wt.nibs h) by unfold mdig; rw [← hh]; rfl)
  obtain ⟨hs, hhs⟩ : ∃ s, s = ofL h := ⟨_, rfl⟩
  rw [show ofL (H (bls [⟨#[109, 101, 115, 115, 97, 103, 101]⟩, msg])) = hs by rw [hhs, hh]; rfl] at HH
  have hsz : hs.size = 16 := by rw [hhs, ofL_size, hhl]
  have HBL := Lib.hid (show bl hs = h by rw [hhs, bl_ofL])
  obtain ⟨i0, hi', hz0, hz1, hz2⟩ := info_parts info_int
  clear hh hhs ht
  go_enter Tryd.func18, Tryd.ntmps18
  go_wp2_with fail
  refine HH.out.mono ?_
  rintro e w1 ⟨rfl, hb1⟩
  have HB1 := Lib.hid (((Below.refl w.heap.size w).alloc (Nat.le_refl _) (.cells #[.string ⟨#[109, 101, 115, 115, 97, 103, 101]⟩, .string msg] 9)).trans (hb1.mono (by simp)))
  clear hb1
  obtain ⟨w2, cap, hrun, hbyt, _, hbel, hsz2⟩ := conv_bytes (P := Tryd.prog) w1 9 36 5 hs Tryd.underlying9 Tryd.underlying36 Tryd.underlying5 (by unfold maxLen; omega)
  rw [HBL.out] at hbyt
  have HY := Lib.hid hbyt
  have HB2 := Lib.hid (HB1.out.trans (hbel.mono HB1.out.size))
  have HZ2 := Lib.hid hsz2
  clear hbyt hbel hsz2
  rw [hsz] at hrun HY
  go_wp2_with fail
  clear hrun hsz HBL
  obtain ⟨g, hg⟩ : ∃ g, g = w1.heap.size := ⟨_, rfl⟩
  have HGW := Lib.hid (show w.heap.size ≤ g by rw [hg]; exact HB1.out.size)
  rw [← hg] at HY HZ2
  rw [← hg]
  clear hg
  have HO := Lib.hid (World.ownsRow_nil w2 (g + 1) 3 1)
  go_loopw [14, 3, 4] (fun x y z W => ∃ k : Nat, k ≤ 16 ∧ x = .int .i64 (k : Int) ∧ z = .int .i64 (Wt.chk (Wt.nibs (h.take k)) : Int) ∧ Hid (W.ownsRow (g + 1) 3 1 y (2 * k) (dv (Wt.nibs (h.take k)))) ∧ Hid (Byt W (some ⟨g, 0, none⟩) 16 cap h) ∧ Hid (Below w.heap.size w W)) (fun x _ _ _ => 16 - (intOf x).toNat)
  case atStart => exact ⟨0, by omega, rfl, rfl, HO, HY, HB2⟩
  case round =>
    obtain ⟨k, hk, rfl, rfl, HO, HY, HB⟩ := hrel
    by_cases hk16 : k < 16
    · have hkh : k < h.length := by rw [hhl]; exact hk16
      obtain ⟨ad, e1, hlt, hc⟩ := HY.out.at_ hkh
      injection e1 with e1
      subst e1
      rw [add_own] at hc
      have HLT := Lib.hid (show g < wr.heap.size from hlt)
      obtain ⟨x, hx⟩ : ∃ x, x = (h[k]).toNat := ⟨_, rfl⟩
      have hx256 : x < 256 := by rw [hx]; exact (h[k]).toNat_lt
      rw [← hx] at hc
      obtain ⟨a, ha⟩ : ∃ a, a = x / 16 := ⟨_, rfl⟩
      obtain ⟨b, hb⟩ : ∃ b, b = x % 16 := ⟨_, rfl⟩
      have q1 : (x : Int) / 16 = (a : Int) := by omega
      have q2 : (x : Int) % 16 = (b : Int) := by omega
      have q3 : (x : Int).tdiv 16 = (a : Int) := by rw [Int.tdiv_eq_ediv_of_nonneg (by omega)]; exact q1
      have q4 : (x : Int).tmod 16 = (b : Int) := by rw [Int.tmod_eq_emod_of_nonneg (by omega)]; exact q2
      have ha15 : a ≤ 15 := by omega
      have hb15 : b ≤ 15 := by omega
      have HNT := Lib.hid (show Wt.nibs (h.take (k + 1)) = Wt.nibs (h.take k) ++ [a, b] by rw [nibs_take hkh, ← hx, ha, hb])
      have hcl : Wt.chk (Wt.nibs (h.take k)) ≤ 15 * (2 * k) := by
        have := Wt.chk_le (Wt.nibs (h.take k))
        rw [Wt.nibs_len, List.length_take, Nat.min_eq_left (by omega)] at this
        exact this
      obtain ⟨z, hz⟩ : ∃ z, z = Wt.chk (Wt.nibs (h.take k)) := ⟨_, rfl⟩
      have HZN := Lib.hid (show Wt.chk (Wt.nibs (h.take (k + 1))) = z + ((15 - a) + (15 - b)) by rw [HNT.out, chk_two, ← hz])
      rw [← hz] at hcl
      rw [← hz]
      clear hz ha hb hx hkh hlt hx256
      have HBN := Lib.hid (Blk.new wr 3 #[.int .i64 (a : Int), .int .i64 (b : Int)])
      have HOA := Lib.hid (own_alloc HO.out (.cells #[.int .i64 (a : Int), .int .i64 (b : Int)] 3))
      have HYA := Lib.hid (HY.out.alloc (.cells #[.int .i64 (a : Int), .int .i64 (b : Int)] 3))
      have HBA := Lib.hid (HB.out.alloc HB.out.size (.cells #[.int .i64 (a : Int), .int .i64 (b : Int)] 3))
      have HSL := Lib.hid (show Sl (wr.alloc (.cells #[.int .i64 (a : Int), .int .i64 (b : Int)] 3)) 1 (some ⟨wr.heap.size, 0, none⟩) 2 2 (dv [a, b]) from Blk.sl (n := 2) (size := 1) HBN.out rfl (by unfold maxLen; omega))
      have HBS := Lib.hid (show g + 1 ≤ (wr.alloc (.cells #[.int .i64 (a : Int), .int .i64 (b : Int)] 3)).heap.size by have := HLT.out; rw [asz]; omega)
      go_wp2_with (at_builtin; refine wpl_append_sl _ rfl _ _ _ rfl (g + 1) 3 i0 (.int .i64 0) 1 8 Tryd.underlying30 hi' hz0 hz1 hz2 rfl (by decide) _ (2 * k) (dv (Wt.nibs (h.take k))) rfl HOA.out (some ⟨wr.heap.size, 0, none⟩) 2 2 (dv [a, b]) rfl HSL.out (dv_one _) (by unfold maxLen; omega) (by omega) HBS.out ?_; intro v' w8 hown hgrow _)
      have HO9 := Lib.hid (show w8.ownsRow (g + 1) 3 1 v' (2 * (k + 1)) (dv (Wt.nibs (h.take (k + 1)))) by rw [HNT.out, dv_app]; exact hown)
      have HY9 := Lib.hid (show Byt w8 (some ⟨g, 0, none⟩) 16 cap h from Sl.grown HYA.out hgrow (fun ad g' e1 e2 => by
        injection e1 with e1
        subst e1
        have := (HOA.out.lt g' e2).1
        show g ≠ g'
        omega))
      have HB9 := Lib.hid (show Below w.heap.size w w8 from HBA.out.grown hgrow HBA.out.size (fun j e => by have := (HOA.out.lt j e).1; have := HGW.out; omega))
      clear hown hgrow
      go_wp2_with fail
      go_roundw
      case rel => exact ⟨k + 1, by omega, by go_num, by rw [HZN.out]; go_num, HO9, HY9, HB9⟩
      case measure => simp [intOf]; omega
    · have HK := Lib.hid (show k = 16 by omega)
      have HTK := Lib.hid (show h.take k = h from List.take_of_length_le (by omega))
      have hcl : Wt.chk (Wt.nibs (h.take k)) ≤ 480 := by
        have := Wt.chk_le (Wt.nibs h)
        rw [Wt.nibs_len, hhl] at this
        rw [HTK.out]; exact this
      obtain ⟨z, hz⟩ : ∃ z, z = Wt.chk (Wt.nibs (h.take k)) := ⟨_, rfl⟩
      rw [← hz] at hcl
      rw [← hz]
      obtain ⟨a, ha⟩ : ∃ a, a = z / 256 := ⟨_, rfl⟩
      obtain ⟨b0, hb0⟩ : ∃ b, b = z / 16 := ⟨_, rfl⟩
      obtain ⟨b, hb⟩ : ∃ b, b = b0 % 16 := ⟨_, rfl⟩
      obtain ⟨c, hc⟩ : ∃ b, b = z % 16 := ⟨_, rfl⟩
      have q1 : (z : Int) / 256 = (a : Int) := by omega
      have q2 : (z : Int) / 16 = (b0 : Int) := by omega
      have q3 : (z : Int).tdiv 256 = (a : Int) := by rw [Int.tdiv_eq_ediv_of_nonneg (by omega)]; exact q1
      have q4 : (z : Int).tdiv 16 = (b0 : Int) := by rw [Int.tdiv_eq_ediv_of_nonneg (by omega)]; exact q2
      have q5 : (b0 : Int) % 16 = (b : Int) := by omega
      have q6 : (b0 : Int).tmod 16 = (b : Int) := by rw [Int.tmod_eq_emod_of_nonneg (by omega)]; exact q5
      have q7 : (z : Int) % 16 = (c : Int) := by omega
      have q8 : (z : Int).tmod 16 = (c : Int) := by rw [Int.tmod_eq_emod_of_nonneg (by omega)]; exact q7
      have q9 : (a : Int) ≤ 480 := by omega
      have q10 : (b0 : Int) ≤ 480 := by omega
      have HSU := Lib.hid (show mdig (bl msg) = Wt.nibs h ++ [a, b, c] by
        rw [HMD.out, ha, hb, hc, hb0, hz, HTK.out]; rfl)
      rw [HTK.out] at HO
      clear hz ha hb0 hb hc
      have HLT := Lib.hid (show g < wr.heap.size by
        obtain ⟨ad, e1, hlt, _⟩ := HY.out.at_ (k := 0) (by omega)
        injection e1 with e1
        subst e1
        exact hlt)
      have HBN := Lib.hid (Blk.new wr 3 #[.int .i64 (a : Int), .int .i64 (b : Int), .int .i64 (c : Int)])
      have HOA := Lib.hid (own_alloc HO.out (.cells #[.int .i64 (a : Int), .int .i64 (b : Int), .int .i64 (c : Int)] 3))
      have HBA := Lib.hid (HB.out.alloc HB.out.size (.cells #[.int .i64 (a : Int), .int .i64 (b : Int), .int .i64 (c : Int)] 3))
      have HSL := Lib.hid (show Sl (wr.alloc (.cells #[.int .i64 (a : Int), .int .i64 (b : Int), .int .i64 (c : Int)] 3)) 1 (some ⟨wr.heap.size, 0, none⟩) 3 3 (dv [a, b, c]) from Blk.sl (n := 3) (size := 1) HBN.out rfl (by unfold maxLen; omega))
      have HBS := Lib.hid (show g + 1 ≤ (wr.alloc (.cells #[.int .i64 (a : Int), .int .i64 (b : Int), .int .i64 (c : Int)] 3)).heap.size by have := HLT.out; rw [asz]; omega)
      go_wp2_with (at_builtin; refine wpl_append_sl _ rfl _ _ _ rfl (g + 1) 3 i0 (.int .i64 0) 1 8 Tryd.underlying30 hi' hz0 hz1 hz2 rfl (by decide) _ (2 * k) (dv (Wt.nibs h)) rfl HOA.out (some ⟨wr.heap.size, 0, none⟩) 3 3 (dv [a, b, c]) rfl HSL.out (dv_one _) (by unfold maxLen; omega) (by omega) HBS.out ?_; intro v' w8 hown hgrow _)
      have HB9 := Lib.hid (show Below w.heap.size w w8 from HBA.out.grown hgrow HBA.out.size (fun j e => by have := (HOA.out.lt j e).1; have := HGW.out; omega))
      clear hgrow
      go_ret
      exact ⟨v', rfl, by
        rw [HSU.out, dv_app, List.length_append, Wt.nibs_len, hhl]
        rw [HK.out] at hown
        exact own_mono hown (by have := HGW.out; omega), HB9.out⟩

end Bk
end Go.Proofs.YtlfpppffjedngaaDoor
