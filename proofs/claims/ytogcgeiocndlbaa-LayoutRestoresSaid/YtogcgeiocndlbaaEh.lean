/- Walks of the erasure code's reference: weight, block. -/
import Derived.Test.YtogcgeiocndlbaaEg
namespace Go.Proofs.Ytogcgeiocndlbaa
open Go.RowKit

theorem xor_b (x y : UInt8) : bits .xor .u8 (x.toNat : Int) (y.toNat : Int) = ((Gf.ga x y).toNat : Int) := by
  rw [u8_xor_nat _ _ x.toNat_lt y.toNat_lt, Gf.ga, UInt8.toNat_xor]

set_option maxRecDepth 100000 in
set_option maxHeartbeats 1000000 in
theorem weight_b (w : World) (A : Option Addr) (n c : Nat) (xs : List UInt8) (h : Byt w A n c xs) (k : Nat) (hk : k < xs.length) (x : UInt8) :
    Calls Try.prog 56 #[.slice A n c, .int .i64 (k : Int), .int .u8 (x.toNat : Int)] w fun e w' => e = .returned (.int .u8 ((wgt xs k x).toNat : Int)) ∧ Dr w w' := by
  have hn := h.len
  have hlc : n ≤ c := h.1
  have hcm : c ≤ 9223372036854775807 := h.2.1
  have H := Lib.hid h
  have HN := Lib.hid hn
  have hkn : k < n := by omega
  clear h hn
  go_enter Try.func56, Try.ntmps56
  go_wp2
  go_loopw [7, 8] (fun a i wr => ∃ m : Nat, m ≤ n ∧ i = .int .i64 (m : Int) ∧ a = .int .u8 ((rwt xs k x m).toNat : Int) ∧ Dr w wr) (fun _ i _ => n - (intOf i).toNat)
  case atStart => exact ⟨0, by omega, rfl, rfl, Dr.refl _⟩
  case round =>
    obtain ⟨m, hm, rfl, rfl, hd⟩ := hrel
    have HD := Lib.hid hd
    have HX := Lib.hid (H.out.dr hd)
    clear hd
    by_cases hlt : m < n
    · have hmx : m < xs.length := by rw [← HN.out]; omega
      obtain ⟨ad, rfl, _, hcm'⟩ := Byt.at_ HX.out hmx
      obtain ⟨_, e1, _, hck'⟩ := Byt.at_ HX.out hk
      injection e1 with e1
      subst e1
      by_cases hmk : m = k
      · have hne : ((m : Int) != (k : Int)) = false := by simp; omega
        have HS := Lib.hid (rwt_skip (xs := xs) (x := x) hmk)
        clear hmk hcm' hck'
        go_wp2
        go_roundw
        case rel => exact ⟨m + 1, by omega, by go_num, by rw [HS.out], HD.out⟩
        case measure => simp [intOf]; omega
      · have hne : ((m : Int) != (k : Int)) = true := by simp; omega
        have HS := Lib.hid (rwt_step (x := x) hmx hk hmk)
        have hx1 := xor_b x xs[m]
        have hx2 := xor_b xs[k] xs[m]
        clear hmk
        go_wp2
        go_quiet ((first | (go_at_call 64; exact Calls.quiet_of_same (over_b _ _ _)) | (go_at_call 57; exact Calls.quiet_of_same (rtimes_b _ _ _))))
        go_wp2
        go_roundw
        case rel => exact ⟨m + 1, by omega, by go_num, by rw [HS.out], HD.out.drewN _⟩
        case measure => simp [intOf]; omega
    · have HM := Lib.hid (show m = xs.length by rw [← HN.out]; omega)
      go_wp2
      go_ret
      refine ⟨?_, HD.out⟩
      rw [← rwt_wgt, ← HM.out]
      rfl

set_option maxRecDepth 100000 in
set_option maxHeartbeats 1000000 in
theorem at_f (w : World) (A' : Option Addr) (n' c' : Nat) (xs : List UInt8) (h' : Byt w A' n' c' xs) (A : Option Addr) (n c : Nat) (bs : List ByteArray) (h : Lst Value.string w A n c bs) (x : UInt8) (hn : bs.length = xs.length) (hpos : 0 < xs.length) (hl : xs.length ≤ 64)
    (L : Nat) (hL : L ≤ 65536) (hsz : ∀ b ∈ bs, b.size = L) :
    Calls Try.prog 40 #[.slice A' n' c', .slice A n c, .int .u8 (x.toNat : Int)] w fun e w' => e = .returned (.string (ofL (blk xs (bs.map bl) x))) ∧ Below w.heap.size w w' := by
  obtain ⟨i0, hi, hz0, hz1, hz2⟩ := info_parts info_u8
  have hnl := h.len
  have hlc : n ≤ c := h.1
  have hcm : c ≤ 9223372036854775807 := h.2.1
  have hnx := h'.len
  have hlc' : n' ≤ c' := h'.1
  have hcm' : c' ≤ 9223372036854775807 := h'.2.1
  have hb0 : 0 < bs.length := by omega
  obtain ⟨ad, rfl, _, hc0⟩ := h.at_ hb0
  rw [show ad.add 0 = ad from rfl] at hc0
  have hs0 : bs[0].size = L := hsz _ (List.getElem_mem hb0)
  have hL0 : ((bs.map bl).getD 0 []).length = L := by rw [map_getD_bl _ _ hb0, bl_length]; simp [List.getD, List.getElem?_eq_getElem hb0, hs0]
  have hmk := run_make_blk (P := Try.prog) w 57 5 i0 (.int .u8 0) Try.underlying57 hi hz0 .i64 .i64 L (by rw [hz2]; omega) (by omega)
  rw [hz1] at hmk
  have hblk0 := Blk.new w 5 (madeCells (Value.int .u8 0).cells (L * 1))
  have hmt := made_bytes L
  have hmk' : (Instr.makeSlice 57 (.int .i64 (bs[0].size : Int)) (.int .i64 (bs[0].size : Int))).run Try.prog w = .ok (.slice (some ⟨w.heap.size, 0, none⟩) L L) (w.alloc (.cells (madeCells (Value.int .u8 0).cells (L * 1)) 5)) := by rw [hs0]; exact hmk
  generalize madeCells (Value.int .u8 0).cells (L * 1) = mc at *
  have HBK := Lib.hid (show Blk (w.alloc (.cells mc 5)) w.heap.size 5 (bv (rowS xs (bs.map bl) x L 0 0)).toArray by
    rw [show (bv (rowS xs (bs.map bl) x L 0 0)).toArray = mc by rw [rowS_start, ← hmt]]; exact hblk0)
  have HL0 := Lib.hid hL0
  have H := Lib.hid h
  have H' := Lib.hid h'
  have HN := Lib.hid hnl
  have HNX := Lib.hid hn
  have HNN := Lib.hid (show n' = n by omega)
  have HSZ := Lib.hid hsz
  have hbd : n ≤ 64 := by omega
  have hn0 : 0 < n := by omega
  have e1 : ((n : Int) == 0) = false := by simp; omega
  have hnn1 : n' ≤ n := by omega
  have hnn2 : n ≤ n' := by omega
  clear h h' hn hnl hnx hl hmt hblk0 hi hz0 hz1 hz2 hL0 hsz hs0 hmk hpos
  go_enter Try.func40, Try.ntmps40
  go_wp2
  clear hmk' hc0
  go_loopw [8] (fun i wr => ∃ k : Nat, k ≤ n ∧ i = .int .i64 (k : Int) ∧ Blk wr w.heap.size 5 (bv (rowS xs (bs.map bl) x L k 0)).toArray ∧ Below w.heap.size w wr) (fun i _ => n - (intOf i).toNat)
  case atStart => exact ⟨0, by omega, rfl, HBK.out, (Below.refl _ w).alloc (Nat.le_refl _) _⟩
  case round =>
    obtain ⟨k, hk, rfl, hbk, hb⟩ := hrel
    clear HBK
    obtain ⟨wo, rfl⟩ : ∃ wo : World, wo = wr := ⟨_, rfl⟩
    have HBl := Lib.hid hbk
    have HB := Lib.hid hb
    have HX := Lib.hid (H.out.below hb)
    have HX' := Lib.hid (H'.out.below hb)
    clear hbk hb
    by_cases hlt : k < n
    · have hkb : k < bs.length := by rw [← HN.out]; omega
      have hkx : k < xs.length := by rw [← HNX.out]; exact hkb
      obtain ⟨_, e2, _, hck⟩ := HX.out.at_ hkb
      injection e2 with e2
      subst e2
      have HSK := Lib.hid (HSZ.out _ (List.getElem_mem hkb))
      have hsk : bs[k].size ≤ L := by rw [HSK.out]; omega
      have hsk' : L ≤ bs[k].size := by rw [HSK.out]; omega
      clear hck
      go_wp2_with fail
      refine (weight_b _ A' n' c' xs HX'.out k hkx x).mono ?_
      rintro e w2 ⟨rfl, hd2⟩
      have HBl' := Lib.hid (show Blk w2 w.heap.size 5 _ from HBl.out.below (hd2.below _))
      have HB' := Lib.hid (HB.out.trans (hd2.below _))
      clear hd2
      go_wp2
      go_loopw [10] (fun i wq => ∃ j : Nat, j ≤ L ∧ i = .int .i64 (j : Int) ∧ Blk wq w.heap.size 5 (bv (rowS xs (bs.map bl) x L k j)).toArray ∧ Below w.heap.size w wq) (fun i _ => L - (intOf i).toNat)
      case atStart => exact ⟨0, by omega, rfl, HBl'.out, HB'.out⟩
      case round =>
        obtain ⟨j, hj, rfl, hbk, hb⟩ := hrel
        have HBl2 := Lib.hid hbk
        have HB2 := Lib.hid hb
        by_cases hlt2 : j < L
        · have hjs : j < bs[k].size := by omega
          have hc1 := hbk.cell j
          have hf1 := hbk.frozen j
          have hjr : j < (rowS xs (bs.map bl) x L k j).length := by rw [rowS_len]; exact hlt2
          rw [bv_cell _ hjr, rowS_at hjr] at hc1
          obtain ⟨_, e2, _, hck⟩ := (H.out.below hb).at_ hkb
          injection e2 with e2
          subst e2
          have hx1 := xor_b (blkB xs (bs.map bl) x j k) (Gf.gm (wgt xs k x) bs[k][j])
          have HS := Lib.hid (rowS_set xs (bs.map bl) x (L := L) (k := k) (i := j) (Gf.ga (blkB xs (bs.map bl) x j k) (Gf.gm (wgt xs k x) bs[k][j])) (by rw [map_getD_bl _ _ hkb]; simp only [List.getD, List.getElem?_eq_getElem hkb]; congr 2; exact (bl_getD _ hjs).symm))
          clear hbk hb hjr
          unfold B at hc1
          go_wp2
          refine wp_region_still_tail 16 (by kernel_rfl) (by kernel_rfl) ?_
          simp only [List.take_succ_cons, List.take_zero, List.drop_succ_cons, List.drop_zero]
          repeat (first | still_step | still_call (rtimes_b _ _ _))
          refine wpStill_nil ?_
          change wpList _ _ _ _ _ wr.drew
          go_wp2
          go_roundw
          case rel => exact ⟨j + 1, by omega, by go_num, by rw [← HS.out, bv_set]; exact HBl2.out.drew.set_ j _, HB2.out.drew.setCell (p := ⟨w.heap.size, j, none⟩) (Nat.le_refl _) _⟩
          case measure => simp [intOf]; omega
        · have HK := Lib.hid (show j = L by omega)
          clear hbk hb
          go_wp2
          go_roundw
          case rel => exact ⟨k + 1, by omega, by go_num, by rw [← rowS_next]; have h7 := HBl2.out; rw [HK.out] at h7; exact h7, HB2.out⟩
          case measure => simp [intOf]; omega
    · have HK := Lib.hid (show k = xs.length by rw [← HNX.out, ← HN.out]; omega)
      have HY := Lib.hid (Blk.byt HBl.out (rowS_len _ _ _ _ _ _) (show L ≤ maxLen by unfold maxLen; omega))
      have hcv := run_conv_byt (P := Try.prog) HY.out 57 5 9 Try.underlying57 Try.underlying5 Try.underlying9
      go_wp2
      go_ret
      refine ⟨?_, HB.out⟩
      rw [show rowS xs (bs.map bl) x L k 0 = blk xs (bs.map bl) x by rw [HK.out, ← HL0.out]; exact rowS_end _ _ _]
      rfl

end Go.Proofs.Ytogcgeiocndlbaa
