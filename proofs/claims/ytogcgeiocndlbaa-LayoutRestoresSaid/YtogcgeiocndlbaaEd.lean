/- Walks of the function that interpolator hands back, and of indices. -/
import Derived.Test.YtogcgeiocndlbaaEc
namespace Go.Proofs.Ytogcgeiocndlbaa
open Go.RowKit

theorem bl_getD (s : ByteArray) {i : Nat} (h : i < s.size) : (bl s).getD i 0 = s[i] := by
  unfold bl
  rw [getD_lt (by simpa using h)]
  rfl
theorem Blk.byts {w : World} {g : Nat} {t : TypeId} {l : List UInt8} (h : Blk w g t (bv l).toArray) (hx : l.length ≤ maxLen) : Byt w (some ⟨g, 0, none⟩) l.length l.length l := Blk.byt h rfl hx

set_option maxRecDepth 100000 in
set_option maxHeartbeats 1000000 in
theorem interp1_f (w : World) (A : Option Addr) (n c : Nat) (bs : List ByteArray) (h : Lst Value.string w A n c bs) (xs : List UInt8) (x : UInt8) (hn : bs.length = xs.length) (hpos : 0 < xs.length) (hl : xs.length ≤ 64)
    (L : Nat) (hL : L ≤ 65536) (hsz : ∀ b ∈ bs, b.size = L) (g : Nat) (Aw : Option Addr) (nw cw : Nat) (hbv : Blk w g 57 #[.slice Aw nw cw]) (hbw : Byt w Aw nw cw (wts xs x xs.length)) :
    Calls Try.prog 55 #[.slice A n c, .pointer (some ⟨g, 0, none⟩)] w fun e w' => e = .returned (.string (ofL (blk xs (bs.map bl) x))) ∧ Below w.heap.size w w' := by
  obtain ⟨i0, hi, hz0, hz1, hz2⟩ := info_parts info_u8
  have hnl := h.len
  have hlc : n ≤ c := h.1
  have hcm : c ≤ 9223372036854775807 := h.2.1
  have hnw := hbw.len
  have hlw : nw ≤ cw := hbw.1
  have hlm : cw ≤ 9223372036854775807 := hbw.2.1
  rw [wts_len] at hnw
  have hb0 : 0 < bs.length := by omega
  obtain ⟨ad, rfl, _, hc0⟩ := h.at_ hb0
  rw [show ad.add 0 = ad from rfl] at hc0
  have hs0 : bs[0].size = L := hsz _ (List.getElem_mem hb0)
  have hL0 : ((bs.map bl).getD 0 []).length = L := by rw [map_getD_bl _ _ hb0, bl_length]; simp [List.getD, List.getElem?_eq_getElem hb0, hs0]
  have hmk := run_make_blk (P := Try.prog) w 57 5 i0 (.int .u8 0) Try.underlying57 hi hz0 .i64 .i64 L (by rw [hz2]; omega) (by omega)
  rw [hz1, ← hs0] at hmk
  have hblk0 := Blk.new w 5 (madeCells (Value.int .u8 0).cells (L * 1))
  have hmt := made_bytes L
  rw [hs0] at hmk
  have hmk' : (Instr.makeSlice 57 (.int .i64 (bs[0].size : Int)) (.int .i64 (bs[0].size : Int))).run Try.prog w = .ok (.slice (some ⟨w.heap.size, 0, none⟩) L L) (w.alloc (.cells (madeCells (Value.int .u8 0).cells (L * 1)) 5)) := by rw [hs0]; exact hmk
  generalize madeCells (Value.int .u8 0).cells (L * 1) = mc at *
  have HBK := Lib.hid (show Blk (w.alloc (.cells mc 5)) w.heap.size 5 (bv (rowS xs (bs.map bl) x L 0 0)).toArray by
    rw [show (bv (rowS xs (bs.map bl) x L 0 0)).toArray = mc by rw [rowS_start, ← hmt]]; exact hblk0)
  have HL0 := Lib.hid hL0
  have H := Lib.hid h
  have HN := Lib.hid hnl
  have HNX := Lib.hid hn
  have HNW := Lib.hid hnw
  have HW := Lib.hid hbw
  have HV := Lib.hid hbv
  have HSZ := Lib.hid hsz
  have hbd : n ≤ 64 := by omega
  have hn0 : 0 < n := by omega
  clear h hn hnl hnw hl hmt hblk0 hi hz0 hz1 hz2 hL0 hsz hs0 hbw hbv hmk hpos
  go_enter Try.func55, Try.ntmps55
  go_wp2
  clear hmk' hc0
  go_loopw [15] (fun i wr => ∃ k : Nat, k ≤ n ∧ i = .int .i64 (k : Int) ∧ Blk wr w.heap.size 5 (bv (rowS xs (bs.map bl) x L k 0)).toArray ∧ Below w.heap.size w wr) (fun i _ => n - (intOf i).toNat)
  case atStart => exact ⟨0, by omega, rfl, HBK.out, (Below.refl _ w).alloc (Nat.le_refl _) _⟩
  case round =>
    obtain ⟨k, hk, rfl, hbk, hb⟩ := hrel
    clear HBK
    obtain ⟨wo, rfl⟩ : ∃ wo : World, wo = wr := ⟨_, rfl⟩
    have HBl := Lib.hid hbk
    have HB := Lib.hid hb
    have HX := Lib.hid (H.out.below hb)
    clear hbk hb
    by_cases hlt : k < n
    · have hkb : k < bs.length := by rw [← HN.out]; omega
      obtain ⟨_, e1, _, hck⟩ := HX.out.at_ hkb
      injection e1 with e1
      subst e1
      have HSK := Lib.hid (HSZ.out _ (List.getElem_mem hkb))
      have hsk : bs[k].size ≤ L := by rw [HSK.out]; omega
      have hsk' : L ≤ bs[k].size := by rw [HSK.out]; omega
      go_wp2
      go_loopw [22] (fun i wq => ∃ j : Nat, j ≤ L ∧ i = .int .i64 (j : Int) ∧ Blk wq w.heap.size 5 (bv (rowS xs (bs.map bl) x L k j)).toArray ∧ Below w.heap.size w wq) (fun i _ => L - (intOf i).toNat)
      case atStart => exact ⟨0, by omega, rfl, HBl.out, HB.out⟩
      case round =>
        obtain ⟨j, hj, rfl, hbk, hb⟩ := hrel
        have HBl2 := Lib.hid hbk
        have HB2 := Lib.hid hb
        clear hck
        by_cases hlt2 : j < L
        · have hjs : j < bs[k].size := by omega
          have hkw : k < (wts xs x xs.length).length := by rw [wts_len, ← HNX.out]; exact hkb
          have hc1 := hbk.cell j
          have hf1 := hbk.frozen j
          have hjr : j < (rowS xs (bs.map bl) x L k j).length := by rw [rowS_len]; exact hlt2
          rw [bv_cell _ hjr, rowS_at hjr] at hc1
          obtain ⟨aw, rfl, _, hcw⟩ := Byt.at_ (HW.out.below hb) hkw
          rw [wts_at hkw (by rw [← HNX.out]; exact hkb)] at hcw
          have hcv := (HV.out.below hb).cell 0
          have hkn : k < nw := by rw [HNW.out, ← HNX.out]; exact hkb
          have HS := Lib.hid (rowS_set xs (bs.map bl) x (L := L) (k := k) (i := j) (Gf.ga (blkB xs (bs.map bl) x j k) (Gf.gm (wgt xs k x) bs[k][j])) (by rw [map_getD_bl _ _ hkb]; simp only [List.getD, List.getElem?_eq_getElem hkb]; congr 2; exact (bl_getD _ hjs).symm))
          clear hbk hb hkw hjr
          unfold B at hc1
          go_wp2
          refine wp_region_still_tail 16 (by kernel_rfl) (by kernel_rfl) ?_
          simp only [List.take_succ_cons, List.take_zero, List.drop_succ_cons, List.drop_zero]
          repeat (first | still_step | still_call (gmul_b _ _ _) | still_call (gadd_b _ _ _))
          refine wpStill_nil ?_
          change wpList _ _ _ _ _ wr.drew
          go_wp2
          go_roundw
          case rel => exact ⟨j + 1, by omega, by go_num, by rw [← HS.out, bv_set]; exact HBl2.out.drew.set_ j _, HB2.out.drew.setCell (p := ⟨w.heap.size, j, none⟩) (Nat.le_refl _) _⟩
          case measure => simp [intOf]; omega
        · have HK := Lib.hid (show j = L by omega)
          clear hbk hb
          go_wp2
          go_roundw
          case rel => exact ⟨k + 1, by omega, by go_num, by rw [← rowS_next]; have h7 := HBl2.out; rw [HK.out] at h7; exact h7, HB2.out⟩
          case measure => simp [intOf]; omega
    · have HK := Lib.hid (show k = xs.length by rw [← HNX.out, ← HN.out]; omega)
      have HY := Lib.hid (Blk.byt HBl.out (rowS_len _ _ _ _ _ _) (show L ≤ maxLen by unfold maxLen; omega))
      have hcv := run_conv_byt (P := Try.prog) HY.out 57 5 9 Try.underlying57 Try.underlying5 Try.underlying9
      go_wp2
      go_ret
      refine ⟨?_, HB.out⟩
      rw [show rowS xs (bs.map bl) x L k 0 = blk xs (bs.map bl) x by rw [HK.out, ← HL0.out]; exact rowS_end _ _ _]
      rfl

theorem idx_at' {n j : Nat} (h : j < n) : ((idx n).map B)[j]? = some (B (UInt8.ofNat j)) := by simp [idx, List.getElem?_map, List.getElem?_range h]
/-- the first k elements, zeros behind them -/
def idxs (n k : Nat) : List UInt8 := (List.range n).map fun j => if j < k then UInt8.ofNat j else 0
theorem idxs_start (n : Nat) : idxs n 0 = List.replicate n 0 := by
  refine List.ext_getElem (by simp [idxs]) fun j h1 h2 => ?_
  simp [idxs]
theorem idxs_len (n k : Nat) : (idxs n k).length = n := by simp [idxs]
theorem idxs_end (n : Nat) : idxs n n = idx n := by
  unfold idxs idx
  exact List.map_congr_left fun j hj => by rw [if_pos (List.mem_range.1 hj)]
theorem idxs_set (n k : Nat) : (idxs n k).set k (UInt8.ofNat k) = idxs n (k + 1) := by
  refine List.ext_getElem (by simp [idxs]) fun j h1 h2 => ?_
  rw [List.getElem_set]
  simp only [idxs, List.getElem_map, List.getElem_range]
  by_cases h : k = j
  · subst h; rw [if_pos rfl, if_pos (by omega)]
  · rw [if_neg h]
    by_cases h2 : j < k
    · rw [if_pos h2, if_pos (by omega)]
    · rw [if_neg h2, if_neg (by omega)]
theorem B_ofNat {k : Nat} (h : k < 256) : B (UInt8.ofNat k) = .int .u8 (k : Int) := by
  unfold B
  rw [UInt8.toNat_ofNat', Nat.mod_eq_of_lt h]

set_option maxRecDepth 100000 in
set_option maxHeartbeats 1000000 in
theorem indices_b (n : Nat) (hn : n ≤ 64) (w : World) : Calls Try.prog 38 #[.int .i64 (n : Int)] w (Gives w (idx n)) := by
  obtain ⟨i0, hi, hz0, hz1, hz2⟩ := info_parts info_u8
  have hmk := run_make_blk (P := Try.prog) w 57 5 i0 (.int .u8 0) Try.underlying57 hi hz0 .i64 .i64 n (by rw [hz2]; omega) (by omega)
  rw [hz1] at hmk
  have hblk0 := Blk.new w 5 (madeCells (Value.int .u8 0).cells (n * 1))
  have hmt := made_bytes n
  generalize madeCells (Value.int .u8 0).cells (n * 1) = mc at *
  have HBK := Lib.hid (show Blk (w.alloc (.cells mc 5)) w.heap.size 5 (bv (idxs n 0)).toArray by
    rw [show (bv (idxs n 0)).toArray = mc by rw [idxs_start, ← hmt]]; exact hblk0)
  clear hmt hblk0 hi hz0 hz1 hz2
  go_enter Try.func38, Try.ntmps38
  go_wp2
  clear hmk
  go_loopw [9] (fun i wr => ∃ k : Nat, k ≤ n ∧ i = .int .i64 (k : Int) ∧ Blk wr w.heap.size 5 (bv (idxs n k)).toArray ∧ Below w.heap.size w wr) (fun i _ => n - (intOf i).toNat)
  case atStart => exact ⟨0, by omega, rfl, HBK.out, (Below.refl _ w).alloc (Nat.le_refl _) _⟩
  case round =>
    obtain ⟨k, hk, rfl, hbk, hb⟩ := hrel
    clear HBK
    have HBl := Lib.hid hbk
    have HB := Lib.hid hb
    by_cases hlt : k < n
    · have hc1 := hbk.cell k
      have hf1 := hbk.frozen k
      rw [bv_cell _ (by rw [idxs_len]; exact hlt)] at hc1
      unfold B at hc1
      clear hbk hb
      go_wp2
      go_roundw
      case rel => exact ⟨k + 1, by omega, by go_num, by rw [← idxs_set, bv_set, B_ofNat (by omega)]; exact HBl.out.set_ k _, HB.out.setCell (p := ⟨w.heap.size, k, none⟩) (Nat.le_refl _) _⟩
      case measure => simp [intOf]; omega
    · have HK := Lib.hid (show k = n by omega)
      clear hbk hb
      go_wp2
      go_ret
      refine ⟨_, rfl, ?_, HB.out⟩
      have h7 := HBl.out
      rw [HK.out, idxs_end] at h7
      have h8 := Blk.own (n := n) (size := 1) h7 (Nat.le_refl _) (by simp [bv_length, idx_len]) (by unfold maxLen; omega)
      rw [idx_len]
      simpa using h8

end Go.Proofs.Ytogcgeiocndlbaa
