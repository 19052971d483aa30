/- Walks of the program's polynomial functions: Derivative, Add, Mul. -/
import Derived.Test.YtpljpceldlaphaaPr
import Derived.StillTailTactics
import Derived.Deep.RegionHeld3
namespace Go.Proofs.Ytpljpceldlaphaa
open Go.RowKit

theorem size_u8 : (Try.prog.info? 5).map (·.size) = some 1 := by kernel_rfl
theorem src_cells {w : World} {A : Option Addr} {n c : Nat} {l : List UInt8} (h : Byt w A n c l) (hpos : 0 < (bv l).length) : ∃ ad, A = some ad ∧ ∀ j v, (bv l)[j]? = some v → w.cell? (ad.add j) = some v := by
  rw [bv_length] at hpos
  obtain ⟨ad, e, _, hc⟩ := h.2.2.2 (by rw [h.len]; exact hpos)
  exact ⟨ad, e, hc⟩
theorem Blk.byt {w : World} {g m : Nat} {t : TypeId} {l : List UInt8} (h : Blk w g t (bv l).toArray) (hm : l.length = m) (hx : m ≤ maxLen) : Byt w (some ⟨g, 0, none⟩) m m l := by
  have := Blk.sl (size := 1) (n := m) h (by simp [bv_length, hm]) hx
  unfold Byt
  simpa using this
theorem bv_set (l : List UInt8) (k : Nat) (x : UInt8) : (bv (l.set k x)).toArray = (bv l).toArray.setIfInBounds k (B x) := by
  simp [bv, List.map_set]
theorem bv_cell (l : List UInt8) {k : Nat} (hk : k < l.length) : (bv l).toArray[k]? = some (B l[k]) := by
  simp [bv, List.getElem?_map, List.getElem?_eq_getElem hk]

/-- the copy of p, m bytes of it, with the first k bytes of q added -/
def addIn (p q : List UInt8) (m k : Nat) : List UInt8 := (List.range m).map fun i => if i < k then Gf.ga (p.getD i 0) (q.getD i 0) else p.getD i 0
theorem addIn_get (p q : List UInt8) {m k i : Nat} (hi : i < m) : (addIn p q m k)[i]? = some (if i < k then Gf.ga (p.getD i 0) (q.getD i 0) else p.getD i 0) := by
  unfold addIn
  rw [List.getElem?_map, List.getElem?_range hi]; rfl
theorem addIn_cell (p q : List UInt8) {m k : Nat} (hk : k < m) : (bv (addIn p q m k)).toArray[k]? = some (.int .u8 ((p.getD k 0).toNat : Int)) := by
  have h := addIn_get p q (k := k) hk
  rw [if_neg (Nat.lt_irrefl _)] at h
  simp only [bv, List.getElem?_toArray, List.getElem?_map, h]
  rfl
theorem addIn_succ (p : List UInt8) {q : List UInt8} {m k : Nat} (hk : k < q.length) : addIn p q m (k + 1) = (addIn p q m k).set k (Gf.ga (p.getD k 0) q[k]) := by
  have e : q.getD k 0 = q[k] := by simp [List.getD, List.getElem?_eq_getElem hk]
  refine List.ext_getElem? fun i => ?_
  rw [List.getElem?_set]
  by_cases him : i < m
  · rw [addIn_get p q him]
    by_cases hik : k = i
    · subst hik
      rw [if_pos rfl, if_pos (by omega), if_pos (by simp [addIn, him]), e]
    · rw [if_neg hik, addIn_get p q him]
      by_cases h1 : i < k
      · rw [if_pos h1, if_pos (by omega)]
      · rw [if_neg h1, if_neg (by omega)]
  · have h1 : (addIn p q m (k + 1))[i]? = none := List.getElem?_eq_none (by simp [addIn]; omega)
    have h2 : (addIn p q m k)[i]? = none := List.getElem?_eq_none (by simp [addIn]; omega)
    rw [h1]
    split
    · rename_i hik
      subst hik
      rw [if_neg (by simp [addIn]; omega)]
    · rw [h2]
theorem ga_zero (x : UInt8) : Gf.ga x 0 = x := by unfold Gf.ga; exact UInt8.xor_zero
theorem zero_ga (x : UInt8) : Gf.ga 0 x = x := by unfold Gf.ga; exact UInt8.zero_xor
theorem getD_ge {l : List UInt8} {i : Nat} (h : l.length ≤ i) : l.getD i 0 = 0 := by simp [List.getD, List.getElem?_eq_none h]
theorem addIn_end (p q : List UInt8) : addIn p q (max p.length q.length) q.length = addTo p q (max p.length q.length) := by
  unfold addIn addTo
  refine List.map_congr_left fun i _ => ?_
  split
  · rfl
  · rw [getD_ge (l := q) (by omega), ga_zero]
theorem splice_start (p q : List UInt8) {m : Nat} (hm : p.length ≤ m) : splice (bv (List.replicate m 0)) 0 (bv p) = bv (addIn p q m 0) := by
  have e : addIn p q m 0 = p ++ List.replicate (m - p.length) 0 := by
    refine List.ext_getElem? fun i => ?_
    by_cases him : i < m
    · rw [addIn_get p q him, if_neg (Nat.not_lt_zero _), List.getElem?_append]
      split
      · rename_i h; simp [List.getD, List.getElem?_eq_getElem h]
      · rename_i h
        rw [getD_ge (by omega), List.getElem?_replicate, if_pos (by omega)]
    · rw [List.getElem?_eq_none (by simp [addIn]; omega), List.getElem?_eq_none (by simp; omega)]
  rw [e, bv_append]
  unfold splice
  simp [bv, List.map_replicate]

set_option maxRecDepth 100000 in
set_option maxHeartbeats 1000000 in
theorem padd_b (w : World) (A : Option Addr) (n c : Nat) (p : List UInt8) (A' : Option Addr) (n' c' : Nat) (q : List UInt8) (h : Byt w A n c p) (h' : Byt w A' n' c' q) (hp : p.length ≤ 1024) (hq : q.length ≤ 1024) :
    Calls Try.prog 38 #[.slice A n c, .slice A' n' c'] w (Gives w (padd p q)) := by
  obtain ⟨i0, hi, hz0, hz1, hz2⟩ := info_parts info_u8
  have hn := h.len
  have hn' := h'.len
  have hlc : n ≤ c := h.1
  have hcm : c ≤ 9223372036854775807 := h.2.1
  have hlc' : n' ≤ c' := h'.1
  have hcm' : c' ≤ 9223372036854775807 := h'.2.1
  have hbd : n ≤ 1024 := by omega
  have hbd' : n' ≤ 1024 := by omega
  have H := Lib.hid h
  have H' := Lib.hid h'
  have HN := Lib.hid hn
  have HN' := Lib.hid hn'
  clear h h' hn hn' hp hq
  by_cases hnn : n < n'
  · have hmk := run_make_blk (P := Try.prog) w 45 5 i0 (.int .u8 0) Try.underlying45 hi hz0 .i64 .i64 n' (by rw [hz2]; omega) (by omega)
    rw [hz1] at hmk
    have hblk0 := Blk.new w 5 (madeCells (Value.int .u8 0).cells (n' * 1))
    have hmt := made_bytes n'
    generalize madeCells (Value.int .u8 0).cells (n' * 1) = mc at *
    have HMT := Lib.hid (show mc = (bv (List.replicate n' 0)).toArray by rw [← hmt])
    have HBK := Lib.hid hblk0
    have HQ0 := Lib.hid (H'.out.alloc (.cells mc 5))
    have HP0 := Lib.hid (H.out.alloc (.cells mc 5))
    have HE := Lib.hid (show addIn p q n' n' = addTo p q (max p.length q.length) by rw [HN'.out, ← addIn_end, ← HN.out, ← HN'.out]; congr 1; omega)
    have HI0 := Lib.hid (splice_start p q (m := n') (by rw [← HN.out]; omega))
    clear hmt hblk0 hi hz0 hz1 hz2
    go_enter Try.func38, Try.ntmps38
    go_wp2_with (refine wpList_copy_splice rfl (.tmp 13) (.tmp 14) 45 45 rfl 5 Try.underlying45 size_u8 (some ⟨w.heap.size, 0, none⟩) A n' n' n c rfl rfl w.heap.size 0 (bv (List.replicate n' 0)) 5 (by rw [← HMT.out]; exact HBK.out) (bv p) (by rw [bv_length, ← HN.out]; exact (Nat.min_eq_left (by omega)).symm) (fun hpos => ⟨rfl, src_cells HP0.out hpos⟩) (by rw [bv_length, bv_length, List.length_replicate, ← HN.out]; omega) (bv_one p) w.heap.size _ (Below.refl _ _) (Nat.le_refl _) ?_; intro w1 hblk1 hb1)
    have HB1 := Lib.hid (((Below.refl w.heap.size w).alloc (Nat.le_refl _) (.cells mc 5)).trans hb1)
    clear hb1 hmk
    go_loopw [18] (fun i wr => ∃ k : Nat, k ≤ n' ∧ i = .int .i64 (k : Int) ∧ Blk wr w.heap.size 5 (bv (addIn p q n' k)).toArray ∧ Below w.heap.size w wr) (fun i _ => n' - (intOf i).toNat)
    case atStart => exact ⟨0, by omega, rfl, by rw [← HI0.out]; exact hblk1, HB1.out⟩
    case round =>
      obtain ⟨k, hk, rfl, hbk, hb⟩ := hrel
      clear hblk1 HB1
      have HBl := Lib.hid hbk
      have HB := Lib.hid hb
      have hQ := Lib.hid (H'.out.below hb)
      by_cases hlt : k < n'
      · have hj : k < q.length := by rw [← HN'.out]; omega
        have hkm : k < n' := by omega
        have hc1 := hbk.cell k
        have hf1 := hbk.frozen k
        rw [addIn_cell p q hkm] at hc1
        obtain ⟨ad, rfl, _, hc⟩ := Byt.at_ hQ.out hj
        have HS := Lib.hid (addIn_succ p (q := q) (m := n') hj)
        clear hbk hb
        go_wp2
        refine wp_region_still_tail 12 (by kernel_rfl) (by kernel_rfl) ?_
        simp only [List.take_succ_cons, List.take_zero, List.drop_succ_cons, List.drop_zero]
        repeat (first | still_step | still_call (gadd_b _ _ _))
        refine wpStill_nil ?_
        change wpList _ _ _ _ _ wr.drew
        go_wp2
        go_roundw
        case rel => exact ⟨k + 1, by omega, by go_num, by rw [HS.out, bv_set]; exact HBl.out.drew.set_ k _, HB.out.drew.setCell (p := ⟨w.heap.size, k, none⟩) (Nat.le_refl _) _⟩
        case measure => simp [intOf]; omega
      · have HK := Lib.hid (show k = n' by omega)
        have hY := Blk.byt HBl.out (by unfold addIn; simp) (show n' ≤ maxLen by unfold maxLen; omega)
        have HY := Lib.hid hY
        have hl1 : (addIn p q n' k).length ≤ 1048576 := by unfold addIn; simp; omega
        clear hY hbk hb
        go_wp2_with (go_at_call 51; refine (trim_b _ _ n' n' (addIn p q n' k) HY.out hl1).mono ?_; rintro e w1 ⟨v, rfl, hown1, hb1⟩)
        go_ret
        refine ⟨v, rfl, ?_, HB.out.trans (hb1.mono HB.out.size)⟩
        unfold padd
        have e : addTo p q (max p.length q.length) = addIn p q n' k := by rw [HK.out]; exact HE.out.symm
        rw [e]
        exact own_mono hown1 HB.out.size
  · have hmk := run_make_blk (P := Try.prog) w 45 5 i0 (.int .u8 0) Try.underlying45 hi hz0 .i64 .i64 n (by rw [hz2]; omega) (by omega)
    rw [hz1] at hmk
    have hblk0 := Blk.new w 5 (madeCells (Value.int .u8 0).cells (n * 1))
    have hmt := made_bytes n
    generalize madeCells (Value.int .u8 0).cells (n * 1) = mc at *
    have HMT := Lib.hid (show mc = (bv (List.replicate n 0)).toArray by rw [← hmt])
    have HBK := Lib.hid hblk0
    have HQ0 := Lib.hid (H'.out.alloc (.cells mc 5))
    have HP0 := Lib.hid (H.out.alloc (.cells mc 5))
    have HE := Lib.hid (show addIn p q n n' = addTo p q (max p.length q.length) by rw [HN'.out, ← addIn_end, ← HN.out, ← HN'.out]; congr 1; omega)
    have HI0 := Lib.hid (splice_start p q (m := n) (by rw [← HN.out]; omega))
    clear hmt hblk0 hi hz0 hz1 hz2
    go_enter Try.func38, Try.ntmps38
    go_wp2_with (refine wpList_copy_splice rfl (.tmp 13) (.tmp 14) 45 45 rfl 5 Try.underlying45 size_u8 (some ⟨w.heap.size, 0, none⟩) A n n n c rfl rfl w.heap.size 0 (bv (List.replicate n 0)) 5 (by rw [← HMT.out]; exact HBK.out) (bv p) (by rw [bv_length, ← HN.out]; exact (Nat.min_eq_left (by omega)).symm) (fun hpos => ⟨rfl, src_cells HP0.out hpos⟩) (by rw [bv_length, bv_length, List.length_replicate, ← HN.out]; omega) (bv_one p) w.heap.size _ (Below.refl _ _) (Nat.le_refl _) ?_; intro w1 hblk1 hb1)
    have HB1 := Lib.hid (((Below.refl w.heap.size w).alloc (Nat.le_refl _) (.cells mc 5)).trans hb1)
    clear hb1 hmk
    go_loopw [18] (fun i wr => ∃ k : Nat, k ≤ n' ∧ i = .int .i64 (k : Int) ∧ Blk wr w.heap.size 5 (bv (addIn p q n k)).toArray ∧ Below w.heap.size w wr) (fun i _ => n' - (intOf i).toNat)
    case atStart => exact ⟨0, by omega, rfl, by rw [← HI0.out]; exact hblk1, HB1.out⟩
    case round =>
      obtain ⟨k, hk, rfl, hbk, hb⟩ := hrel
      clear hblk1 HB1
      have HBl := Lib.hid hbk
      have HB := Lib.hid hb
      have hQ := Lib.hid (H'.out.below hb)
      by_cases hlt : k < n'
      · have hj : k < q.length := by rw [← HN'.out]; omega
        have hkm : k < n := by omega
        have hc1 := hbk.cell k
        have hf1 := hbk.frozen k
        rw [addIn_cell p q hkm] at hc1
        obtain ⟨ad, rfl, _, hc⟩ := Byt.at_ hQ.out hj
        have HS := Lib.hid (addIn_succ p (q := q) (m := n) hj)
        clear hbk hb
        go_wp2
        refine wp_region_still_tail 12 (by kernel_rfl) (by kernel_rfl) ?_
        simp only [List.take_succ_cons, List.take_zero, List.drop_succ_cons, List.drop_zero]
        repeat (first | still_step | still_call (gadd_b _ _ _))
        refine wpStill_nil ?_
        change wpList _ _ _ _ _ wr.drew
        go_wp2
        go_roundw
        case rel => exact ⟨k + 1, by omega, by go_num, by rw [HS.out, bv_set]; exact HBl.out.drew.set_ k _, HB.out.drew.setCell (p := ⟨w.heap.size, k, none⟩) (Nat.le_refl _) _⟩
        case measure => simp [intOf]; omega
      · have HK := Lib.hid (show k = n' by omega)
        have hY := Blk.byt HBl.out (by unfold addIn; simp) (show n ≤ maxLen by unfold maxLen; omega)
        have HY := Lib.hid hY
        have hl1 : (addIn p q n k).length ≤ 1048576 := by unfold addIn; simp; omega
        clear hY hbk hb
        go_wp2_with (go_at_call 51; refine (trim_b _ _ n n (addIn p q n k) HY.out hl1).mono ?_; rintro e w1 ⟨v, rfl, hown1, hb1⟩)
        go_ret
        refine ⟨v, rfl, ?_, HB.out.trans (hb1.mono HB.out.size)⟩
        unfold padd
        have e : addTo p q (max p.length q.length) = addIn p q n k := by rw [HK.out]; exact HE.out.symm
        rw [e]
        exact own_mono hown1 HB.out.size
end Go.Proofs.Ytpljpceldlaphaa
