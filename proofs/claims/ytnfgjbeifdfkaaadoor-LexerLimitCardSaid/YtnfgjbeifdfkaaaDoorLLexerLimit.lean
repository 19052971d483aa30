/- The law LexerLimit of stelelaw19 returns true for every input in a world that holds the laid variables. -/
import Derived.Test.YtnfgjbeifdfkaaaDoorTl
namespace Go.Proofs.YtnfgjbeifdfkaaaDoor
namespace LexerLimit
open Go.RowKit Lx

/-- blanks so far, then zeros -/
def bz (n k : Nat) : Bs := List.replicate k 32 ++ List.replicate (n - k) 0
theorem bz_len {n k : Nat} (h : k ≤ n) : (bz n k).length = n := by unfold bz; simp; omega
theorem bz_set {n k : Nat} (h : k < n) : (bz n k).set k 32 = bz n (k + 1) := by
  unfold bz
  rw [List.set_append_right _ _ (by simp), List.length_replicate, Nat.sub_self, show n - k = (n - (k + 1)) + 1 by omega, List.replicate_succ, List.set_cons_zero, List.replicate_succ', List.append_assoc]
  rfl
theorem byt_blk {W : World} {g : Nat} {l : Bs} (h : Blk W g 5 (bv l).toArray) (hl : l.length ≤ maxLen) : Byt W (some ⟨g, 0, none⟩) l.length l.length l := by
  have := Blk.sl (n := l.length) (size := 1) h (by simp [bv]) hl
  simpa [Byt] using this
theorem blk_byte {W : World} {g : Nat} {l : Bs} (h : Blk W g 5 (bv l).toArray) (k : Nat) (c : UInt8) : Blk (W.setCell ⟨g, k, none⟩ (.int .u8 (c.toNat : Int))) g 5 (bv (l.set k c)).toArray := by
  have := h.set_ k (.int .u8 (c.toNat : Int))
  rw [List.setIfInBounds_toArray] at this
  unfold bv at this ⊢
  rw [List.map_set]
  exact this
theorem cell_byte {W : World} {g : Nat} {l : Bs} (h : Blk W g 5 (bv l).toArray) {k : Nat} (hk : k < l.length) : W.cell? ⟨g, k, none⟩ = some (.int .u8 (l[k].toNat : Int)) := by
  rw [h.cell]
  simp [bv, List.getElem?_eq_getElem hk]
  rfl
theorem info_u8 : (Tryd.prog.info? 5).map (fun i => (i.zero, i.size, i.bytes)) = some (some (.int .u8 0), 1, 1) := by kernel_rfl
set_option maxRecDepth 100000 in
set_option maxHeartbeats 2000000 in
theorem core (w : World) (ht : Tab w) (ov : Int) (h0 : -128 ≤ ov) (h1 : ov ≤ 127) (c : Nat) (hc : c < 256) :
    Calls Tryd.prog 3 #[.int .i8 ov, .int .u8 (c : Int)] w fun e w' => e = .returned (.bool true) ∧ Below w.heap.size w w' := by
  have HT := Lib.hid ht
  clear ht
  obtain ⟨n, hn⟩ : ∃ n : Nat, n = (60000 + ov).toNat := ⟨_, rfl⟩
  have v1 : 60000 + ov = (n : Int) := by omega
  have v2 : IntKind.i64.wrap ov = ov := by simp [IntKind.wrap, IntKind.bits, IntKind.signed]; omega
  have hn1 : 59872 ≤ n := by omega
  have hn2 : n ≤ 60127 := by omega
  obtain ⟨i0, hi', hz0, hz1, hz2⟩ := info_parts info_u8
  have hmk := run_make_blk (P := Tryd.prog) w 23 5 i0 (.int .u8 0) Tryd.underlying23 hi' hz0 .i64 .i64 n (by rw [hz2]; omega) (by omega)
  rw [hz1] at hmk
  have HM := Lib.hid hmk
  clear hn hmk
  go_enter Tryd.func3, Tryd.ntmps3
  go_wp2_with fail
  rw [HM.out]
  simp only [Result.andThen_ok]
  have hcells : madeCells (Value.int .u8 0).cells (n * 1) = (bv (bz n 0)).toArray := by
    apply Array.ext'
    rw [made_bytes]
    simp [bz]
  rw [hcells]
  have HK := Lib.hid (Blk.new w 5 (bv (bz n 0)).toArray)
  have HB := Lib.hid ((Below.refl w.heap.size w).alloc (Nat.le_refl _) (.cells (bv (bz n 0)).toArray 5))
  generalize w.alloc (.cells (bv (bz n 0)).toArray 5) = w1 at *
  obtain ⟨g, hg⟩ : ∃ g, g = w.heap.size := ⟨_, rfl⟩
  rw [← hg] at HK ⊢
  have HG := Lib.hid (show w.heap.size ≤ g by omega)
  clear hg hcells HM
  go_wp2_with fail
  go_loopw [21] (fun x W => ∃ k : Nat, k ≤ n ∧ x = .int .i64 (k : Int) ∧ Hid (Blk W g 5 (bv (bz n k)).toArray) ∧ Hid (Below w.heap.size w W)) (fun x _ => n - (intOf x).toNat)
  case atStart => exact ⟨0, by omega, rfl, HK, HB⟩
  case round =>
    obtain ⟨k, hk, rfl, HK, HB⟩ := hrel
    by_cases hkn : k < n
    · have hcell := cell_byte HK.out (k := k) (by rw [bz_len hk]; exact hkn)
      have hfr := HK.out.frozen k
      have HK2 := Lib.hid (show Blk (wr.setCell ⟨g, k, none⟩ (.int .u8 32)) g 5 (bv (bz n (k + 1))).toArray by
        have := blk_byte HK.out k 32
        rw [bz_set hkn] at this
        exact this)
      have HB2 := Lib.hid (HB.out.setCell (p := ⟨g, k, none⟩) HG.out (.int .u8 32))
      go_wp2_with fail
      go_roundw
      case rel => exact ⟨k + 1, by omega, by go_num, HK2, HB2⟩
      case measure => simp [intOf]; omega
    · have HKN := Lib.hid (show k = n by omega)
      rw [HKN.out] at HK
      have hbl : bz n n = List.replicate n 32 := by unfold bz; simp
      by_cases h6 : n ≤ 60000
      · have h6I : (n : Int) ≤ 60000 := by omega
        have hy := byt_blk HK.out (by rw [bz_len (Nat.le_refl _)]; unfold maxLen; omega)
        rw [bz_len (Nat.le_refl _)] at hy
        have cv := run_conv_byt (P := Tryd.prog) hy 23 5 9 Tryd.underlying23 Tryd.underlying5 Tryd.underlying9
        have HX := Lib.hid (show lex (bl (ofL (bz n n))) 1 = .ok [] by rw [bl_ofL, hbl]; exact lex_blanks n 1)
        have hz : (ofL (bz n n)).size ≤ 60000 := by rw [ofL_size, bz_len (Nat.le_refl _)]; exact h6
        obtain ⟨y, hyy⟩ : ∃ y, y = ofL (bz n n) := ⟨_, rfl⟩
        rw [← hyy] at cv HX hz
        clear hyy hbl hy
        go_wp2_with fail
        refine (tokens_ok y hz wr (HT.out.bel HB.out) HX.out).mono ?_
        rintro e w2 ⟨A', c', rfl, _, hb2⟩
        have HB2 := Lib.hid (HB.out.trans (hb2.mono HB.out.size))
        clear hb2
        go_wp2_with fail
        refine (awake_f w2 (HT.out.bel HB2.out)).mono ?_
        rintro e w4 ⟨rfl, hb4⟩
        have HB4 := Lib.hid (HB2.out.trans (hb4.mono HB2.out.size))
        clear hb4
        go_wp2_with fail
        go_ret
        exact ⟨rfl, HB4.out⟩
      · have h6I : ¬ (n : Int) ≤ 60000 := by omega
        have hcell := cell_byte HK.out (k := 0) (by rw [bz_len (Nat.le_refl _)]; omega)
        have hfr := HK.out.frozen 0
        obtain ⟨c8, hc8⟩ : ∃ c8, c8 = UInt8.ofNat c := ⟨_, rfl⟩
        have hcn : (c8.toNat : Int) = (c : Int) := by rw [hc8, UInt8.toNat_ofNat', Nat.mod_eq_of_lt (by omega)]
        have hK2 := blk_byte HK.out 0 c8
        rw [hcn] at hK2
        have hlen : ((bz n n).set 0 c8).length = n := by rw [List.length_set, bz_len (Nat.le_refl _)]
        have hy := byt_blk hK2 (by rw [hlen]; unfold maxLen; omega)
        rw [hlen] at hy
        have cv := run_conv_byt (P := Tryd.prog) hy 23 5 9 Tryd.underlying23 Tryd.underlying5 Tryd.underlying9
        have hz : 60000 < (ofL ((bz n n).set 0 c8)).size := by rw [ofL_size, hlen]; omega
        have HB1 := Lib.hid (HB.out.setCell (p := ⟨g, 0, none⟩) HG.out (.int .u8 (c : Int)))
        obtain ⟨y, hyy⟩ : ∃ y, y = ofL ((bz n n).set 0 c8) := ⟨_, rfl⟩
        rw [← hyy] at cv hz
        have hn0 : (0 : Int) < (n : Int) := by omega
        clear hyy hbl hy hK2 hcn hc8 hlen
        go_wp2_with fail
        refine (tokens_big y hz _).mono ?_
        rintro e w2 ⟨rfl, rfl⟩
        go_wp2_with fail
        refine (awake_f _ (HT.out.bel HB1.out)).mono ?_
        rintro e w4 ⟨rfl, hb4⟩
        have HB4 := Lib.hid (HB1.out.trans (hb4.mono HB1.out.size))
        clear hb4
        go_wp2_with fail
        go_ret
        exact ⟨rfl, HB4.out⟩

end LexerLimit
end Go.Proofs.YtnfgjbeifdfkaaaDoor
