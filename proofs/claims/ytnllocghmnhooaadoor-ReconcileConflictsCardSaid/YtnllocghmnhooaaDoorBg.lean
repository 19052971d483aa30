/- BLAKE2s: the program's Sum of one string. -/
import Derived.Test.YtnllocghmnhooaaDoorBd
import Derived.Test.YtnllocghmnhooaaDoorBf
import Derived.Test.YtnllocghmnhooaaDoorSh
import Derived.Deep.RegionHeld3
namespace Go.Proofs.YtnllocghmnhooaaDoor
open Go.RowKit
set_option linter.unusedVariables false
namespace Bk

def CompPost (w : World) (h : List Int) (b : List UInt8) (t : Int) (last : Bool) (e : Ending) (w' : World) : Prop :=
  ∃ c0 c1 c2 c3 c4 c5 c6 c7 : Int, Hid (comp h b t last = [c0, c1, c2, c3, c4, c5, c6, c7]) ∧ e = .returned (.tuple #[.agg #[.int .u32 c0, .int .u32 c1, .int .u32 c2, .int .u32 c3, .int .u32 c4, .int .u32 c5, .int .u32 c6, .int .u32 c7], .int .i64 0]) ∧ Below w.heap.size w w'
theorem compress_x (w : World) (h0 h1 h2 h3 h4 h5 h6 h7 : Int) (hw : Ws [h0, h1, h2, h3, h4, h5, h6, h7]) (s : ByteArray) (hs : s.size = 64) (t : Nat) (ht : t < 18446744073709551616) (last : Bool) :
    Calls Tryd.prog 68 #[.agg #[.int .u32 h0, .int .u32 h1, .int .u32 h2, .int .u32 h3, .int .u32 h4, .int .u32 h5, .int .u32 h6, .int .u32 h7], .string s, .int .u64 (t : Int), .bool last] w (CompPost w [h0, h1, h2, h3, h4, h5, h6, h7] (bl s) t last) :=
  (compress_f w h0 h1 h2 h3 h4 h5 h6 h7 hw s hs t ht last).mono fun e w' ⟨p1, p2⟩ => by
    obtain ⟨c0, c1, c2, c3, c4, c5, c6, c7, hc⟩ := eight (l := comp [h0, h1, h2, h3, h4, h5, h6, h7] (bl s) t last) (by rw [comp_len]; rfl)
    refine ⟨c0, c1, c2, c3, c4, c5, c6, c7, Lib.hid hc, ?_, p2⟩
    rw [p1]
    show Ending.returned (.tuple #[.agg (iw (comp [h0, h1, h2, h3, h4, h5, h6, h7] (bl s) t last)), .int .i64 0]) = _
    rw [hc]
    rfl
theorem bl_cut (d : ByteArray) (n m : Nat) : bl (d.extract n m) = ((bl d).drop n).take (m - n) := by
  simp [bl, ByteArray.data_extract]
theorem repeatL_one (x : UInt8) : ∀ k : Nat, Lib.repeatL [x] k = List.replicate k x
  | 0 => rfl
  | k + 1 => by
    show [x] ++ Lib.repeatL [x] k = _
    rw [repeatL_one x k, List.replicate_succ]
    rfl
theorem rep0_f (k : Nat) (hk : k ≤ 64) (V : World) : Calls Tryd.prog 56 #[.string ⟨#[0]⟩, .int .i64 (k : Int)] V fun e w' => e = .returned (.string (ofL (List.replicate k 0))) ∧ Below V.heap.size V w' :=
  (Tryd.strings_Repeat _ k V (by omega) (by show 1 * k ≤ _; omega)).mono fun e w' ⟨h1, h2⟩ => ⟨by rw [h1]; congr 2; show (⟨(Lib.repeatL [0] k).toArray⟩ : ByteArray) = _; rw [repeatL_one]; rfl, h2⟩
theorem run_index_8 (w : World) (c0 c1 c2 c3 c4 c5 c6 c7 : Int) {k : Nat} (h : k < 8) : (Instr.index 89 (.agg #[.int .u32 c0, .int .u32 c1, .int .u32 c2, .int .u32 c3, .int .u32 c4, .int .u32 c5, .int .u32 c6, .int .u32 c7]) (.int .i64 (k : Int))).run Tryd.prog w = .ok (.int .u32 ([c0, c1, c2, c3, c4, c5, c6, c7].getD k 0)) w := by
  match k, h with
  | 0, _ => (show _ = _; kernel_rfl)
  | 1, _ => (show _ = _; kernel_rfl)
  | 2, _ => (show _ = _; kernel_rfl)
  | 3, _ => (show _ = _; kernel_rfl)
  | 4, _ => (show _ = _; kernel_rfl)
  | 5, _ => (show _ = _; kernel_rfl)
  | 6, _ => (show _ = _; kernel_rfl)
  | 7, _ => (show _ = _; kernel_rfl)
theorem src4 {W : World} {g : Nat} {x : Int} (h : Blk W g 5 #[.int .u8 (x % 256), .int .u8 (x / 256 % 256), .int .u8 (x / 65536 % 256), .int .u8 (x / 16777216 % 256)]) : Sl W 1 (some ⟨g, 0, none⟩) 4 4 (bv (outw x)) := by
  have := Blk.sl (n := 4) (size := 1) h rfl (by unfold maxLen; omega)
  have e : bv (outw x) = [.int .u8 (x % 256), .int .u8 (x / 256 % 256), .int .u8 (x / 65536 % 256), .int .u8 (x / 16777216 % 256)] := by
    simp [bv, outw, B, byte_nat]
  rw [e]
  exact this
theorem info_u8 : (Tryd.prog.info? 5).map (fun i => (i.zero, i.size, i.bytes)) = some (some (.int .u8 0), 1, 1) := by kernel_rfl
/-- the block of eight words -/
def Hs (w W : World) (g : Nat) (h : List Int) : Prop := Blk W g 89 (iw h) ∧ w.heap.size ≤ g ∧ Below w.heap.size w W
theorem Hs.below {w W W' : World} {g : Nat} {h : List Int} (k : Hs w W g h) (hb : Below W.heap.size W W') : Hs w W' g h := ⟨k.1.below hb, k.2.1, k.2.2.trans (hb.mono k.2.2.size)⟩
theorem Hs.set8 {w W : World} {g : Nat} {h0 h1 h2 h3 h4 h5 h6 h7 : Int} (k : Hs w W g [h0, h1, h2, h3, h4, h5, h6, h7]) (c0 c1 c2 c3 c4 c5 c6 c7 : Int) :
    Hs w ((((((((W.setCell ⟨g, 0, none⟩ (.int .u32 c0)).setCell ⟨g, 1, none⟩ (.int .u32 c1)).setCell ⟨g, 2, none⟩ (.int .u32 c2)).setCell ⟨g, 3, none⟩ (.int .u32 c3)).setCell ⟨g, 4, none⟩ (.int .u32 c4)).setCell ⟨g, 5, none⟩ (.int .u32 c5)).setCell ⟨g, 6, none⟩ (.int .u32 c6)).setCell ⟨g, 7, none⟩ (.int .u32 c7)) g [c0, c1, c2, c3, c4, c5, c6, c7] :=
  ⟨blk8_set (blk8_set (blk8_set (blk8_set (blk8_set (blk8_set (blk8_set (blk8_set k.1 0 c0) 1 c1) 2 c2) 3 c3) 4 c4) 5 c5) 6 c6) 7 c7, k.2.1,
    (((((((k.2.2.setCell (p := ⟨g, 0, none⟩) k.2.1 _).setCell (p := ⟨g, 1, none⟩) k.2.1 _).setCell (p := ⟨g, 2, none⟩) k.2.1 _).setCell (p := ⟨g, 3, none⟩) k.2.1 _).setCell (p := ⟨g, 4, none⟩) k.2.1 _).setCell (p := ⟨g, 5, none⟩) k.2.1 _).setCell (p := ⟨g, 6, none⟩) k.2.1 _).setCell (p := ⟨g, 7, none⟩) k.2.1 _⟩

set_option maxRecDepth 100000 in
set_option maxHeartbeats 4000000 in
theorem sum_one (w : World) (g : Nat) (s : ByteArray) (h : Blk w g 9 #[.string s]) (hs : s.size ≤ 1000000) :
    Calls Tryd.prog 52 #[.slice (some ⟨g, 0, none⟩) 1 1] w fun e w' => e = .returned (.string (ofL (blake (bl s)))) ∧ Below w.heap.size w w' := by
  have HJ := Lib.hid (Tryd.strings_Join g 0 1 [s] ⟨#[]⟩ w (fun j x hj => by
    rw [h.cell]
    match j, hj with
    | 0, hj => simpa using hj) h.lt (by simp) (Nat.le_refl _) (by simpa [Lib.join] using (show s.size ≤ 140737488355328 by omega)))
  have hjn : (⟨(Lib.join ([s].map (·.data.toList)) (⟨#[]⟩ : ByteArray).data.toList).toArray⟩ : ByteArray) = s := by simp [Lib.join]
  rw [hjn] at HJ
  clear hjn h
  go_enter Tryd.func52, Tryd.ntmps52
  go_wp2_with fail
  refine HJ.out.mono ?_
  rintro e w1 ⟨rfl, hb1⟩
  have HB1 := Lib.hid hb1
  clear hb1
  go_wp2_with fail
  refine (initial_f _).mono ?_
  rintro e w2 ⟨rfl, hb2⟩
  have HB2 := Lib.hid (HB1.out.trans (hb2.mono HB1.out.size))
  clear hb2 HB1
  go_wp2_with fail
  have HS0 := Lib.hid (show Hs w (w2.alloc (.cells (iw hst) 89)) w2.heap.size hst from ⟨Blk.new _ _ _, HB2.out.size, HB2.out.alloc HB2.out.size _⟩)
  obtain ⟨w3, hw3⟩ : ∃ w3, w3 = w2.alloc (.cells (iw hst) 89) := ⟨_, rfl⟩
  rw [← hw3] at HS0
  change w3 = w2.alloc (.cells #[.int .u32 (bits .xor .u32 1779033703 16842784), .int .u32 3144134277, .int .u32 1013904242, .int .u32 2773480762, .int .u32 1359893119, .int .u32 2600822924, .int .u32 528734635, .int .u32 1541459225] 89) at hw3
  rw [← hw3]
  clear hw3 HB2
  obtain ⟨gh, hgh⟩ : ∃ gh, gh = w2.heap.size := ⟨_, rfl⟩
  rw [← hgh] at HS0
  rw [← hgh]
  clear hgh
  obtain ⟨D, hD⟩ : ∃ D, D = dig (bl s) hst 0 := ⟨_, rfl⟩
  have HD := Lib.hid hD
  clear hD
  go_loopw [5] (fun x W => ∃ (n : Nat) (x0 x1 x2 x3 x4 x5 x6 x7 : Int), n ≤ s.size ∧ x = .int .i64 (n : Int) ∧ Hid (Hs w W gh [x0, x1, x2, x3, x4, x5, x6, x7]) ∧ Hid (Ws [x0, x1, x2, x3, x4, x5, x6, x7]) ∧ Hid (dig ((bl s).drop n) [x0, x1, x2, x3, x4, x5, x6, x7] n = D)) (fun x _ => s.size - (intOf x).toNat)
  case atStart => exact ⟨0, _, _, _, _, _, _, _, _, by omega, rfl, HS0, Lib.hid hst_ws, Lib.hid (by rw [HD.out]; rfl)⟩
  case round =>
    obtain ⟨n, x0, x1, x2, x3, x4, x5, x6, x7, hn, rfl, HS, HW, HG⟩ := hrel
    clear HS0
    by_cases hm : n + 64 < s.size
    · obtain ⟨m, hmn⟩ : ∃ m, m = n + 64 := ⟨_, rfl⟩
      have v1 : IntKind.i64.wrap ((n : Int) + 64) = (m : Int) := by rw [wrap64_id (by omega) (by omega)]; omega
      have v2 : IntKind.u64.wrap (m : Int) = (m : Int) := by rw [IntKind.wrap_u64]; omega
      have l1 : (m : Int) ≤ (s.size : Int) := by omega
      have l2 : (n : Int) ≤ (m : Int) := by omega
      have l3 : (64 : Int) < (s.size : Int) - (n : Int) := by omega
      have hml : m < 18446744073709551616 := by omega
      have hse : (s.extract n m).size = 64 := by rw [ByteArray.size_extract]; omega
      have l4 : n < m := by omega
      have HMN := Lib.hid hmn
      have HC := Lib.hid (bl_cut s n m)
      have HDM := Lib.hid (dig_more (l := (bl s).drop n) (by rw [List.length_drop, bl_len]; omega) [x0, x1, x2, x3, x4, x5, x6, x7] n)
      have HSE := Lib.hid hse
      clear hmn hse
      have e0 : wr.cell? ⟨gh, 0, none⟩ = some (.int .u32 x0) := HS.out.1.cell 0
      have e1 : wr.cell? ⟨gh, 1, none⟩ = some (.int .u32 x1) := HS.out.1.cell 1
      have e2 : wr.cell? ⟨gh, 2, none⟩ = some (.int .u32 x2) := HS.out.1.cell 2
      have e3 : wr.cell? ⟨gh, 3, none⟩ = some (.int .u32 x3) := HS.out.1.cell 3
      have e4 : wr.cell? ⟨gh, 4, none⟩ = some (.int .u32 x4) := HS.out.1.cell 4
      have e5 : wr.cell? ⟨gh, 5, none⟩ = some (.int .u32 x5) := HS.out.1.cell 5
      have e6 : wr.cell? ⟨gh, 6, none⟩ = some (.int .u32 x6) := HS.out.1.cell 6
      have e7 : wr.cell? ⟨gh, 7, none⟩ = some (.int .u32 x7) := HS.out.1.cell 7
      have HCP := Lib.hid (compress_x wr.drew x0 x1 x2 x3 x4 x5 x6 x7 HW.out (s.extract n m) HSE.out m hml false)
      have HSD := Lib.hid (show Hs w wr.drew gh [x0, x1, x2, x3, x4, x5, x6, x7] from ⟨HS.out.1.drew, HS.out.2.1, HS.out.2.2.drew⟩)
      clear e0 e1 e2 e3 e4 e5 e6 e7
      have e0 : wr.drew.cell? ⟨gh, 0, none⟩ = some (.int .u32 x0) := HSD.out.1.cell 0
      have e1 : wr.drew.cell? ⟨gh, 1, none⟩ = some (.int .u32 x1) := HSD.out.1.cell 1
      have e2 : wr.drew.cell? ⟨gh, 2, none⟩ = some (.int .u32 x2) := HSD.out.1.cell 2
      have e3 : wr.drew.cell? ⟨gh, 3, none⟩ = some (.int .u32 x3) := HSD.out.1.cell 3
      have e4 : wr.drew.cell? ⟨gh, 4, none⟩ = some (.int .u32 x4) := HSD.out.1.cell 4
      have e5 : wr.drew.cell? ⟨gh, 5, none⟩ = some (.int .u32 x5) := HSD.out.1.cell 5
      have e6 : wr.drew.cell? ⟨gh, 6, none⟩ = some (.int .u32 x6) := HSD.out.1.cell 6
      have e7 : wr.drew.cell? ⟨gh, 7, none⟩ = some (.int .u32 x7) := HSD.out.1.cell 7
      go_wp2_with fail
      go_region_with (first | (go_at_call 68; (with_reducible refine HCP.out.mono ?_); rintro e w4 ⟨c0, c1, c2, c3, c4, c5, c6, c7, HCC, rfl, hb⟩; have HS4 := Lib.hid (HSD.out.below hb); clear hb; have k0 : w4.cell? ⟨gh, 0, none⟩ = some (.int .u32 x0) := HS4.out.1.cell 0; have k1 : w4.cell? ⟨gh, 1, none⟩ = some (.int .u32 x1) := HS4.out.1.cell 1; have k2 : w4.cell? ⟨gh, 2, none⟩ = some (.int .u32 x2) := HS4.out.1.cell 2; have k3 : w4.cell? ⟨gh, 3, none⟩ = some (.int .u32 x3) := HS4.out.1.cell 3; have k4 : w4.cell? ⟨gh, 4, none⟩ = some (.int .u32 x4) := HS4.out.1.cell 4; have k5 : w4.cell? ⟨gh, 5, none⟩ = some (.int .u32 x5) := HS4.out.1.cell 5; have k6 : w4.cell? ⟨gh, 6, none⟩ = some (.int .u32 x6) := HS4.out.1.cell 6; have k7 : w4.cell? ⟨gh, 7, none⟩ = some (.int .u32 x7) := HS4.out.1.cell 7; have f0 := HS4.out.1.frozen 0; have f1 := HS4.out.1.frozen 1; have f2 := HS4.out.1.frozen 2; have f3 := HS4.out.1.frozen 3; have f4 := HS4.out.1.frozen 4; have f5 := HS4.out.1.frozen 5; have f6 := HS4.out.1.frozen 6; have f7 := HS4.out.1.frozen 7))
      go_wp2_with fail
      go_roundw
      case rel => exact ⟨m, c0, c1, c2, c3, c4, c5, c6, c7, by omega, by go_num, Lib.hid (HS4.out.set8 c0 c1 c2 c3 c4 c5 c6 c7), Lib.hid (by rw [← HCC.out]; exact comp_ws HW.out _ _ _), Lib.hid (by
        have := HG.out
        rw [HDM.out, List.drop_drop] at this
        rw [← HCC.out, HC.out, HMN.out, show n + 64 - n = 64 by omega]
        exact this)⟩
      case measure => simp [intOf]; omega
    · obtain ⟨c, hc⟩ : ∃ c, c = 64 - (s.size - n) := ⟨_, rfl⟩
      obtain ⟨q, hq⟩ : ∃ q, q = s.size - n := ⟨_, rfl⟩
      have v0 : IntKind.i64.wrap ((s.size : Int) - (n : Int)) = (q : Int) := by rw [wrap64_id (by omega) (by omega)]; omega
      have v1 : IntKind.i64.wrap (64 - (q : Int)) = (c : Int) := by rw [wrap64_id (by omega) (by omega)]; omega
      have v2 : IntKind.u64.wrap (s.size : Int) = (s.size : Int) := by rw [IntKind.wrap_u64]; omega
      have l1 : (s.size : Int) - (n : Int) ≤ 64 := by omega
      obtain ⟨b, hb⟩ : ∃ b : ByteArray, b = s.extract n s.size ++ ofL (List.replicate c 0) := ⟨_, rfl⟩
      have hbb : bl b = (bl s).drop n ++ List.replicate c 0 := by
        rw [hb, bl_app, bl_cut, bl_ofL, List.take_of_length_le (by rw [List.length_drop, bl_len]; omega)]
      have HBS := Lib.hid (show b.size = 64 by rw [← bl_len, hbb, List.length_append, List.length_drop, bl_len, List.length_replicate]; omega)
      have HDL := Lib.hid (show comp [x0, x1, x2, x3, x4, x5, x6, x7] (bl b) (s.size : Int) true = D by
        have := HG.out
        rw [dig_last (by rw [List.length_drop, bl_len]; omega), List.length_drop, bl_len, ← hc, ← hbb, show n + (s.size - n) = s.size by omega] at this
        exact this)
      have HRP := Lib.hid (fun V => rep0_f c (by omega) V)
      have hz1 : (s.extract n s.size).size ≤ 64 := by rw [ByteArray.size_extract]; omega
      have hz2 : (ofL (List.replicate c 0)).size ≤ 64 := by show (List.replicate c 0).toArray.size ≤ _; simp; omega
      obtain ⟨y1, hy1⟩ : ∃ y, s.extract n s.size = y := ⟨_, rfl⟩
      obtain ⟨y2, hy2⟩ : ∃ y, ofL (List.replicate c 0) = y := ⟨_, rfl⟩
      rw [hy1] at hz1 hb
      rw [hy2] at hz2 HRP hb
      have hby : y1 ++ y2 = b := hb.symm
      have hyg : ¬ 9223372036854775807 < y1.size + y2.size := by omega
      clear hy2
      have hss : s.size < 18446744073709551616 := by omega
      have hnI : (n : Int) ≤ (s.size : Int) := by omega
      have hqI : (q : Int) ≤ 64 := by omega
      clear hc hbb hb HG hq
      go_wp2_with fail
      go_region_with (first | (go_at_call 56; (with_reducible refine (HRP.out _).mono ?_); rintro e w4 ⟨rfl, hb4⟩; have HS4 := Lib.hid (Hs.below (W := wr.drew) ⟨HS.out.1.drew, HS.out.2.1, HS.out.2.2.drew⟩ hb4); clear hb4))
      all_goals
        clear HS
        have e0 : w4.cell? ⟨gh, 0, none⟩ = some (.int .u32 x0) := HS4.out.1.cell 0
        have e1 : w4.cell? ⟨gh, 1, none⟩ = some (.int .u32 x1) := HS4.out.1.cell 1
        have e2 : w4.cell? ⟨gh, 2, none⟩ = some (.int .u32 x2) := HS4.out.1.cell 2
        have e3 : w4.cell? ⟨gh, 3, none⟩ = some (.int .u32 x3) := HS4.out.1.cell 3
        have e4 : w4.cell? ⟨gh, 4, none⟩ = some (.int .u32 x4) := HS4.out.1.cell 4
        have e5 : w4.cell? ⟨gh, 5, none⟩ = some (.int .u32 x5) := HS4.out.1.cell 5
        have e6 : w4.cell? ⟨gh, 6, none⟩ = some (.int .u32 x6) := HS4.out.1.cell 6
        have e7 : w4.cell? ⟨gh, 7, none⟩ = some (.int .u32 x7) := HS4.out.1.cell 7
        go_wp2_with fail
        refine (compress_x _ x0 x1 x2 x3 x4 x5 x6 x7 HW.out b HBS.out s.size hss true).mono ?_
        rintro e w5 ⟨c0, c1, c2, c3, c4, c5, c6, c7, HCC, rfl, hb⟩
        have HS5 := Lib.hid (HS4.out.below hb)
        clear hb HS4 e0 e1 e2 e3 e4 e5 e6 e7
        have e0 : w5.cell? ⟨gh, 0, none⟩ = some (.int .u32 x0) := HS5.out.1.cell 0
        have e1 : w5.cell? ⟨gh, 1, none⟩ = some (.int .u32 x1) := HS5.out.1.cell 1
        have e2 : w5.cell? ⟨gh, 2, none⟩ = some (.int .u32 x2) := HS5.out.1.cell 2
        have e3 : w5.cell? ⟨gh, 3, none⟩ = some (.int .u32 x3) := HS5.out.1.cell 3
        have e4 : w5.cell? ⟨gh, 4, none⟩ = some (.int .u32 x4) := HS5.out.1.cell 4
        have e5 : w5.cell? ⟨gh, 5, none⟩ = some (.int .u32 x5) := HS5.out.1.cell 5
        have e6 : w5.cell? ⟨gh, 6, none⟩ = some (.int .u32 x6) := HS5.out.1.cell 6
        have e7 : w5.cell? ⟨gh, 7, none⟩ = some (.int .u32 x7) := HS5.out.1.cell 7
        have f0 := HS5.out.1.frozen 0
        have f1 := HS5.out.1.frozen 1
        have f2 := HS5.out.1.frozen 2
        have f3 := HS5.out.1.frozen 3
        have f4 := HS5.out.1.frozen 4
        have f5 := HS5.out.1.frozen 5
        have f6 := HS5.out.1.frozen 6
        have f7 := HS5.out.1.frozen 7
        go_wp2_with fail
        have HS6 := Lib.hid (HS5.out.set8 c0 c1 c2 c3 c4 c5 c6 c7)
        have HDC := Lib.hid (HCC.out.symm.trans HDL.out)
        clear e0 e1 e2 e3 e4 e5 e6 e7 f0 f1 f2 f3 f4 f5 f6 f7 HS5 HCC HDL
        generalize ((((((((w5.setCell ⟨gh, 0, none⟩ (.int .u32 c0)).setCell ⟨gh, 1, none⟩ (.int .u32 c1)).setCell ⟨gh, 2, none⟩ (.int .u32 c2)).setCell ⟨gh, 3, none⟩ (.int .u32 c3)).setCell ⟨gh, 4, none⟩ (.int .u32 c4)).setCell ⟨gh, 5, none⟩ (.int .u32 c5)).setCell ⟨gh, 6, none⟩ (.int .u32 c6)).setCell ⟨gh, 7, none⟩ (.int .u32 c7)) = w6 at *
        obtain ⟨i0, hi', hz0, hz1, hz2⟩ := info_parts info_u8
        have hmk := run_make (P := Tryd.prog) w6 71 5 i0 (.int .u8 0) Tryd.underlying71 hi' hz0 .i64 .i64 0 32 (by omega) (by omega) (by rw [hz2]; decide) (by omega)
        rw [hmk]
        simp only [Result.andThen_ok, hz1]
        clear hmk
        have HS7 := Lib.hid (show Hs w (w6.alloc (.cells (madeCells (Value.int .u8 0).cells ((32 : Int).toNat * 1)) 5)) gh [c0, c1, c2, c3, c4, c5, c6, c7] from ⟨HS6.out.1.alloc _, HS6.out.2.1, HS6.out.2.2.alloc HS6.out.2.2.size _⟩)
        have HO7 := Lib.hid (show World.ownsRow (w6.alloc (.cells (madeCells (Value.int .u8 0).cells ((32 : Int).toNat * 1)) 5)) (gh + 1) 5 1 (.slice (some ⟨w6.heap.size, 0, none⟩) 0 32) 0 [] from
          ⟨by simp, .inr ⟨w6.heap.size, 32, _, rfl, HS6.out.1.lt, heap_alloc_new w6 _, by omega, by unfold maxLen; omega, by show (madeCells (Value.int .u8 0).cells (32 * 1)).size = 32 * 1; rw [← Array.length_toList, made_bytes]; simp [bv], by simp⟩⟩)
        have hgl : gh < w6.heap.size := HS6.out.1.lt
        simp only [show (0 : Int).toNat = 0 from rfl, show (32 : Int).toNat = 32 from rfl] at HS7 HO7 ⊢
        clear HS6
        generalize w6.heap.size = g7 at *
        generalize w6.alloc (.cells (madeCells (Value.int .u8 0).cells (32 * 1)) 5) = w7 at *
        have e0 : w7.cell? ⟨gh, 0, none⟩ = some (.int .u32 c0) := HS7.out.1.cell 0
        have e1 : w7.cell? ⟨gh, 1, none⟩ = some (.int .u32 c1) := HS7.out.1.cell 1
        have e2 : w7.cell? ⟨gh, 2, none⟩ = some (.int .u32 c2) := HS7.out.1.cell 2
        have e3 : w7.cell? ⟨gh, 3, none⟩ = some (.int .u32 c3) := HS7.out.1.cell 3
        have e4 : w7.cell? ⟨gh, 4, none⟩ = some (.int .u32 c4) := HS7.out.1.cell 4
        have e5 : w7.cell? ⟨gh, 5, none⟩ = some (.int .u32 c5) := HS7.out.1.cell 5
        have e6 : w7.cell? ⟨gh, 6, none⟩ = some (.int .u32 c6) := HS7.out.1.cell 6
        have e7 : w7.cell? ⟨gh, 7, none⟩ = some (.int .u32 c7) := HS7.out.1.cell 7
        go_wp2_with fail
        go_loopw [7, 58] (fun y x W => ∃ i : Nat, i ≤ 8 ∧ x = .int .i64 (i : Int) ∧ Hid (Hs w W gh [c0, c1, c2, c3, c4, c5, c6, c7]) ∧ Hid (W.ownsRow (gh + 1) 5 1 y (4 * i) (bv (outs ([c0, c1, c2, c3, c4, c5, c6, c7].take i))))) (fun _ x _ => 8 - (intOf x).toNat)
        case atStart => exact ⟨0, by omega, rfl, HS7, HO7⟩
        case round =>
          obtain ⟨i, hi, rfl, HS8, HO8⟩ := hrel
          clear HS7 HO7
          by_cases hi8 : i < 8
          · go_wp2_with fail
            rw [run_index_8 _ _ _ _ _ _ _ _ _ hi8]
            simp only [Result.andThen_ok]
            obtain ⟨x, hx⟩ : ∃ x, x = [c0, c1, c2, c3, c4, c5, c6, c7].getD i 0 := ⟨_, rfl⟩
            rw [← hx]
            have HX := Lib.hid hx
            clear hx
            have HB8 := Lib.hid (Blk.new wr 5 #[.int .u8 (x % 256), .int .u8 (x / 256 % 256), .int .u8 (x / 65536 % 256), .int .u8 (x / 16777216 % 256)])
            have HOA := Lib.hid (own_alloc HO8.out (.cells #[.int .u8 (x % 256), .int .u8 (x / 256 % 256), .int .u8 (x / 65536 % 256), .int .u8 (x / 16777216 % 256)] 5))
            have HSA := Lib.hid (show Hs w (wr.alloc (.cells #[.int .u8 (x % 256), .int .u8 (x / 256 % 256), .int .u8 (x / 65536 % 256), .int .u8 (x / 16777216 % 256)] 5)) gh [c0, c1, c2, c3, c4, c5, c6, c7] from ⟨HS8.out.1.alloc _, HS8.out.2.1, HS8.out.2.2.alloc HS8.out.2.2.size _⟩)
            have HSL := Lib.hid (src4 HB8.out)
            have HBS2 := Lib.hid (show gh + 1 ≤ (wr.alloc (.cells #[.int .u8 (x % 256), .int .u8 (x / 256 % 256), .int .u8 (x / 65536 % 256), .int .u8 (x / 16777216 % 256)] 5)).heap.size by have := HS8.out.1.lt; rw [asz]; omega)
            have HT := Lib.hid (outs_take (h := [c0, c1, c2, c3, c4, c5, c6, c7]) (k := i) (by simpa using hi8))
            rw [← HX.out] at HT
            go_wp2_with (at_builtin; refine wpl_append_sl _ rfl _ _ _ rfl (gh + 1) 5 i0 (.int .u8 0) 1 1 Tryd.underlying71 hi' hz0 hz1 hz2 rfl (by decide) _ (4 * i) (bv (outs ([c0, c1, c2, c3, c4, c5, c6, c7].take i))) rfl HOA.out (some ⟨wr.heap.size, 0, none⟩) 4 4 (bv (outw x)) rfl HSL.out (bv_one _) (by unfold maxLen; omega) (by omega) HBS2.out ?_; intro v' w8 hown hgrow _)
            have HO9 := Lib.hid (show w8.ownsRow (gh + 1) 5 1 v' (4 * (i + 1)) (bv (outs ([c0, c1, c2, c3, c4, c5, c6, c7].take (i + 1)))) by rw [HT.out, bv_append]; exact hown)
            have HS9 := Lib.hid (show Hs w w8 gh [c0, c1, c2, c3, c4, c5, c6, c7] from ⟨HSA.out.1.grown hgrow (fun e => by have := (HOA.out.lt gh e.symm).1; omega), HSA.out.2.1, HSA.out.2.2.grown hgrow HSA.out.2.2.size (fun k e => by have := (HOA.out.lt k e).1; have := HS8.out.2.1; omega)⟩)
            clear hown hgrow
            go_wp2_with fail
            go_roundw
            case rel => exact ⟨i + 1, by omega, by go_num, HS9, HO9⟩
            case measure => simp [intOf]; omega
          · have HI8 := Lib.hid (show i = 8 by omega)
            obtain ⟨A, cc, rfl, hby, _⟩ := byt_own HO8.out
            have hcv := run_conv_byt (P := Tryd.prog) hby 71 5 9 Tryd.underlying71 Tryd.underlying5 Tryd.underlying9
            have HR := Lib.hid (show outs ([c0, c1, c2, c3, c4, c5, c6, c7].take i) = blake (bl s) by rw [HI8.out]; unfold blake; rw [← HD.out, ← HDC.out]; rfl)
            rw [HR.out] at hcv
            clear hby
            go_wp2_with fail
            go_ret
            exact ⟨rfl, HS8.out.2.2⟩

end Bk
end Go.Proofs.YtnllocghmnhooaaDoor
