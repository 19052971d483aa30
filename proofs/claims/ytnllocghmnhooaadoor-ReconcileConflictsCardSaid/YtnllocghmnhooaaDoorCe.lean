/- BLAKE2s of the reference: Digest, and Sum of one string. -/
import Derived.Test.YtnllocghmnhooaaDoorCd
import Derived.Test.YtnllocghmnhooaaDoorBh
namespace Go.Proofs.YtnllocghmnhooaaDoor
open Go.RowKit
set_option linter.unusedVariables false
namespace Bk

theorem rcompress_x (w : World) (h0 h1 h2 h3 h4 h5 h6 h7 : Int) (hw : Ws [h0, h1, h2, h3, h4, h5, h6, h7]) (s : ByteArray) (hs : s.size = 64) (t : Nat) (ht : t < 18446744073709551616) (last : Bool) :
    Calls Tryd.prog 63 #[.agg #[.int .u32 h0, .int .u32 h1, .int .u32 h2, .int .u32 h3, .int .u32 h4, .int .u32 h5, .int .u32 h6, .int .u32 h7], .string s, .int .u64 (t : Int), .bool last] w (CompPost w [h0, h1, h2, h3, h4, h5, h6, h7] (bl s) t last) :=
  (rcompress_f w [h0, h1, h2, h3, h4, h5, h6, h7] rfl hw s hs t ht last).mono fun e w' ⟨p1, p2⟩ => by
    obtain ⟨c0, c1, c2, c3, c4, c5, c6, c7, hc⟩ := eight (l := comp [h0, h1, h2, h3, h4, h5, h6, h7] (bl s) t last) (by rw [comp_len]; rfl)
    refine ⟨c0, c1, c2, c3, c4, c5, c6, c7, Lib.hid hc, ?_, p2⟩
    rw [p1]
    show Ending.returned (.tuple #[.agg (iw (comp [h0, h1, h2, h3, h4, h5, h6, h7] (bl s) t last)), .int .i64 0]) = _
    rw [hc]
    rfl
/-- the bytes of the digest, one by one -/
def rout (h : List Int) (i : Nat) : List UInt8 := (List.range i).map fun j => byte (h.getD (j / 4) 0 / 2 ^ (8 * (j % 4)))
theorem rout_succ (h : List Int) (i : Nat) : rout h (i + 1) = rout h i ++ [byte (h.getD (i / 4) 0 / 2 ^ (8 * (i % 4)))] := by
  unfold rout
  rw [List.range_succ, List.map_append]; rfl
theorem rout_len (h : List Int) (i : Nat) : (rout h i).length = i := by simp [rout]
theorem rout_all (a b c d e f g i : Int) : rout [a, b, c, d, e, f, g, i] 32 = outs [a, b, c, d, e, f, g, i] := by
  simp [rout, outs, outw, List.range, List.range.loop]
def szOf : Value → Nat
  | .string b => b.size
  | _ => 0
def dnm (y : Value) (m : Nat) : Nat := match y with
  | .bool true => 0
  | _ => m
theorem pad_succ (y : ByteArray) (k : Nat) : y ++ ofL (List.replicate k 0) ++ ⟨#[0]⟩ = y ++ ofL (List.replicate (k + 1) 0) := by
  rw [← ofL_bl y, show (⟨#[0]⟩ : ByteArray) = ofL [0] from rfl, ofL_append, ofL_append, ofL_append, List.append_assoc, ← List.replicate_succ']
theorem pad_zero (y : ByteArray) : y ++ ofL (List.replicate 0 0) = y := by
  rw [← ofL_bl y, ofL_append]; simp

set_option maxRecDepth 100000 in
set_option maxHeartbeats 4000000 in
theorem rdigest_f (w : World) (s : ByteArray) (hs : s.size ≤ 1000000) :
    Calls Tryd.prog 49 #[.string s] w fun e w' => e = .returned (.string (ofL (blake (bl s)))) ∧ Below w.heap.size w w' := by
  go_enter Tryd.func49, Tryd.ntmps49
  go_wp2_with fail
  refine (rinitial_f _).mono ?_
  rintro e w2 ⟨rfl, hb2⟩
  have HB2 := Lib.hid hb2
  clear hb2
  go_wp2_with fail
  have HS0 := Lib.hid (show Hs w (w2.alloc (.cells (iw hst) 89)) w2.heap.size hst from ⟨Blk.new _ _ _, HB2.out.size, HB2.out.alloc HB2.out.size _⟩)
  obtain ⟨w3, hw3⟩ : ∃ w3, w3 = w2.alloc (.cells (iw hst) 89) := ⟨_, rfl⟩
  rw [← hw3] at HS0
  change w3 = w2.alloc (.cells #[.int .u32 (bits .xor .u32 1779033703 16842784), .int .u32 3144134277, .int .u32 1013904242, .int .u32 2773480762, .int .u32 1359893119, .int .u32 2600822924, .int .u32 528734635, .int .u32 1541459225] 89) at hw3
  rw [← hw3]
  clear hw3 HB2
  obtain ⟨gh, hgh⟩ : ∃ gh, gh = w2.heap.size := ⟨_, rfl⟩
  rw [← hgh] at HS0
  rw [← hgh]
  clear hgh
  obtain ⟨D, hD⟩ : ∃ D, D = dig (bl s) hst 0 := ⟨_, rfl⟩
  have HD := Lib.hid hD
  clear hD
  go_loopw [4, 5] (fun x y W => ∃ (n : Nat) (dn : Bool) (x0 x1 x2 x3 x4 x5 x6 x7 : Int), n ≤ s.size ∧ x = .int .i64 (n : Int) ∧ y = .bool dn ∧ Hid (Hs w W gh [x0, x1, x2, x3, x4, x5, x6, x7]) ∧ Hid (Ws [x0, x1, x2, x3, x4, x5, x6, x7]) ∧ Hid ((if dn = true then [x0, x1, x2, x3, x4, x5, x6, x7] else dig ((bl s).drop n) [x0, x1, x2, x3, x4, x5, x6, x7] n) = D)) (fun x y _ => dnm y (s.size + 1 - (intOf x).toNat))
  case atStart => exact ⟨0, false, _, _, _, _, _, _, _, _, by omega, rfl, rfl, HS0, Lib.hid hst_ws, Lib.hid (by rw [HD.out]; rfl)⟩
  case round =>
    obtain ⟨n, dn, x0, x1, x2, x3, x4, x5, x6, x7, hn, rfl, rfl, HS, HW, HG⟩ := hrel
    clear HS0
    cases dn with
    | false =>
      have HG := Lib.hid (show dig ((bl s).drop n) [x0, x1, x2, x3, x4, x5, x6, x7] n = D from HG.out)
      by_cases hm : n + 64 < s.size
      · obtain ⟨m, hmn⟩ : ∃ m, m = n + 64 := ⟨_, rfl⟩
        have v1 : (n : Int) + 64 = (m : Int) := by omega
        have v2 : IntKind.u64.wrap (m : Int) = (m : Int) := by rw [IntKind.wrap_u64]; omega
        have l1 : (m : Int) ≤ (s.size : Int) := by omega
        have l2 : (n : Int) ≤ (m : Int) := by omega
        have l3 : (64 : Int) < (s.size : Int) - (n : Int) := by omega
        have hml : m < 18446744073709551616 := by omega
        obtain ⟨b, hb⟩ : ∃ b, s.extract n m = b := ⟨_, rfl⟩
        have hse : b.size = 64 := by rw [← hb, ByteArray.size_extract]; omega
        have l4 : n < m := by omega
        have l5 : ((m : Int) == (s.size : Int)) = false := by simp; omega
        have HMN := Lib.hid hmn
        have HC := Lib.hid (show bl b = ((bl s).drop n).take (m - n) by rw [← hb, bl_cut])
        have HDM := Lib.hid (dig_more (l := (bl s).drop n) (by rw [List.length_drop, bl_len]; omega) [x0, x1, x2, x3, x4, x5, x6, x7] n)
        have HSE := Lib.hid hse
        have l6 : ¬ (b.size : Int) < 64 := by omega
        clear hmn hse
        go_wp2_with fail
        go_loop [7] (fun x => x = .string b) (fun _ => 0)
        case atStart => rfl
        case round =>
          obtain rfl := hrel
          have e0 : wr.cell? ⟨gh, 0, none⟩ = some (.int .u32 x0) := HS.out.1.cell 0
          have e1 : wr.cell? ⟨gh, 1, none⟩ = some (.int .u32 x1) := HS.out.1.cell 1
          have e2 : wr.cell? ⟨gh, 2, none⟩ = some (.int .u32 x2) := HS.out.1.cell 2
          have e3 : wr.cell? ⟨gh, 3, none⟩ = some (.int .u32 x3) := HS.out.1.cell 3
          have e4 : wr.cell? ⟨gh, 4, none⟩ = some (.int .u32 x4) := HS.out.1.cell 4
          have e5 : wr.cell? ⟨gh, 5, none⟩ = some (.int .u32 x5) := HS.out.1.cell 5
          have e6 : wr.cell? ⟨gh, 6, none⟩ = some (.int .u32 x6) := HS.out.1.cell 6
          have e7 : wr.cell? ⟨gh, 7, none⟩ = some (.int .u32 x7) := HS.out.1.cell 7
          go_wp2_with fail
          refine (rcompress_x _ x0 x1 x2 x3 x4 x5 x6 x7 HW.out b HSE.out m hml false).mono ?_
          rintro e w4 ⟨c0, c1, c2, c3, c4, c5, c6, c7, HCC, rfl, hb⟩
          have HS4 := Lib.hid (HS.out.below hb)
          clear hb e0 e1 e2 e3 e4 e5 e6 e7
          have e0 : w4.cell? ⟨gh, 0, none⟩ = some (.int .u32 x0) := HS4.out.1.cell 0
          have e1 : w4.cell? ⟨gh, 1, none⟩ = some (.int .u32 x1) := HS4.out.1.cell 1
          have e2 : w4.cell? ⟨gh, 2, none⟩ = some (.int .u32 x2) := HS4.out.1.cell 2
          have e3 : w4.cell? ⟨gh, 3, none⟩ = some (.int .u32 x3) := HS4.out.1.cell 3
          have e4 : w4.cell? ⟨gh, 4, none⟩ = some (.int .u32 x4) := HS4.out.1.cell 4
          have e5 : w4.cell? ⟨gh, 5, none⟩ = some (.int .u32 x5) := HS4.out.1.cell 5
          have e6 : w4.cell? ⟨gh, 6, none⟩ = some (.int .u32 x6) := HS4.out.1.cell 6
          have e7 : w4.cell? ⟨gh, 7, none⟩ = some (.int .u32 x7) := HS4.out.1.cell 7
          have f0 := HS4.out.1.frozen 0
          have f1 := HS4.out.1.frozen 1
          have f2 := HS4.out.1.frozen 2
          have f3 := HS4.out.1.frozen 3
          have f4 := HS4.out.1.frozen 4
          have f5 := HS4.out.1.frozen 5
          have f6 := HS4.out.1.frozen 6
          have f7 := HS4.out.1.frozen 7
          go_wp2_with fail
          go_roundw
          case rel => exact ⟨m, false, c0, c1, c2, c3, c4, c5, c6, c7, by omega, by go_num, rfl, Lib.hid (HS4.out.set8 c0 c1 c2 c3 c4 c5 c6 c7), Lib.hid (by rw [← HCC.out]; exact comp_ws HW.out _ _ _), Lib.hid (by
            have := HG.out
            rw [HDM.out, List.drop_drop] at this
            rw [if_neg (by decide), ← HCC.out, HC.out, HMN.out, show n + 64 - n = 64 by omega]
            exact this)⟩
          case measure => simp [intOf, dnm]; omega
      · obtain ⟨r, hr⟩ : ∃ r, r = s.size - n := ⟨_, rfl⟩
        obtain ⟨z, hz⟩ : ∃ z, z = 64 - r := ⟨_, rfl⟩
        obtain ⟨m, hmn⟩ : ∃ m, m = s.size := ⟨_, rfl⟩
        have v0 : (s.size : Int) - (n : Int) = (r : Int) := by omega
        have v1 : (n : Int) + (r : Int) = (m : Int) := by omega
        have v2 : IntKind.u64.wrap (m : Int) = (m : Int) := by rw [IntKind.wrap_u64]; omega
        have l0 : (r : Int) ≤ 64 := by omega
        have l1 : (m : Int) ≤ (s.size : Int) := by omega
        have l2 : (n : Int) ≤ (m : Int) := by omega
        have hml : m < 18446744073709551616 := by omega
        obtain ⟨y, hy⟩ : ∃ y, s.extract n m = y := ⟨_, rfl⟩
        have hyz : y.size = r := by rw [← hy, ByteArray.size_extract]; omega
        have hbb : bl (y ++ ofL (List.replicate z 0)) = (bl s).drop n ++ List.replicate z 0 := by
          rw [bl_app, ← hy, bl_cut, bl_ofL, List.take_of_length_le (by rw [List.length_drop, bl_len]; omega)]
        have HBS := Lib.hid (show (y ++ ofL (List.replicate z 0)).size = 64 by rw [← bl_len, hbb, List.length_append, List.length_drop, bl_len, List.length_replicate]; omega)
        have HDL := Lib.hid (show comp [x0, x1, x2, x3, x4, x5, x6, x7] (bl (y ++ ofL (List.replicate z 0))) (m : Int) true = D by
          have := HG.out
          rw [dig_last (by rw [List.length_drop, bl_len]; omega), List.length_drop, bl_len, ← hr, ← hz, ← hbb, show n + r = m by omega] at this
          exact this)
        have l5 : ((m : Int) == (s.size : Int)) = true := by simp; omega
        have HYZ := Lib.hid hyz
        have hz64 : r + z = 64 := by omega
        have HMS := Lib.hid hmn
        clear hr hz hmn hyz hbb
        go_wp2_with fail
        go_loop [7] (fun x => ∃ k : Nat, k ≤ z ∧ x = .string (y ++ ofL (List.replicate k 0))) (fun x => 64 - szOf x)
        case atStart => exact ⟨0, by omega, by rw [pad_zero]⟩
        case round =>
          obtain ⟨k, hk, rfl⟩ := hrel
          have HSZ := Lib.hid (show (y ++ ofL (List.replicate k 0)).size = r + k by rw [ByteArray.size_append, HYZ.out, ofL_size, List.length_replicate])
          by_cases hkz : k < z
          · have HPS := Lib.hid (pad_succ y k)
            have hq1 : ((y ++ ofL (List.replicate k 0)).size : Int) < 64 := by rw [HSZ.out]; omega
            obtain ⟨q, hq⟩ : ∃ q, q = y ++ ofL (List.replicate k 0) := ⟨_, rfl⟩
            rw [← hq] at HSZ HPS hq1 ⊢
            clear hq
            go_wp2_with fail
            go_round
            case rel => exact ⟨k + 1, by omega, by rw [HPS.out]⟩
            case measure =>
              have e1 : (q ++ ⟨#[0]⟩).size = q.size + 1 := by rw [ByteArray.size_append]; rfl
              have e2 := HSZ.out
              simp only [szOf, e1]
              omega
          · have HKZ := Lib.hid (show k = z by omega)
            rw [HKZ.out] at HSZ ⊢
            have hq1 : ¬ ((y ++ ofL (List.replicate z 0)).size : Int) < 64 := by rw [HSZ.out]; omega
            obtain ⟨q, hq⟩ : ∃ q, q = y ++ ofL (List.replicate z 0) := ⟨_, rfl⟩
            rw [← hq] at HSZ HBS HDL hq1 ⊢
            clear hq
            have e0 : wr.cell? ⟨gh, 0, none⟩ = some (.int .u32 x0) := HS.out.1.cell 0
            have e1 : wr.cell? ⟨gh, 1, none⟩ = some (.int .u32 x1) := HS.out.1.cell 1
            have e2 : wr.cell? ⟨gh, 2, none⟩ = some (.int .u32 x2) := HS.out.1.cell 2
            have e3 : wr.cell? ⟨gh, 3, none⟩ = some (.int .u32 x3) := HS.out.1.cell 3
            have e4 : wr.cell? ⟨gh, 4, none⟩ = some (.int .u32 x4) := HS.out.1.cell 4
            have e5 : wr.cell? ⟨gh, 5, none⟩ = some (.int .u32 x5) := HS.out.1.cell 5
            have e6 : wr.cell? ⟨gh, 6, none⟩ = some (.int .u32 x6) := HS.out.1.cell 6
            have e7 : wr.cell? ⟨gh, 7, none⟩ = some (.int .u32 x7) := HS.out.1.cell 7
            go_wp2_with fail
            refine (rcompress_x _ x0 x1 x2 x3 x4 x5 x6 x7 HW.out q HBS.out m hml true).mono ?_
            rintro e w4 ⟨c0, c1, c2, c3, c4, c5, c6, c7, HCC, rfl, hb⟩
            have HS4 := Lib.hid (HS.out.below hb)
            clear hb e0 e1 e2 e3 e4 e5 e6 e7
            have e0 : w4.cell? ⟨gh, 0, none⟩ = some (.int .u32 x0) := HS4.out.1.cell 0
            have e1 : w4.cell? ⟨gh, 1, none⟩ = some (.int .u32 x1) := HS4.out.1.cell 1
            have e2 : w4.cell? ⟨gh, 2, none⟩ = some (.int .u32 x2) := HS4.out.1.cell 2
            have e3 : w4.cell? ⟨gh, 3, none⟩ = some (.int .u32 x3) := HS4.out.1.cell 3
            have e4 : w4.cell? ⟨gh, 4, none⟩ = some (.int .u32 x4) := HS4.out.1.cell 4
            have e5 : w4.cell? ⟨gh, 5, none⟩ = some (.int .u32 x5) := HS4.out.1.cell 5
            have e6 : w4.cell? ⟨gh, 6, none⟩ = some (.int .u32 x6) := HS4.out.1.cell 6
            have e7 : w4.cell? ⟨gh, 7, none⟩ = some (.int .u32 x7) := HS4.out.1.cell 7
            have f0 := HS4.out.1.frozen 0
            have f1 := HS4.out.1.frozen 1
            have f2 := HS4.out.1.frozen 2
            have f3 := HS4.out.1.frozen 3
            have f4 := HS4.out.1.frozen 4
            have f5 := HS4.out.1.frozen 5
            have f6 := HS4.out.1.frozen 6
            have f7 := HS4.out.1.frozen 7
            go_wp2_with fail
            go_roundw
            case rel => exact ⟨m, true, c0, c1, c2, c3, c4, c5, c6, c7, by have := HMS.out; omega, by go_num, rfl, Lib.hid (HS4.out.set8 c0 c1 c2 c3 c4 c5 c6 c7), Lib.hid (by rw [← HCC.out]; exact comp_ws HW.out _ _ _), Lib.hid (by rw [if_pos rfl, ← HCC.out]; exact HDL.out)⟩
            case measure => simp [intOf, dnm]; omega
    | true =>
      have HD2 := Lib.hid (show [x0, x1, x2, x3, x4, x5, x6, x7] = D from HG.out)
      clear HG
      go_wp2_with fail
      obtain ⟨i0, hi', hz0, hz1, hz2⟩ := info_parts info_u8
      have HO := Lib.hid (World.ownsRow_nil wr (gh + 1) 5 1)
      obtain ⟨X, hX⟩ : ∃ X, X = [x0, x1, x2, x3, x4, x5, x6, x7] := ⟨_, rfl⟩
      have HXE := Lib.hid hX
      have HXL := Lib.hid (show X.length = 8 by rw [hX]; rfl)
      rw [← hX] at HS HD2
      clear hX
      go_loopw [8, 9] (fun y x W => ∃ i : Nat, i ≤ 32 ∧ x = .int .i64 (i : Int) ∧ Hid (Hs w W gh X) ∧ Hid (W.ownsRow (gh + 1) 5 1 y i (bv (rout X i)))) (fun _ x _ => 32 - (intOf x).toNat)
      case atStart => exact ⟨0, by omega, rfl, HS, HO⟩
      case round =>
        obtain ⟨i, hi, rfl, HS8, HO8⟩ := hrel
        clear HS HO
        by_cases hi32 : i < 32
        · obtain ⟨q, hq⟩ : ∃ q, q = i / 4 := ⟨_, rfl⟩
          obtain ⟨r, hr⟩ : ∃ r, r = i % 4 := ⟨_, rfl⟩
          obtain ⟨e8, he8⟩ : ∃ e, e = 8 * r := ⟨_, rfl⟩
          have q1 : (i : Int) / 4 = (q : Int) := by omega
          have q2 : (i : Int).tdiv 4 = (q : Int) := by rw [Int.tdiv_eq_ediv_of_nonneg (by omega)]; exact q1
          have q3 : (i : Int) % 4 = (r : Int) := by omega
          have q4 : (i : Int).tmod 4 = (r : Int) := by rw [Int.tmod_eq_emod_of_nonneg (by omega)]; exact q3
          have q6 : 8 * (r : Int) = (e8 : Int) := by omega
          have q7 : IntKind.u64.wrap (e8 : Int) = (e8 : Int) := by rw [IntKind.wrap_u64]; omega
          have l1 : (q : Int) < 8 := by omega
          have l3 : (e8 : Int) < 32 := by omega
          have hc := (HS8.out.1.cell q).trans (iw_at (by rw [HXL.out]; omega))
          have HRO := Lib.hid (rout_succ X i)
          obtain ⟨x, hx⟩ : ∃ x, x = X.getD q 0 := ⟨_, rfl⟩
          rw [← hx] at hc
          obtain ⟨y, hy⟩ : ∃ y, y = x / 2 ^ e8 := ⟨_, rfl⟩
          have q8 : x / 2 ^ e8 = y := hy.symm
          have q9 : IntKind.u8.wrap y = y % 256 := by simp [IntKind.wrap, IntKind.bits, IntKind.signed]
          have HRS := Lib.hid (show rout X (i + 1) = rout X i ++ [byte y] by rw [HRO.out, hy, hx, hq, he8, hr])
          clear hq hr he8 hx hy
          have hyb : bv [byte y] = [.int .u8 (y % 256)] := by simp [bv, B, byte_nat]
          have HB8 := Lib.hid (Blk.new wr 5 #[.int .u8 (y % 256)])
          have HOA := Lib.hid (own_alloc HO8.out (.cells #[.int .u8 (y % 256)] 5))
          have HSA := Lib.hid (show Hs w (wr.alloc (.cells #[.int .u8 (y % 256)] 5)) gh X from ⟨HS8.out.1.alloc _, HS8.out.2.1, HS8.out.2.2.alloc HS8.out.2.2.size _⟩)
          have HSL := Lib.hid (show Sl (wr.alloc (.cells #[.int .u8 (y % 256)] 5)) 1 (some ⟨wr.heap.size, 0, none⟩) 1 1 (bv [byte y]) by rw [hyb]; exact Blk.sl (n := 1) (size := 1) HB8.out rfl (by unfold maxLen; omega))
          have HBS2 := Lib.hid (show gh + 1 ≤ (wr.alloc (.cells #[.int .u8 (y % 256)] 5)).heap.size by have := HS8.out.1.lt; rw [asz]; omega)
          clear hyb
          go_wp2_with (at_builtin; refine wpl_append_sl _ rfl _ _ _ rfl (gh + 1) 5 i0 (.int .u8 0) 1 1 Tryd.underlying71 hi' hz0 hz1 hz2 rfl (by decide) _ i (bv (rout X i)) rfl HOA.out (some ⟨wr.heap.size, 0, none⟩) 1 1 (bv [byte y]) rfl HSL.out (bv_one _) (by unfold maxLen; omega) (by omega) HBS2.out ?_; intro v' w8 hown hgrow _)
          have HO9 := Lib.hid (show w8.ownsRow (gh + 1) 5 1 v' (i + 1) (bv (rout X (i + 1))) by rw [HRS.out, bv_append]; exact hown)
          have HS9 := Lib.hid (show Hs w w8 gh X from ⟨HSA.out.1.grown hgrow (fun e => by have := (HOA.out.lt gh e.symm).1; omega), HSA.out.2.1, HSA.out.2.2.grown hgrow HSA.out.2.2.size (fun k e => by have := (HOA.out.lt k e).1; have := HS8.out.2.1; omega)⟩)
          clear hown hgrow
          go_wp2_with fail
          go_roundw
          case rel => exact ⟨i + 1, by omega, by go_num, HS9, HO9⟩
          case measure => simp [intOf]; omega
        · have HI := Lib.hid (show i = 32 by omega)
          obtain ⟨A, cc, rfl, hby, _⟩ := byt_own HO8.out
          have hcv := run_conv_byt (P := Tryd.prog) hby 71 5 9 Tryd.underlying71 Tryd.underlying5 Tryd.underlying9
          have HR := Lib.hid (show rout X i = blake (bl s) by rw [HI.out, HXE.out, rout_all, ← HXE.out, HD2.out, HD.out]; rfl)
          rw [HR.out] at hcv
          clear hby
          go_wp2_with fail
          go_ret
          exact ⟨rfl, HS8.out.2.2⟩

set_option maxRecDepth 100000 in
set_option maxHeartbeats 1000000 in
theorem rsum_one (w : World) (g : Nat) (s : ByteArray) (h : Blk w g 9 #[.string s]) (hs : s.size ≤ 1000000) :
    Calls Tryd.prog 33 #[.slice (some ⟨g, 0, none⟩) 1 1] w fun e w' => e = .returned (.string (ofL (blake (bl s)))) ∧ Below w.heap.size w w' := by
  have hc := h.cell 0
  simp only [List.getElem?_toArray, List.getElem?_cons_zero] at hc
  have hE : (⟨#[]⟩ : ByteArray) ++ s = s := by
    have : (⟨#[]⟩ : ByteArray) = ofL [] := rfl
    rw [this, ← ofL_bl s, ofL_append]; rfl
  clear h
  go_enter Tryd.func33, Tryd.ntmps33
  go_wp2_with fail
  go_loop [3, 4] (fun x y => (x = .string ⟨#[]⟩ ∧ y = .int .i64 0) ∨ (x = .string s ∧ y = .int .i64 1)) (fun _ y => 1 - (intOf y).toNat)
  case atStart => exact .inl ⟨rfl, rfl⟩
  case round =>
    rcases hrel with ⟨rfl, rfl⟩ | ⟨rfl, rfl⟩
    · go_wp2_with fail
      go_round
      case rel => exact .inr ⟨rfl, rfl⟩
      case measure => simp [intOf]
    · go_wp2_with fail
      refine (rdigest_f _ s hs).mono ?_
      rintro e w2 ⟨rfl, hb2⟩
      have HB2 := Lib.hid hb2
      clear hb2
      go_wp2_with fail
      go_ret
      exact ⟨rfl, HB2.out⟩

end Bk
end Go.Proofs.YtnllocghmnhooaaDoor
