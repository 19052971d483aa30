/- BLAKE2s of the reference: Compress. -/
import Derived.Test.YtnllocghmnhooaaDoorCc
import Derived.Test.YtnllocghmnhooaaDoorBf
import Derived.Deep.RegionHeld3
namespace Go.Proofs.YtnllocghmnhooaaDoor
open Go.RowKit
set_option linter.unusedVariables false
namespace Bk

/-- the blocks ahead of the vector: h (gh), the result (gr), the message (gm) -/
structure Ms (w W : World) (gh gr gm : Nat) (h m : List Int) : Prop where
  bh : Blk W gh 89 (iw h)
  br : Blk W gr 89 (iw (List.replicate 8 0))
  bm : Blk W gm 101 (iw m)
  bel : Below w.heap.size w W
  lo : w.heap.size ≤ gh ∧ gh < gr ∧ gr < gm
section
variable {w W W' : World} {gh gr gm : Nat} {h m : List Int}
theorem Ms.drew (c : Ms w W gh gr gm h m) : Ms w W.drew gh gr gm h m := ⟨c.bh.drew, c.br.drew, c.bm.drew, c.bel.drew, c.lo⟩
theorem Ms.alloc (c : Ms w W gh gr gm h m) (o : Obj) : Ms w (W.alloc o) gh gr gm h m := ⟨c.bh.alloc o, c.br.alloc o, c.bm.alloc o, c.bel.alloc c.bel.size o, c.lo⟩
theorem Ms.below (c : Ms w W gh gr gm h m) (hb : Below W.heap.size W W') : Ms w W' gh gr gm h m := ⟨c.bh.below hb, c.br.below hb, c.bm.below hb, c.bel.trans (hb.mono c.bel.size), c.lo⟩
theorem Ms.setM (c : Ms w W gh gr gm h m) (k : Nat) (x : Int) : Ms w (W.setCell ⟨gm, k, none⟩ (.int .u32 x)) gh gr gm h (m.set k x) := by
  have := c.lo
  exact ⟨c.bh.far (by show gh ≠ gm; omega) _, c.br.far (by show gr ≠ gm; omega) _, blk_set c.bm k x, c.bel.setCell (by show w.heap.size ≤ gm; omega) _, c.lo⟩
end
theorem ms_start (w : World) (A : List Int) : Ms w (((w.alloc (.cells (iw A) 89)).alloc (.cells (iw (List.replicate 8 0)) 89)).alloc (.cells (iw (List.replicate 16 0)) 101)) w.heap.size (w.heap.size + 1) (w.heap.size + 1 + 1) A (List.replicate 16 0) := by
  have k2 := Blk.new (w.alloc (.cells (iw A) 89)) 89 (iw (List.replicate 8 0))
  have k3 := Blk.new ((w.alloc (.cells (iw A) 89)).alloc (.cells (iw (List.replicate 8 0)) 89)) 101 (iw (List.replicate 16 0))
  rw [asz] at k2
  rw [asz, asz] at k3
  exact ⟨((Blk.new w _ _).alloc _).alloc _, k2.alloc _, k3, (((Below.refl _ w).alloc (Nat.le_refl _) _).alloc (by rw [asz]; omega) _).alloc (by rw [asz, asz]; omega) _, by omega⟩

/-- the vector while it is laid -/
def vr (h : List Int) : Nat → List Int
  | 0 => List.replicate 16 0
  | i + 1 => ((vr h i).set i (h.getD i 0)).set (i + 8) (iv.getD i 0)
theorem vr_len (h : List Int) : ∀ i, (vr h i).length = 16
  | 0 => by simp [vr]
  | i + 1 => by show (List.set _ _ _).length = _; rw [List.length_set, List.length_set, vr_len h i]
theorem vr_all {h : List Int} (hl : h.length = 8) : vr h 8 = h ++ iv := by
  obtain ⟨a, b, c, d, e, f, g, i, rfl⟩ := eight hl
  rfl

theorem wpStill_load_row {P : Program} {ops : Array Oper} {w : World} {rest : List Oper} {o : Oper} {a : Act} {Q : Act → Prop} (hgd : o.guard = none) (ty : TypeId) (x : Operand) (ho : o.op = .load ty x)
    (g : Nat) (hx : a.eval x = .pointer (some ⟨g, 0, none⟩)) (t : TypeId) (cs : Array Value) (fr : Nat × Nat) (d : TypeDesc) (hg : w.heap[g]? = some (.cells cs t fr))
    (hu : P.underlying ty = some d) (hd : (match d with | .struct _ | .array _ _ => true | _ => false) = true) (hi : (P.info? ty).map (·.size) = some cs.size)
    (h : wpStill P ops w Q rest (a.put o.dst (.agg cs))) : wpStill P ops w Q (o :: rest) a := by
  have e : (execOp a.eval o).run P w = .ok (.value (.agg cs)) w := by
    unfold execOp
    simp only [ho, hx, Instr.loadAt, Instr.sureAddr, Sem.run_bind, Sem.run_pure, Result.andThen_ok, run_loadVar_row w g t ty cs fr d hg hu hd hi]
  refine wpStill_step fun K hK => ?_
  have hw : Region.wanted o (yielded ops a.tmps) = true := by unfold Region.wanted; rw [hgd]
  rw [if_pos hw]
  show o.stillUpon P a w K _
  rw [e, Oper.stillUpon_value]
  exact hK _ h
theorem prm_size (r : Nat) : (prm r).size = 16 := by
  show ((List.range 16).map fun j => hexd (sg r j)).toArray.size = 16
  simp
theorem prm_at (r : Nat) {j : Nat} (h : j < (prm r).size) : (prm r)[j] = hexd (sg r j) := by
  have h16 : j < 16 := by rw [prm_size] at h; exact h
  have := get_d (prm r) h
  rw [← this]
  show ((List.range 16).map fun j => hexd (sg r j)).getD j 0 = _
  rw [List.getD, List.getElem?_map, List.getElem?_range h16]
  rfl
theorem xr_assoc {a b c : Int} (ha : W a) (hb : W b) (hc : W c) : xr (xr a b) c = xr a (xr b c) := by
  obtain ⟨a, rfl, pa⟩ := ha.nat
  obtain ⟨b, rfl, pb⟩ := hb.nat
  obtain ⟨c, rfl, pc⟩ := hc.nat
  rw [xr_nat a b pa pb, xr_nat b c pb pc, xr_nat _ c (Nat.xor_lt_two_pow (n := 32) pa pb) pc, xr_nat a _ pa (Nat.xor_lt_two_pow (n := 32) pb pc), Nat.xor_assoc]

set_option maxRecDepth 100000 in
set_option maxHeartbeats 4000000 in
theorem rcompress_ff (w : World) (h : List Int) (hl : h.length = 8) (hw : Ws h) (s : ByteArray) (hs : s.size = 64) (t : Nat) (ht : t < 18446744073709551616) :
    Calls Tryd.prog 63 #[.agg (iw h), .string s, .int .u64 (t : Int), .bool false] w
      fun e w' => e = .returned (.tuple #[.agg (iw (comp h (bl s) t false)), .int .i64 0]) ∧ Below w.heap.size w w' := by
  have HW := Lib.hid hw
  clear hw
  go_enter Tryd.func63, Tryd.ntmps63
  go_wp2_with fail
  have HC := Lib.hid (ms_start w h)
  obtain ⟨W0, hW0⟩ : ∃ W0, W0 = (((w.alloc (.cells (iw h) 89)).alloc (.cells (iw (List.replicate 8 0)) 89)).alloc (.cells (iw (List.replicate 16 0)) 101)) := ⟨_, rfl⟩
  rw [← hW0] at HC
  change W0 = (((w.alloc (.cells (iw h) 89)).alloc (.cells #[.int .u32 0, .int .u32 0, .int .u32 0, .int .u32 0, .int .u32 0, .int .u32 0, .int .u32 0, .int .u32 0] 89)).alloc (.cells #[.int .u32 0, .int .u32 0, .int .u32 0, .int .u32 0, .int .u32 0, .int .u32 0, .int .u32 0, .int .u32 0, .int .u32 0, .int .u32 0, .int .u32 0, .int .u32 0, .int .u32 0, .int .u32 0, .int .u32 0, .int .u32 0] 101)) at hW0
  rw [← hW0]
  clear hW0
  generalize w.heap.size + 1 + 1 = gm at *
  generalize w.heap.size + 1 = gr at *
  obtain ⟨gh, hgh⟩ : ∃ gh, gh = w.heap.size := ⟨_, rfl⟩
  rw [← hgh]
  have HC := Lib.hid (show Ms w W0 gh gr gm h (mr (bl s) 0) by rw [hgh]; exact HC.out)
  clear hgh
  go_loopw [11] (fun x W => ∃ k : Nat, k ≤ 64 ∧ x = .int .i64 (k : Int) ∧ Hid (Ms w W gh gr gm h (mr (bl s) k))) (fun x _ => 64 - (intOf x).toNat)
  case atStart => exact ⟨0, by omega, rfl, HC⟩
  case round =>
    obtain ⟨k, hk, rfl, HK⟩ := hrel
    clear HC
    by_cases hk64 : k < 64
    · obtain ⟨q, hq⟩ : ∃ q, q = k / 4 := ⟨_, rfl⟩
      obtain ⟨r, hr⟩ : ∃ r, r = k % 4 := ⟨_, rfl⟩
      obtain ⟨e8, he8⟩ : ∃ e, e = 8 * r := ⟨_, rfl⟩
      have q1 : (k : Int) / 4 = (q : Int) := by omega
      have q2 : (k : Int).tdiv 4 = (q : Int) := by rw [Int.tdiv_eq_ediv_of_nonneg (by omega)]; exact q1
      have q3 : (k : Int) % 4 = (r : Int) := by omega
      have q4 : (k : Int).tmod 4 = (r : Int) := by rw [Int.tmod_eq_emod_of_nonneg (by omega)]; exact q3
      have q5 : IntKind.i64.wrap (q : Int) = (q : Int) := wrap64_id (by omega) (by omega)
      have q6 : IntKind.i64.wrap (8 * (r : Int)) = (e8 : Int) := by rw [wrap64_id (by omega) (by omega)]; omega
      have q7 : IntKind.u64.wrap (e8 : Int) = (e8 : Int) := by rw [IntKind.wrap_u64]; omega
      have l1 : (q : Int) < 16 := by omega
      have l2 : (k : Int) < 64 := by omega
      have l3 : (e8 : Int) < 32 := by omega
      have hks : k < s.size := by omega
      have hc := (HK.out.bm.cell q).trans (iw_at (by rw [mr_len]; omega))
      have hf := HK.out.bm.frozen q
      obtain ⟨c, hcc⟩ : ∃ c, c = s[k].toNat := ⟨_, rfl⟩
      have hc256 : c < 256 := by rw [hcc]; exact s[k].toNat_lt
      have q8 : (s[k].toNat : Int) = (c : Int) := by rw [hcc]
      have q9 : IntKind.u32.wrap (c : Int) = (c : Int) := by rw [wrap32]; omega
      obtain ⟨y, hy⟩ : ∃ y, y = (c : Int) * 2 ^ e8 % 4294967296 := ⟨_, rfl⟩
      have q10 : IntKind.u32.wrap ((c : Int) * 2 ^ e8) = y := by rw [wrap32, hy]
      have HMR := Lib.hid (show (mr (bl s) k).set q (orr ((mr (bl s) k).getD q 0) y) = mr (bl s) (k + 1) by
        show _ = (mr (bl s) k).set (k / 4) _
        rw [← hq, ← hr, ← he8, hy, hcc, show (bl s).getD k 0 = s[k] from get_d s hks])
      obtain ⟨z, hz⟩ : ∃ z, z = (mr (bl s) k).getD q 0 := ⟨_, rfl⟩
      rw [← hz] at hc HMR
      clear hq hr he8 hcc hy hz hc256
      go_wp2_with fail
      refine wp_region_still_tail 16 (by kernel_rfl) (by kernel_rfl) ?_
      simp only [List.take_succ_cons, List.take_zero, List.drop_succ_cons, List.drop_zero]
      repeat still_step
      refine wpStill_nil ?_
      change wpList _ _ _ _ _ wr.drew
      go_wp2_with fail
      go_roundw
      case rel => exact ⟨k + 1, by omega, by go_num, Lib.hid (by
        have := HK.out.drew.setM q (orr z y)
        rw [HMR.out] at this
        exact this)⟩
      case measure => simp [intOf]; omega
    · have HK64 := Lib.hid (show k = 64 by omega)
      rw [HK64.out, mr_all] at HK
      obtain ⟨M, hM⟩ : ∃ M, M = mws (bl s) 16 := ⟨_, rfl⟩
      rw [← hM] at HK
      have HM := Lib.hid hM
      clear hM
      go_wp2_with fail
      refine (rinitial_f _).mono ?_
      rintro e w1 ⟨rfl, hb1⟩
      have HK1 := Lib.hid (HK.out.below hb1)
      have HS1 := Lib.hid (Blk.new w1 89 ivA)
      have HK2 := Lib.hid (HK1.out.alloc (.cells ivA 89))
      clear hb1 HK
      obtain ⟨w2, hw2⟩ : ∃ w2, w2 = w1.alloc (.cells ivA 89) := ⟨_, rfl⟩
      have HZ2 := Lib.hid (show w2.heap.size = w1.heap.size + 1 by rw [hw2, asz])
      rw [← hw2] at HS1 HK2
      have HGM := Lib.hid (show gm < w1.heap.size from HK1.out.bm.lt)
      unfold ivA at hw2
      obtain ⟨w3, hw3⟩ : ∃ w3, w3 = w2.alloc (.cells (iw (List.replicate 16 0)) 101) := ⟨_, rfl⟩
      have HC3 := Lib.hid (show Cs w w3 gh gr gm (w1.heap.size + 1) h M (vr h 0) from by
        have hm := HK2.out.alloc (.cells (iw (List.replicate 16 0)) 101)
        have hv := Blk.new w2 101 (iw (List.replicate 16 0))
        rw [← hw3] at hm hv
        rw [HZ2.out] at hv
        exact ⟨hm.bh, hm.br, hm.bm, hv, hm.bel, hm.lo.1, hm.lo.2.1, hm.lo.2.2, by have := HGM.out; omega⟩)
      have HS3 := Lib.hid (show Blk w3 w1.heap.size 89 (iw iv) by rw [hw3]; exact HS1.out.alloc _)
      change w3 = w2.alloc (.cells #[.int .u32 0, .int .u32 0, .int .u32 0, .int .u32 0, .int .u32 0, .int .u32 0, .int .u32 0, .int .u32 0, .int .u32 0, .int .u32 0, .int .u32 0, .int .u32 0, .int .u32 0, .int .u32 0, .int .u32 0, .int .u32 0] 101) at hw3
      go_wp2_with fail
      rw [← hw2, ← hw3]
      clear hw2 hw3 HK1 HK2 HS1
      have hne : w1.heap.size ≠ w1.heap.size + 1 := by omega
      generalize w1.heap.size + 1 = gv at *
      generalize w1.heap.size = gs at *
      have hd64 : decide ((k : Int) < 64) = false := decide_eq_false (by omega)
      simp only [hd64]
      go_loopw [14] (fun x W => ∃ i : Nat, i ≤ 8 ∧ x = .int .i64 (i : Int) ∧ Hid (Cs w W gh gr gm gv h M (vr h i)) ∧ Hid (Blk W gs 89 (iw iv))) (fun x _ => 8 - (intOf x).toNat)
      case atStart => exact ⟨0, by omega, rfl, HC3, HS3⟩
      case round =>
        obtain ⟨i, hi, rfl, HC4, HS4⟩ := hrel
        clear HC3 HS3
        by_cases hi8 : i < 8
        · obtain ⟨i8, hi8'⟩ : ∃ j, j = i + 8 := ⟨_, rfl⟩
          have HNX := Lib.hid (show ((vr h i).set i (h.getD i 0)).set i8 (iv.getD i 0) = vr h (i + 1) by rw [hi8']; rfl)
          have c1 := (HC4.out.bh.cell i).trans (iw_at (by omega))
          have c2 := (HS4.out.cell i).trans (iw_at (show i < iv.length from hi8))
          have c3 := (HC4.out.bv.cell i).trans (iw_at (by rw [vr_len]; omega))
          have f3 := HC4.out.bv.frozen i
          obtain ⟨z1, hz1⟩ : ∃ z, z = h.getD i 0 := ⟨_, rfl⟩
          obtain ⟨z2, hz2⟩ : ∃ z, z = iv.getD i 0 := ⟨_, rfl⟩
          rw [← hz1] at c1 HNX
          rw [← hz2] at c2 HNX
          have HC5 := Lib.hid (HC4.out.setV i z1)
          have HS5 := Lib.hid (show Blk (wr.setCell ⟨gv, i, none⟩ (.int .u32 z1)) gs 89 (iw iv) from HS4.out.far hne _)
          have c4 := (HC5.out.bv.cell i8).trans (iw_at (by rw [List.length_set, vr_len]; omega))
          have f4 := HC5.out.bv.frozen i8
          have c5 := (HS5.out.cell i).trans (iw_at (show i < iv.length from hi8))
          rw [← hz2] at c5
          have q1 : (i : Int) + 8 = (i8 : Int) := by omega
          have l1 : (i : Int) < 8 := by omega
          have l2 : (i : Int) < 16 := by omega
          have l3 : (i8 : Int) < 16 := by omega
          clear hi8' hz1 hz2
          go_wp2_with fail
          go_roundw
          case rel => exact ⟨i + 1, by omega, by go_num, Lib.hid (by have := HC5.out.setV i8 z2; rw [HNX.out] at this; exact this), Lib.hid (HS5.out.far hne _)⟩
          case measure => simp [intOf]; omega
        · have HI8 := Lib.hid (show i = 8 by omega)
          rw [HI8.out, vr_all hl] at HC4
          have hvl : (h ++ iv).length = 16 := by rw [List.length_append, hl]; rfl
          have c12 := (HC4.out.bv.cell 12).trans (iw_at (by omega))
          have c13 := (HC4.out.bv.cell 13).trans (iw_at (by omega))
          have c14 := (HC4.out.bv.cell 14).trans (iw_at (by omega))
          have f12 := HC4.out.bv.frozen 12
          have f13 := HC4.out.bv.frozen 13
          have f14 := HC4.out.bv.frozen 14
          have e13 : (((h ++ iv).set 12 (xr ((h ++ iv).getD 12 0) ((t : Int) % 4294967296))).getD 13 0) = (h ++ iv).getD 13 0 := by
            rw [List.getD_eq_getElem?_getD, List.getElem?_set_ne (by omega), ← List.getD_eq_getElem?_getD]
          have e14 : ((((h ++ iv).set 12 (xr ((h ++ iv).getD 12 0) ((t : Int) % 4294967296))).set 13 (xr ((h ++ iv).getD 13 0) ((t : Int) / 4294967296))).getD 14 0) = (h ++ iv).getD 14 0 := by
            rw [List.getD_eq_getElem?_getD, List.getElem?_set_ne (by omega), List.getElem?_set_ne (by omega), ← List.getD_eq_getElem?_getD]
          have HV0 := Lib.hid (show ((h ++ iv).set 12 (xr ((h ++ iv).getD 12 0) ((t : Int) % 4294967296))).set 13 (xr ((h ++ iv).getD 13 0) ((t : Int) / 4294967296)) = vst h t false by unfold vst; simp only [e13]; rfl)
          have HV1 := Lib.hid (show (((h ++ iv).set 12 (xr ((h ++ iv).getD 12 0) ((t : Int) % 4294967296))).set 13 (xr ((h ++ iv).getD 13 0) ((t : Int) / 4294967296))).set 14 (xr 4294967295 ((h ++ iv).getD 14 0)) = vst h t true by unfold vst; simp only [e13, e14]; rfl)
          clear e13 e14 HS4
          obtain ⟨x12, hx12⟩ : ∃ x, x = (h ++ iv).getD 12 0 := ⟨_, rfl⟩
          obtain ⟨x13, hx13⟩ : ∃ x, x = (h ++ iv).getD 13 0 := ⟨_, rfl⟩
          obtain ⟨x14, hx14⟩ : ∃ x, x = (h ++ iv).getD 14 0 := ⟨_, rfl⟩
          rw [← hx12] at c12 HV0 HV1
          rw [← hx13] at c13 HV0 HV1
          rw [← hx14] at c14 HV1
          clear hx12 hx13 hx14
          have hsg : IntKind.u32.signed = false := rfl
          have hmx : IntKind.u32.max = 4294967295 := rfl
          have hdi : decide ((i : Int) < 8) = false := decide_eq_false (by omega)
          have hMl : M.length = 16 := by rw [HM.out]; exact mws_len _ _
          have HMW := Lib.hid (show Ws M by rw [HM.out]; exact mws_ws _ _)
          go_wp2_with fail
          have HK5 := Lib.hid ((HC4.out.setV 12 (xr x12 ((t : Int) % 4294967296))).setV 13 (xr x13 ((t : Int) / 4294967296)))
          rw [HV0.out] at HK5
          clear HC4 c12 c13 c14 f12 f13 f14 HV0 HV1 hsg hmx
          try simp only [hdi]
          obtain ⟨v0, hv0⟩ : ∃ v0, v0 = vst h t false := ⟨_, rfl⟩
          have HV0 := Lib.hid hv0
          have HVL := Lib.hid (show v0.length = 16 by rw [hv0]; exact vst_len hl _ _)
          have HVW := Lib.hid (show Ws v0 by rw [hv0]; exact vst_ws HW.out _ _)
          rw [← hv0] at HK5
          have HCM := Lib.hid (show comp h (bl s) t false = fin h (rnds M v0 10) 8 by rw [hv0, HM.out]; rfl)
          clear hv0 HV0
          clear hdi hd64
          go_loopw [15] (fun x W => ∃ r : Nat, r ≤ 10 ∧ x = .int .i64 (r : Int) ∧ Hid (Cs w W gh gr gm gv h M (rnds M v0 r))) (fun x _ => 10 - (intOf x).toNat)
          case atStart => exact ⟨0, by omega, rfl, HK5⟩
          case round =>
            obtain ⟨r, hr, rfl, HK7⟩ := hrel
            clear HK5
            by_cases hr10 : r < 10
            · go_wp2_with fail
              refine (perm_f _ r hr10).mono ?_
              rintro e w6 ⟨rfl, rfl⟩
              obtain ⟨p, hp⟩ : ∃ p, prm r = p := ⟨_, rfl⟩
              rw [hp]
              have HP := Lib.hid hp
              clear hp
              go_wp2_with fail
              have HK8 := HK7
              clear HK7
              go_loopw [17] (fun x W => ∃ k : Nat, k ≤ 8 ∧ x = .int .i64 (k : Int) ∧ Hid (Cs w W gh gr gm gv h M (rnd M (rnds M v0 r) r k))) (fun x _ => 8 - (intOf x).toNat)
              case atStart => exact ⟨0, by omega, rfl, HK8⟩
              case round =>
                obtain ⟨k, hk, rfl, HK9⟩ := hrel
                clear HK8
                by_cases hk8 : k < 8
                · go_wp2_with fail
                  refine (cols_f _ k hk8).mono ?_
                  rintro e w7 ⟨rfl, hb7⟩
                  have HK10 := Lib.hid ((HK9.out.below hb7).alloc (.cells #[.int .i64 (qa k : Int), .int .i64 (qb k : Int), .int .i64 (qc k : Int), .int .i64 (qd k : Int)] 102))
                  clear HK9 hb7
                  have HB := Lib.hid (Blk.new w7 102 #[.int .i64 (qa k : Int), .int .i64 (qb k : Int), .int .i64 (qc k : Int), .int .i64 (qd k : Int)])
                  obtain ⟨w8, hw8⟩ : ∃ w8, w8 = w7.alloc (.cells #[.int .i64 (qa k : Int), .int .i64 (qb k : Int), .int .i64 (qc k : Int), .int .i64 (qd k : Int)] 102) := ⟨_, rfl⟩
                  rw [← hw8] at HB HK10
                  have HQ := Lib.hid (q_lt hk8)
                  have HQN := Lib.hid (q_ne hk8)
                  obtain ⟨na, hna⟩ : ∃ n, n = qa k := ⟨_, rfl⟩
                  obtain ⟨nb, hnb⟩ : ∃ n, n = qb k := ⟨_, rfl⟩
                  obtain ⟨nc, hnc⟩ : ∃ n, n = qc k := ⟨_, rfl⟩
                  obtain ⟨nd, hnd⟩ : ∃ n, n = qd k := ⟨_, rfl⟩
                  rw [← hna, ← hnb, ← hnc, ← hnd] at HB hw8 HQ HQN ⊢
                  have HNA := Lib.hid hna
                  have HNB := Lib.hid hnb
                  have HNC := Lib.hid hnc
                  have HND := Lib.hid hnd
                  clear hna hnb hnc hnd
                  go_wp2_with fail
                  rw [← hw8]
                  clear hw8
                  generalize w7.heap.size = gq at *
                  have q0 := HB.out.cell 0
                  have q1 := HB.out.cell 1
                  have q2 := HB.out.cell 2
                  have q3 := HB.out.cell 3
                  simp only [List.getElem?_toArray, List.getElem?_cons_zero, List.getElem?_cons_succ] at q0 q1 q2 q3
                  obtain ⟨k2, hk2⟩ : ∃ j, j = 2 * k := ⟨_, rfl⟩
                  obtain ⟨k3, hk3⟩ : ∃ j, j = 2 * k + 1 := ⟨_, rfl⟩
                  have v1 : IntKind.i64.wrap (2 * (k : Int)) = (k2 : Int) := by rw [wrap64_id (by omega) (by omega)]; omega
                  have v2 : IntKind.i64.wrap ((k2 : Int) + 1) = (k3 : Int) := by rw [wrap64_id (by omega) (by omega)]; omega
                  obtain ⟨i1, hi1⟩ : ∃ i, i = sg r (2 * k) := ⟨_, rfl⟩
                  obtain ⟨i2, hi2⟩ : ∃ i, i = sg r (2 * k + 1) := ⟨_, rfl⟩
                  obtain ⟨z1, z2, y1, y2⟩ : ∃ (z1 : k2 < p.size) (z2 : k3 < p.size), p[k2] = hexd i1 ∧ p[k3] = hexd i2 := by
                    rw [← HP.out]
                    exact ⟨by rw [prm_size]; omega, by rw [prm_size]; omega, by rw [prm_at, hi1, hk2], by rw [prm_at, hi2, hk3]⟩
                  have l1' : i1 < 16 := by have := sg_lt r (2 * k); omega
                  have l2' : i2 < 16 := by have := sg_lt r (2 * k + 1); omega
                  have l1 : (i1 : Int) < 16 := by omega
                  have l2 : (i2 : Int) < 16 := by omega
                  have HI1 := Lib.hid hi1
                  have HI2 := Lib.hid hi2
                  clear hi1 hi2 hk2 hk3
                  have HD1 := Lib.hid (fun V => digit_f V i1 l1')
                  have HD2 := Lib.hid (fun V => digit_f V i2 l2')
                  obtain ⟨d1, hd1⟩ : ∃ d, d = hexd i1 := ⟨_, rfl⟩
                  obtain ⟨d2, hd2⟩ : ∃ d, d = hexd i2 := ⟨_, rfl⟩
                  rw [← hd1] at HD1 y1
                  rw [← hd2] at HD2 y2
                  clear hd1 hd2
                  have m1 := (HK10.out.bm.cell i1).trans (iw_at (by omega))
                  have m2 := (HK10.out.bm.cell i2).trans (iw_at (by omega))
                  have HW1 := Lib.hid (show W (M.getD i1 0) from HMW.out.at_ _)
                  have HW2 := Lib.hid (show W (M.getD i2 0) from HMW.out.at_ _)
                  obtain ⟨x1, hx1⟩ : ∃ y, y = M.getD i1 0 := ⟨_, rfl⟩
                  obtain ⟨x2, hx2⟩ : ∃ y, y = M.getD i2 0 := ⟨_, rfl⟩
                  rw [← hx1] at m1 HW1
                  rw [← hx2] at m2 HW2
                  have HX1 := Lib.hid hx1
                  have HX2 := Lib.hid hx2
                  clear hx1 hx2
                  have HVR := Lib.hid (show (rnd M (rnds M v0 r) r k).length = 16 by rw [rnd_len, rnds_len]; exact HVL.out)
                  have HVS := Lib.hid (show Ws (rnd M (rnds M v0 r) r k) from rnd_ws (rnds_ws HVW.out r) r k)
                  have HNX := Lib.hid (show Gm (rnd M (rnds M v0 r) r k) na nb nc nd x1 x2 = rnd M (rnds M v0 r) r (k + 1) by rw [HNA.out, HNB.out, HNC.out, HND.out, HX1.out, HX2.out, HI1.out, HI2.out]; rfl)
                  obtain ⟨V, hV⟩ : ∃ V, V = rnd M (rnds M v0 r) r k := ⟨_, rfl⟩
                  rw [← hV] at HK10 HVR HVS HNX
                  clear hV
                  have HL9 := Lib.hid (show (Tryd.prog.info? 101).map (·.size) = some (iw V).size by rw [iw_size, HVR.out]; kernel_rfl)
                  refine wp_region_still_tail 24 (by kernel_rfl) (by kernel_rfl) ?_
                  simp only [List.take_succ_cons, List.take_zero, List.drop_succ_cons, List.drop_zero]
                  refine wpStill_load_row rfl 101 (.tmp 13) rfl gv rfl 101 (iw V) (0, 0) _ HK10.out.bv Tryd.underlying101 rfl HL9.out ?_
                  iterate 12 still_step
                  still_call (HD1.out _)
                  iterate 7 still_step
                  still_call (HD2.out _)
                  iterate 2 still_step
                  refine wpStill_nil ?_
                  change wpList _ _ _ _ _ w8.drew
                  have HK11 := Lib.hid HK10.out.drew
                  obtain ⟨qa1, qa2, qa3, qa4⟩ := HQ.out
                  obtain ⟨n1, n2, n3, n4, n5, n6⟩ := HQN.out
                  go_wp2_with fail
                  refine (rmix_f _ V HVR.out HVS.out na nb nc nd qa1 qa2 qa3 qa4 n1 n2 n3 n4 n5 n6 x1 x2 HW1.out HW2.out).mono ?_
                  rintro e w9 ⟨rfl, hb9⟩
                  have HK12 := Lib.hid (HK11.out.below hb9)
                  rw [HNX.out]
                  clear hb9 n1 n2 n3 n4 n5 n6 qa1 qa2 qa3 qa4
                  have HL10 := Lib.hid (show (Tryd.prog.info? 101).map (·.size) = some (iw (rnd M (rnds M v0 r) r (k + 1))).size by rw [iw_size, rnd_len, rnds_len, HVL.out]; kernel_rfl)
                  have HZ10 := Lib.hid (show (iw V).size = (iw (rnd M (rnds M v0 r) r (k + 1))).size by rw [iw_size, iw_size, rnd_len, rnds_len, HVL.out, HVR.out])
                  have HK13 := Lib.hid (HK12.out.row (x := rnd M (rnds M v0 r) r (k + 1)))
                  obtain ⟨V2, hV2⟩ : ∃ V2, V2 = rnd M (rnds M v0 r) r (k + 1) := ⟨_, rfl⟩
                  rw [← hV2] at HL10 HZ10 HK13 ⊢
                  have HV2 := Lib.hid hV2
                  clear hV2
                  go_wp2_with (first | ((with_reducible show wpList _ _ _ [Oper.mk none (.store 101 (.tmp 13) (.tmp 115)) _ _ _ _] _ _); refine wpList_store_row rfl 101 (.tmp 13) (.tmp 115) rfl gv (iw V2) rfl rfl 101 (iw V) HK12.out.bv HL10.out HZ10.out (iw_all V2) ?_))
                  go_roundw
                  case rel => exact ⟨k + 1, by omega, by go_num, Lib.hid (by rw [← HV2.out]; exact HK13.out)⟩
                  case measure => simp [intOf]; omega
                · have HK := Lib.hid (show k = 8 by omega)
                  rw [HK.out] at HK9
                  go_wp2_with fail
                  go_roundw
                  case rel => exact ⟨r + 1, by omega, by go_num, HK9⟩
                  case measure => simp [intOf]; omega
            · have HR10 := Lib.hid (show r = 10 by omega)
              rw [HR10.out] at HK7
              go_wp2_with fail
              have HFL := Lib.hid (show (rnds M v0 10).length = 16 by rw [rnds_len]; exact HVL.out)
              have HFW := Lib.hid (show Ws (rnds M v0 10) from rnds_ws HVW.out 10)
              obtain ⟨vf, hvf⟩ : ∃ vf, vf = rnds M v0 10 := ⟨_, rfl⟩
              rw [← hvf] at HK7 HFL HFW HCM
              clear hvf
              go_loopw [19] (fun x W => ∃ i : Nat, i ≤ 8 ∧ x = .int .i64 (i : Int) ∧ Hid (Cs w W gh gr gm gv (fin h vf i) M vf)) (fun x _ => 8 - (intOf x).toNat)
              case atStart => exact ⟨0, by omega, rfl, HK7⟩
              case round =>
                obtain ⟨i, hi, rfl, HK8⟩ := hrel
                clear HK7
                by_cases hi8 : i < 8
                · have c1 := (HK8.out.bh.cell i).trans (iw_at (by rw [fin_len]; omega))
                  have f1 := HK8.out.bh.frozen i
                  rw [fin_at h vf i i (Nat.le_refl _)] at c1
                  obtain ⟨i8, hi8'⟩ : ∃ j, j = i + 8 := ⟨_, rfl⟩
                  have c2 := (HK8.out.bv.cell i).trans (iw_at (by rw [HFL.out]; omega))
                  have c3 := (HK8.out.bv.cell i8).trans (iw_at (by rw [HFL.out]; omega))
                  have w1 : IntKind.i64.wrap ((i : Int) + 8) = (i8 : Int) := by rw [wrap64_id (by omega) (by omega)]; omega
                  have l1 : (i8 : Int) < 16 := by omega
                  have l2 : (i : Int) < 8 := by omega
                  have l3 : (i : Int) < 16 := by omega
                  have HI := Lib.hid hi8'
                  clear hi8'
                  obtain ⟨z1, hz1⟩ : ∃ z, z = h.getD i 0 := ⟨_, rfl⟩
                  obtain ⟨z2, hz2⟩ : ∃ z, z = vf.getD i 0 := ⟨_, rfl⟩
                  obtain ⟨z3, hz3⟩ : ∃ z, z = vf.getD i8 0 := ⟨_, rfl⟩
                  have HZ := Lib.hid (show (fin h vf i).set i (xr (xr z1 z2) z3) = fin h vf (i + 1) by rw [xr_assoc (by rw [hz1]; exact HW.out.at_ _) (by rw [hz2]; exact HFW.out.at_ _) (by rw [hz3]; exact HFW.out.at_ _), hz1, hz2, hz3, HI.out]; rfl)
                  rw [← hz1] at c1
                  rw [← hz2] at c2
                  rw [← hz3] at c3
                  clear hz1 hz2 hz3
                  go_wp2_with fail
                  refine wp_region_still_tail 14 (by kernel_rfl) (by kernel_rfl) ?_
                  simp only [List.take_succ_cons, List.take_zero, List.drop_succ_cons, List.drop_zero]
                  repeat still_step
                  refine wpStill_nil ?_
                  change wpList _ _ _ _ _ wr.drew
                  go_wp2_with fail
                  go_roundw
                  case rel => exact ⟨i + 1, by omega, by go_num, Lib.hid (by
                    have := HK8.out.drew.setH i (xr (xr z1 z2) z3)
                    rw [HZ.out] at this
                    exact this)⟩
                  case measure => simp [intOf]; omega
                · have HI8 := Lib.hid (show i = 8 by omega)
                  rw [HI8.out] at HK8
                  have hfl : (fin h vf 8).length = 8 := by rw [fin_len, hl]
                  rw [← HCM.out] at hfl HK8
                  obtain ⟨c0, c1, c2, c3, c4, c5, c6, c7, hc⟩ := eight hfl
                  rw [hc] at HK8
                  have HCC := Lib.hid hc
                  clear hc hfl
                  have e0 := (HK8.out.bh.cell 0).trans (iw_at (by simp))
                  have e1 := (HK8.out.bh.cell 1).trans (iw_at (by simp))
                  have e2 := (HK8.out.bh.cell 2).trans (iw_at (by simp))
                  have e3 := (HK8.out.bh.cell 3).trans (iw_at (by simp))
                  have e4 := (HK8.out.bh.cell 4).trans (iw_at (by simp))
                  have e5 := (HK8.out.bh.cell 5).trans (iw_at (by simp))
                  have e6 := (HK8.out.bh.cell 6).trans (iw_at (by simp))
                  have e7 := (HK8.out.bh.cell 7).trans (iw_at (by simp))
                  have z0 := (HK8.out.br.cell 0).trans (iw_at (by simp))
                  have z1 := (HK8.out.br.cell 1).trans (iw_at (by simp))
                  have z2 := (HK8.out.br.cell 2).trans (iw_at (by simp))
                  have z3 := (HK8.out.br.cell 3).trans (iw_at (by simp))
                  have z4 := (HK8.out.br.cell 4).trans (iw_at (by simp))
                  have z5 := (HK8.out.br.cell 5).trans (iw_at (by simp))
                  have z6 := (HK8.out.br.cell 6).trans (iw_at (by simp))
                  have z7 := (HK8.out.br.cell 7).trans (iw_at (by simp))
                  have f0 := HK8.out.br.frozen 0
                  have f1 := HK8.out.br.frozen 1
                  have f2 := HK8.out.br.frozen 2
                  have f3 := HK8.out.br.frozen 3
                  have f4 := HK8.out.br.frozen 4
                  have f5 := HK8.out.br.frozen 5
                  have f6 := HK8.out.br.frozen 6
                  have f7 := HK8.out.br.frozen 7
                  simp only [List.getD_cons_zero, List.getD_cons_succ] at e0 e1 e2 e3 e4 e5 e6 e7
                  have hd0 : (List.replicate 8 (0 : Int)) = [0, 0, 0, 0, 0, 0, 0, 0] := rfl
                  rw [hd0] at z0 z1 z2 z3 z4 z5 z6 z7
                  clear hd0
                  simp only [List.getD_cons_zero, List.getD_cons_succ] at z0 z1 z2 z3 z4 z5 z6 z7
                  go_wp2_with fail
                  have hlo := HK8.out.lo
                  have k0 := blk8_set HK8.out.br 0 c0
                  have k1 := blk8_set k0 1 c1
                  have k2 := blk8_set k1 2 c2
                  have k3 := blk8_set k2 3 c3
                  have k4 := blk8_set k3 4 c4
                  have k5 := blk8_set k4 5 c5
                  have k6 := blk8_set k5 6 c6
                  have k7 := blk8_set k6 7 c7
                  have b0 := HK8.out.bel.setCell (p := ⟨gr, 0, none⟩) (by show w.heap.size ≤ gr; omega) (.int .u32 c0)
                  have b1 := b0.setCell (p := ⟨gr, 1, none⟩) (by show w.heap.size ≤ gr; omega) (.int .u32 c1)
                  have b2 := b1.setCell (p := ⟨gr, 2, none⟩) (by show w.heap.size ≤ gr; omega) (.int .u32 c2)
                  have b3 := b2.setCell (p := ⟨gr, 3, none⟩) (by show w.heap.size ≤ gr; omega) (.int .u32 c3)
                  have b4 := b3.setCell (p := ⟨gr, 4, none⟩) (by show w.heap.size ≤ gr; omega) (.int .u32 c4)
                  have b5 := b4.setCell (p := ⟨gr, 5, none⟩) (by show w.heap.size ≤ gr; omega) (.int .u32 c5)
                  have b6 := b5.setCell (p := ⟨gr, 6, none⟩) (by show w.heap.size ≤ gr; omega) (.int .u32 c6)
                  have b7 := b6.setCell (p := ⟨gr, 7, none⟩) (by show w.heap.size ≤ gr; omega) (.int .u32 c7)
                  clear e0 e1 e2 e3 e4 e5 e6 e7 z0 z1 z2 z3 z4 z5 z6 z7 f0 f1 f2 f3 f4 f5 f6 f7 k0 k1 k2 k3 k4 k5 k6 b0 b1 b2 b3 b4 b5 b6
                  generalize ((((((((wr.setCell ⟨gr, 0, none⟩ (.int .u32 c0)).setCell ⟨gr, 1, none⟩ (.int .u32 c1)).setCell ⟨gr, 2, none⟩ (.int .u32 c2)).setCell ⟨gr, 3, none⟩ (.int .u32 c3)).setCell ⟨gr, 4, none⟩ (.int .u32 c4)).setCell ⟨gr, 5, none⟩ (.int .u32 c5)).setCell ⟨gr, 6, none⟩ (.int .u32 c6)).setCell ⟨gr, 7, none⟩ (.int .u32 c7)) = Wf at *
                  have hld := run_loadVar_row (P := Tryd.prog) Wf gr 89 89 (iw [c0, c1, c2, c3, c4, c5, c6, c7]) (0, 0) _ k7 Tryd.underlying89 rfl (by kernel_rfl)
                  rw [HCC.out]
                  exact bodyPost_ret (v := .tuple #[.agg (iw [c0, c1, c2, c3, c4, c5, c6, c7]), .int .i64 0]) (res_two rfl _ _ rfl rfl hld) rfl ⟨rfl, b7⟩

set_option maxRecDepth 100000 in
set_option maxHeartbeats 4000000 in
theorem rcompress_tt (w : World) (h : List Int) (hl : h.length = 8) (hw : Ws h) (s : ByteArray) (hs : s.size = 64) (t : Nat) (ht : t < 18446744073709551616) :
    Calls Tryd.prog 63 #[.agg (iw h), .string s, .int .u64 (t : Int), .bool true] w
      fun e w' => e = .returned (.tuple #[.agg (iw (comp h (bl s) t true)), .int .i64 0]) ∧ Below w.heap.size w w' := by
  have HW := Lib.hid hw
  clear hw
  go_enter Tryd.func63, Tryd.ntmps63
  go_wp2_with fail
  have HC := Lib.hid (ms_start w h)
  obtain ⟨W0, hW0⟩ : ∃ W0, W0 = (((w.alloc (.cells (iw h) 89)).alloc (.cells (iw (List.replicate 8 0)) 89)).alloc (.cells (iw (List.replicate 16 0)) 101)) := ⟨_, rfl⟩
  rw [← hW0] at HC
  change W0 = (((w.alloc (.cells (iw h) 89)).alloc (.cells #[.int .u32 0, .int .u32 0, .int .u32 0, .int .u32 0, .int .u32 0, .int .u32 0, .int .u32 0, .int .u32 0] 89)).alloc (.cells #[.int .u32 0, .int .u32 0, .int .u32 0, .int .u32 0, .int .u32 0, .int .u32 0, .int .u32 0, .int .u32 0, .int .u32 0, .int .u32 0, .int .u32 0, .int .u32 0, .int .u32 0, .int .u32 0, .int .u32 0, .int .u32 0] 101)) at hW0
  rw [← hW0]
  clear hW0
  generalize w.heap.size + 1 + 1 = gm at *
  generalize w.heap.size + 1 = gr at *
  obtain ⟨gh, hgh⟩ : ∃ gh, gh = w.heap.size := ⟨_, rfl⟩
  rw [← hgh]
  have HC := Lib.hid (show Ms w W0 gh gr gm h (mr (bl s) 0) by rw [hgh]; exact HC.out)
  clear hgh
  go_loopw [11] (fun x W => ∃ k : Nat, k ≤ 64 ∧ x = .int .i64 (k : Int) ∧ Hid (Ms w W gh gr gm h (mr (bl s) k))) (fun x _ => 64 - (intOf x).toNat)
  case atStart => exact ⟨0, by omega, rfl, HC⟩
  case round =>
    obtain ⟨k, hk, rfl, HK⟩ := hrel
    clear HC
    by_cases hk64 : k < 64
    · obtain ⟨q, hq⟩ : ∃ q, q = k / 4 := ⟨_, rfl⟩
      obtain ⟨r, hr⟩ : ∃ r, r = k % 4 := ⟨_, rfl⟩
      obtain ⟨e8, he8⟩ : ∃ e, e = 8 * r := ⟨_, rfl⟩
      have q1 : (k : Int) / 4 = (q : Int) := by omega
      have q2 : (k : Int).tdiv 4 = (q : Int) := by rw [Int.tdiv_eq_ediv_of_nonneg (by omega)]; exact q1
      have q3 : (k : Int) % 4 = (r : Int) := by omega
      have q4 : (k : Int).tmod 4 = (r : Int) := by rw [Int.tmod_eq_emod_of_nonneg (by omega)]; exact q3
      have q5 : IntKind.i64.wrap (q : Int) = (q : Int) := wrap64_id (by omega) (by omega)
      have q6 : IntKind.i64.wrap (8 * (r : Int)) = (e8 : Int) := by rw [wrap64_id (by omega) (by omega)]; omega
      have q7 : IntKind.u64.wrap (e8 : Int) = (e8 : Int) := by rw [IntKind.wrap_u64]; omega
      have l1 : (q : Int) < 16 := by omega
      have l2 : (k : Int) < 64 := by omega
      have l3 : (e8 : Int) < 32 := by omega
      have hks : k < s.size := by omega
      have hc := (HK.out.bm.cell q).trans (iw_at (by rw [mr_len]; omega))
      have hf := HK.out.bm.frozen q
      obtain ⟨c, hcc⟩ : ∃ c, c = s[k].toNat := ⟨_, rfl⟩
      have hc256 : c < 256 := by rw [hcc]; exact s[k].toNat_lt
      have q8 : (s[k].toNat : Int) = (c : Int) := by rw [hcc]
      have q9 : IntKind.u32.wrap (c : Int) = (c : Int) := by rw [wrap32]; omega
      obtain ⟨y, hy⟩ : ∃ y, y = (c : Int) * 2 ^ e8 % 4294967296 := ⟨_, rfl⟩
      have q10 : IntKind.u32.wrap ((c : Int) * 2 ^ e8) = y := by rw [wrap32, hy]
      have HMR := Lib.hid (show (mr (bl s) k).set q (orr ((mr (bl s) k).getD q 0) y) = mr (bl s) (k + 1) by
        show _ = (mr (bl s) k).set (k / 4) _
        rw [← hq, ← hr, ← he8, hy, hcc, show (bl s).getD k 0 = s[k] from get_d s hks])
      obtain ⟨z, hz⟩ : ∃ z, z = (mr (bl s) k).getD q 0 := ⟨_, rfl⟩
      rw [← hz] at hc HMR
      clear hq hr he8 hcc hy hz hc256
      go_wp2_with fail
      refine wp_region_still_tail 16 (by kernel_rfl) (by kernel_rfl) ?_
      simp only [List.take_succ_cons, List.take_zero, List.drop_succ_cons, List.drop_zero]
      repeat still_step
      refine wpStill_nil ?_
      change wpList _ _ _ _ _ wr.drew
      go_wp2_with fail
      go_roundw
      case rel => exact ⟨k + 1, by omega, by go_num, Lib.hid (by
        have := HK.out.drew.setM q (orr z y)
        rw [HMR.out] at this
        exact this)⟩
      case measure => simp [intOf]; omega
    · have HK64 := Lib.hid (show k = 64 by omega)
      rw [HK64.out, mr_all] at HK
      obtain ⟨M, hM⟩ : ∃ M, M = mws (bl s) 16 := ⟨_, rfl⟩
      rw [← hM] at HK
      have HM := Lib.hid hM
      clear hM
      go_wp2_with fail
      refine (rinitial_f _).mono ?_
      rintro e w1 ⟨rfl, hb1⟩
      have HK1 := Lib.hid (HK.out.below hb1)
      have HS1 := Lib.hid (Blk.new w1 89 ivA)
      have HK2 := Lib.hid (HK1.out.alloc (.cells ivA 89))
      clear hb1 HK
      obtain ⟨w2, hw2⟩ : ∃ w2, w2 = w1.alloc (.cells ivA 89) := ⟨_, rfl⟩
      have HZ2 := Lib.hid (show w2.heap.size = w1.heap.size + 1 by rw [hw2, asz])
      rw [← hw2] at HS1 HK2
      have HGM := Lib.hid (show gm < w1.heap.size from HK1.out.bm.lt)
      unfold ivA at hw2
      obtain ⟨w3, hw3⟩ : ∃ w3, w3 = w2.alloc (.cells (iw (List.replicate 16 0)) 101) := ⟨_, rfl⟩
      have HC3 := Lib.hid (show Cs w w3 gh gr gm (w1.heap.size + 1) h M (vr h 0) from by
        have hm := HK2.out.alloc (.cells (iw (List.replicate 16 0)) 101)
        have hv := Blk.new w2 101 (iw (List.replicate 16 0))
        rw [← hw3] at hm hv
        rw [HZ2.out] at hv
        exact ⟨hm.bh, hm.br, hm.bm, hv, hm.bel, hm.lo.1, hm.lo.2.1, hm.lo.2.2, by have := HGM.out; omega⟩)
      have HS3 := Lib.hid (show Blk w3 w1.heap.size 89 (iw iv) by rw [hw3]; exact HS1.out.alloc _)
      change w3 = w2.alloc (.cells #[.int .u32 0, .int .u32 0, .int .u32 0, .int .u32 0, .int .u32 0, .int .u32 0, .int .u32 0, .int .u32 0, .int .u32 0, .int .u32 0, .int .u32 0, .int .u32 0, .int .u32 0, .int .u32 0, .int .u32 0, .int .u32 0] 101) at hw3
      go_wp2_with fail
      rw [← hw2, ← hw3]
      clear hw2 hw3 HK1 HK2 HS1
      have hne : w1.heap.size ≠ w1.heap.size + 1 := by omega
      generalize w1.heap.size + 1 = gv at *
      generalize w1.heap.size = gs at *
      have hd64 : decide ((k : Int) < 64) = false := decide_eq_false (by omega)
      simp only [hd64]
      go_loopw [14] (fun x W => ∃ i : Nat, i ≤ 8 ∧ x = .int .i64 (i : Int) ∧ Hid (Cs w W gh gr gm gv h M (vr h i)) ∧ Hid (Blk W gs 89 (iw iv))) (fun x _ => 8 - (intOf x).toNat)
      case atStart => exact ⟨0, by omega, rfl, HC3, HS3⟩
      case round =>
        obtain ⟨i, hi, rfl, HC4, HS4⟩ := hrel
        clear HC3 HS3
        by_cases hi8 : i < 8
        · obtain ⟨i8, hi8'⟩ : ∃ j, j = i + 8 := ⟨_, rfl⟩
          have HNX := Lib.hid (show ((vr h i).set i (h.getD i 0)).set i8 (iv.getD i 0) = vr h (i + 1) by rw [hi8']; rfl)
          have c1 := (HC4.out.bh.cell i).trans (iw_at (by omega))
          have c2 := (HS4.out.cell i).trans (iw_at (show i < iv.length from hi8))
          have c3 := (HC4.out.bv.cell i).trans (iw_at (by rw [vr_len]; omega))
          have f3 := HC4.out.bv.frozen i
          obtain ⟨z1, hz1⟩ : ∃ z, z = h.getD i 0 := ⟨_, rfl⟩
          obtain ⟨z2, hz2⟩ : ∃ z, z = iv.getD i 0 := ⟨_, rfl⟩
          rw [← hz1] at c1 HNX
          rw [← hz2] at c2 HNX
          have HC5 := Lib.hid (HC4.out.setV i z1)
          have HS5 := Lib.hid (show Blk (wr.setCell ⟨gv, i, none⟩ (.int .u32 z1)) gs 89 (iw iv) from HS4.out.far hne _)
          have c4 := (HC5.out.bv.cell i8).trans (iw_at (by rw [List.length_set, vr_len]; omega))
          have f4 := HC5.out.bv.frozen i8
          have c5 := (HS5.out.cell i).trans (iw_at (show i < iv.length from hi8))
          rw [← hz2] at c5
          have q1 : (i : Int) + 8 = (i8 : Int) := by omega
          have l1 : (i : Int) < 8 := by omega
          have l2 : (i : Int) < 16 := by omega
          have l3 : (i8 : Int) < 16 := by omega
          clear hi8' hz1 hz2
          go_wp2_with fail
          go_roundw
          case rel => exact ⟨i + 1, by omega, by go_num, Lib.hid (by have := HC5.out.setV i8 z2; rw [HNX.out] at this; exact this), Lib.hid (HS5.out.far hne _)⟩
          case measure => simp [intOf]; omega
        · have HI8 := Lib.hid (show i = 8 by omega)
          rw [HI8.out, vr_all hl] at HC4
          have hvl : (h ++ iv).length = 16 := by rw [List.length_append, hl]; rfl
          have c12 := (HC4.out.bv.cell 12).trans (iw_at (by omega))
          have c13 := (HC4.out.bv.cell 13).trans (iw_at (by omega))
          have c14 := (HC4.out.bv.cell 14).trans (iw_at (by omega))
          have f12 := HC4.out.bv.frozen 12
          have f13 := HC4.out.bv.frozen 13
          have f14 := HC4.out.bv.frozen 14
          have e13 : (((h ++ iv).set 12 (xr ((h ++ iv).getD 12 0) ((t : Int) % 4294967296))).getD 13 0) = (h ++ iv).getD 13 0 := by
            rw [List.getD_eq_getElem?_getD, List.getElem?_set_ne (by omega), ← List.getD_eq_getElem?_getD]
          have e14 : ((((h ++ iv).set 12 (xr ((h ++ iv).getD 12 0) ((t : Int) % 4294967296))).set 13 (xr ((h ++ iv).getD 13 0) ((t : Int) / 4294967296))).getD 14 0) = (h ++ iv).getD 14 0 := by
            rw [List.getD_eq_getElem?_getD, List.getElem?_set_ne (by omega), List.getElem?_set_ne (by omega), ← List.getD_eq_getElem?_getD]
          have HV0 := Lib.hid (show ((h ++ iv).set 12 (xr ((h ++ iv).getD 12 0) ((t : Int) % 4294967296))).set 13 (xr ((h ++ iv).getD 13 0) ((t : Int) / 4294967296)) = vst h t false by unfold vst; simp only [e13]; rfl)
          have HV1 := Lib.hid (show (((h ++ iv).set 12 (xr ((h ++ iv).getD 12 0) ((t : Int) % 4294967296))).set 13 (xr ((h ++ iv).getD 13 0) ((t : Int) / 4294967296))).set 14 (xr 4294967295 ((h ++ iv).getD 14 0)) = vst h t true by unfold vst; simp only [e13, e14]; rfl)
          clear e13 e14 HS4
          obtain ⟨x12, hx12⟩ : ∃ x, x = (h ++ iv).getD 12 0 := ⟨_, rfl⟩
          obtain ⟨x13, hx13⟩ : ∃ x, x = (h ++ iv).getD 13 0 := ⟨_, rfl⟩
          obtain ⟨x14, hx14⟩ : ∃ x, x = (h ++ iv).getD 14 0 := ⟨_, rfl⟩
          rw [← hx12] at c12 HV0 HV1
          rw [← hx13] at c13 HV0 HV1
          rw [← hx14] at c14 HV1
          clear hx12 hx13 hx14
          have hsg : IntKind.u32.signed = false := rfl
          have hmx : IntKind.u32.max = 4294967295 := rfl
          have hdi : decide ((i : Int) < 8) = false := decide_eq_false (by omega)
          have hMl : M.length = 16 := by rw [HM.out]; exact mws_len _ _
          have HMW := Lib.hid (show Ws M by rw [HM.out]; exact mws_ws _ _)
          go_wp2_with fail
          have HK5 := Lib.hid (((HC4.out.setV 12 (xr x12 ((t : Int) % 4294967296))).setV 13 (xr x13 ((t : Int) / 4294967296))).setV 14 (xr 4294967295 x14))
          rw [HV1.out] at HK5
          clear HC4 c12 c13 c14 f12 f13 f14 HV0 HV1 hsg hmx
          try simp only [hdi]
          obtain ⟨v0, hv0⟩ : ∃ v0, v0 = vst h t true := ⟨_, rfl⟩
          have HV0 := Lib.hid hv0
          have HVL := Lib.hid (show v0.length = 16 by rw [hv0]; exact vst_len hl _ _)
          have HVW := Lib.hid (show Ws v0 by rw [hv0]; exact vst_ws HW.out _ _)
          rw [← hv0] at HK5
          have HCM := Lib.hid (show comp h (bl s) t true = fin h (rnds M v0 10) 8 by rw [hv0, HM.out]; rfl)
          clear hv0 HV0
          clear hdi hd64
          go_loopw [15] (fun x W => ∃ r : Nat, r ≤ 10 ∧ x = .int .i64 (r : Int) ∧ Hid (Cs w W gh gr gm gv h M (rnds M v0 r))) (fun x _ => 10 - (intOf x).toNat)
          case atStart => exact ⟨0, by omega, rfl, HK5⟩
          case round =>
            obtain ⟨r, hr, rfl, HK7⟩ := hrel
            clear HK5
            by_cases hr10 : r < 10
            · go_wp2_with fail
              refine (perm_f _ r hr10).mono ?_
              rintro e w6 ⟨rfl, rfl⟩
              obtain ⟨p, hp⟩ : ∃ p, prm r = p := ⟨_, rfl⟩
              rw [hp]
              have HP := Lib.hid hp
              clear hp
              go_wp2_with fail
              have HK8 := HK7
              clear HK7
              go_loopw [17] (fun x W => ∃ k : Nat, k ≤ 8 ∧ x = .int .i64 (k : Int) ∧ Hid (Cs w W gh gr gm gv h M (rnd M (rnds M v0 r) r k))) (fun x _ => 8 - (intOf x).toNat)
              case atStart => exact ⟨0, by omega, rfl, HK8⟩
              case round =>
                obtain ⟨k, hk, rfl, HK9⟩ := hrel
                clear HK8
                by_cases hk8 : k < 8
                · go_wp2_with fail
                  refine (cols_f _ k hk8).mono ?_
                  rintro e w7 ⟨rfl, hb7⟩
                  have HK10 := Lib.hid ((HK9.out.below hb7).alloc (.cells #[.int .i64 (qa k : Int), .int .i64 (qb k : Int), .int .i64 (qc k : Int), .int .i64 (qd k : Int)] 102))
                  clear HK9 hb7
                  have HB := Lib.hid (Blk.new w7 102 #[.int .i64 (qa k : Int), .int .i64 (qb k : Int), .int .i64 (qc k : Int), .int .i64 (qd k : Int)])
                  obtain ⟨w8, hw8⟩ : ∃ w8, w8 = w7.alloc (.cells #[.int .i64 (qa k : Int), .int .i64 (qb k : Int), .int .i64 (qc k : Int), .int .i64 (qd k : Int)] 102) := ⟨_, rfl⟩
                  rw [← hw8] at HB HK10
                  have HQ := Lib.hid (q_lt hk8)
                  have HQN := Lib.hid (q_ne hk8)
                  obtain ⟨na, hna⟩ : ∃ n, n = qa k := ⟨_, rfl⟩
                  obtain ⟨nb, hnb⟩ : ∃ n, n = qb k := ⟨_, rfl⟩
                  obtain ⟨nc, hnc⟩ : ∃ n, n = qc k := ⟨_, rfl⟩
                  obtain ⟨nd, hnd⟩ : ∃ n, n = qd k := ⟨_, rfl⟩
                  rw [← hna, ← hnb, ← hnc, ← hnd] at HB hw8 HQ HQN ⊢
                  have HNA := Lib.hid hna
                  have HNB := Lib.hid hnb
                  have HNC := Lib.hid hnc
                  have HND := Lib.hid hnd
                  clear hna hnb hnc hnd
                  go_wp2_with fail
                  rw [← hw8]
                  clear hw8
                  generalize w7.heap.size = gq at *
                  have q0 := HB.out.cell 0
                  have q1 := HB.out.cell 1
                  have q2 := HB.out.cell 2
                  have q3 := HB.out.cell 3
                  simp only [List.getElem?_toArray, List.getElem?_cons_zero, List.getElem?_cons_succ] at q0 q1 q2 q3
                  obtain ⟨k2, hk2⟩ : ∃ j, j = 2 * k := ⟨_, rfl⟩
                  obtain ⟨k3, hk3⟩ : ∃ j, j = 2 * k + 1 := ⟨_, rfl⟩
                  have v1 : IntKind.i64.wrap (2 * (k : Int)) = (k2 : Int) := by rw [wrap64_id (by omega) (by omega)]; omega
                  have v2 : IntKind.i64.wrap ((k2 : Int) + 1) = (k3 : Int) := by rw [wrap64_id (by omega) (by omega)]; omega
                  obtain ⟨i1, hi1⟩ : ∃ i, i = sg r (2 * k) := ⟨_, rfl⟩
                  obtain ⟨i2, hi2⟩ : ∃ i, i = sg r (2 * k + 1) := ⟨_, rfl⟩
                  obtain ⟨z1, z2, y1, y2⟩ : ∃ (z1 : k2 < p.size) (z2 : k3 < p.size), p[k2] = hexd i1 ∧ p[k3] = hexd i2 := by
                    rw [← HP.out]
                    exact ⟨by rw [prm_size]; omega, by rw [prm_size]; omega, by rw [prm_at, hi1, hk2], by rw [prm_at, hi2, hk3]⟩
                  have l1' : i1 < 16 := by have := sg_lt r (2 * k); omega
                  have l2' : i2 < 16 := by have := sg_lt r (2 * k + 1); omega
                  have l1 : (i1 : Int) < 16 := by omega
                  have l2 : (i2 : Int) < 16 := by omega
                  have HI1 := Lib.hid hi1
                  have HI2 := Lib.hid hi2
                  clear hi1 hi2 hk2 hk3
                  have HD1 := Lib.hid (fun V => digit_f V i1 l1')
                  have HD2 := Lib.hid (fun V => digit_f V i2 l2')
                  obtain ⟨d1, hd1⟩ : ∃ d, d = hexd i1 := ⟨_, rfl⟩
                  obtain ⟨d2, hd2⟩ : ∃ d, d = hexd i2 := ⟨_, rfl⟩
                  rw [← hd1] at HD1 y1
                  rw [← hd2] at HD2 y2
                  clear hd1 hd2
                  have m1 := (HK10.out.bm.cell i1).trans (iw_at (by omega))
                  have m2 := (HK10.out.bm.cell i2).trans (iw_at (by omega))
                  have HW1 := Lib.hid (show W (M.getD i1 0) from HMW.out.at_ _)
                  have HW2 := Lib.hid (show W (M.getD i2 0) from HMW.out.at_ _)
                  obtain ⟨x1, hx1⟩ : ∃ y, y = M.getD i1 0 := ⟨_, rfl⟩
                  obtain ⟨x2, hx2⟩ : ∃ y, y = M.getD i2 0 := ⟨_, rfl⟩
                  rw [← hx1] at m1 HW1
                  rw [← hx2] at m2 HW2
                  have HX1 := Lib.hid hx1
                  have HX2 := Lib.hid hx2
                  clear hx1 hx2
                  have HVR := Lib.hid (show (rnd M (rnds M v0 r) r k).length = 16 by rw [rnd_len, rnds_len]; exact HVL.out)
                  have HVS := Lib.hid (show Ws (rnd M (rnds M v0 r) r k) from rnd_ws (rnds_ws HVW.out r) r k)
                  have HNX := Lib.hid (show Gm (rnd M (rnds M v0 r) r k) na nb nc nd x1 x2 = rnd M (rnds M v0 r) r (k + 1) by rw [HNA.out, HNB.out, HNC.out, HND.out, HX1.out, HX2.out, HI1.out, HI2.out]; rfl)
                  obtain ⟨V, hV⟩ : ∃ V, V = rnd M (rnds M v0 r) r k := ⟨_, rfl⟩
                  rw [← hV] at HK10 HVR HVS HNX
                  clear hV
                  have HL9 := Lib.hid (show (Tryd.prog.info? 101).map (·.size) = some (iw V).size by rw [iw_size, HVR.out]; kernel_rfl)
                  refine wp_region_still_tail 24 (by kernel_rfl) (by kernel_rfl) ?_
                  simp only [List.take_succ_cons, List.take_zero, List.drop_succ_cons, List.drop_zero]
                  refine wpStill_load_row rfl 101 (.tmp 13) rfl gv rfl 101 (iw V) (0, 0) _ HK10.out.bv Tryd.underlying101 rfl HL9.out ?_
                  iterate 12 still_step
                  still_call (HD1.out _)
                  iterate 7 still_step
                  still_call (HD2.out _)
                  iterate 2 still_step
                  refine wpStill_nil ?_
                  change wpList _ _ _ _ _ w8.drew
                  have HK11 := Lib.hid HK10.out.drew
                  obtain ⟨qa1, qa2, qa3, qa4⟩ := HQ.out
                  obtain ⟨n1, n2, n3, n4, n5, n6⟩ := HQN.out
                  go_wp2_with fail
                  refine (rmix_f _ V HVR.out HVS.out na nb nc nd qa1 qa2 qa3 qa4 n1 n2 n3 n4 n5 n6 x1 x2 HW1.out HW2.out).mono ?_
                  rintro e w9 ⟨rfl, hb9⟩
                  have HK12 := Lib.hid (HK11.out.below hb9)
                  rw [HNX.out]
                  clear hb9 n1 n2 n3 n4 n5 n6 qa1 qa2 qa3 qa4
                  have HL10 := Lib.hid (show (Tryd.prog.info? 101).map (·.size) = some (iw (rnd M (rnds M v0 r) r (k + 1))).size by rw [iw_size, rnd_len, rnds_len, HVL.out]; kernel_rfl)
                  have HZ10 := Lib.hid (show (iw V).size = (iw (rnd M (rnds M v0 r) r (k + 1))).size by rw [iw_size, iw_size, rnd_len, rnds_len, HVL.out, HVR.out])
                  have HK13 := Lib.hid (HK12.out.row (x := rnd M (rnds M v0 r) r (k + 1)))
                  obtain ⟨V2, hV2⟩ : ∃ V2, V2 = rnd M (rnds M v0 r) r (k + 1) := ⟨_, rfl⟩
                  rw [← hV2] at HL10 HZ10 HK13 ⊢
                  have HV2 := Lib.hid hV2
                  clear hV2
                  go_wp2_with (first | ((with_reducible show wpList _ _ _ [Oper.mk none (.store 101 (.tmp 13) (.tmp 115)) _ _ _ _] _ _); refine wpList_store_row rfl 101 (.tmp 13) (.tmp 115) rfl gv (iw V2) rfl rfl 101 (iw V) HK12.out.bv HL10.out HZ10.out (iw_all V2) ?_))
                  go_roundw
                  case rel => exact ⟨k + 1, by omega, by go_num, Lib.hid (by rw [← HV2.out]; exact HK13.out)⟩
                  case measure => simp [intOf]; omega
                · have HK := Lib.hid (show k = 8 by omega)
                  rw [HK.out] at HK9
                  go_wp2_with fail
                  go_roundw
                  case rel => exact ⟨r + 1, by omega, by go_num, HK9⟩
                  case measure => simp [intOf]; omega
            · have HR10 := Lib.hid (show r = 10 by omega)
              rw [HR10.out] at HK7
              go_wp2_with fail
              have HFL := Lib.hid (show (rnds M v0 10).length = 16 by rw [rnds_len]; exact HVL.out)
              have HFW := Lib.hid (show Ws (rnds M v0 10) from rnds_ws HVW.out 10)
              obtain ⟨vf, hvf⟩ : ∃ vf, vf = rnds M v0 10 := ⟨_, rfl⟩
              rw [← hvf] at HK7 HFL HFW HCM
              clear hvf
              go_loopw [19] (fun x W => ∃ i : Nat, i ≤ 8 ∧ x = .int .i64 (i : Int) ∧ Hid (Cs w W gh gr gm gv (fin h vf i) M vf)) (fun x _ => 8 - (intOf x).toNat)
              case atStart => exact ⟨0, by omega, rfl, HK7⟩
              case round =>
                obtain ⟨i, hi, rfl, HK8⟩ := hrel
                clear HK7
                by_cases hi8 : i < 8
                · have c1 := (HK8.out.bh.cell i).trans (iw_at (by rw [fin_len]; omega))
                  have f1 := HK8.out.bh.frozen i
                  rw [fin_at h vf i i (Nat.le_refl _)] at c1
                  obtain ⟨i8, hi8'⟩ : ∃ j, j = i + 8 := ⟨_, rfl⟩
                  have c2 := (HK8.out.bv.cell i).trans (iw_at (by rw [HFL.out]; omega))
                  have c3 := (HK8.out.bv.cell i8).trans (iw_at (by rw [HFL.out]; omega))
                  have w1 : IntKind.i64.wrap ((i : Int) + 8) = (i8 : Int) := by rw [wrap64_id (by omega) (by omega)]; omega
                  have l1 : (i8 : Int) < 16 := by omega
                  have l2 : (i : Int) < 8 := by omega
                  have l3 : (i : Int) < 16 := by omega
                  have HI := Lib.hid hi8'
                  clear hi8'
                  obtain ⟨z1, hz1⟩ : ∃ z, z = h.getD i 0 := ⟨_, rfl⟩
                  obtain ⟨z2, hz2⟩ : ∃ z, z = vf.getD i 0 := ⟨_, rfl⟩
                  obtain ⟨z3, hz3⟩ : ∃ z, z = vf.getD i8 0 := ⟨_, rfl⟩
                  have HZ := Lib.hid (show (fin h vf i).set i (xr (xr z1 z2) z3) = fin h vf (i + 1) by rw [xr_assoc (by rw [hz1]; exact HW.out.at_ _) (by rw [hz2]; exact HFW.out.at_ _) (by rw [hz3]; exact HFW.out.at_ _), hz1, hz2, hz3, HI.out]; rfl)
                  rw [← hz1] at c1
                  rw [← hz2] at c2
                  rw [← hz3] at c3
                  clear hz1 hz2 hz3
                  go_wp2_with fail
                  refine wp_region_still_tail 14 (by kernel_rfl) (by kernel_rfl) ?_
                  simp only [List.take_succ_cons, List.take_zero, List.drop_succ_cons, List.drop_zero]
                  repeat still_step
                  refine wpStill_nil ?_
                  change wpList _ _ _ _ _ wr.drew
                  go_wp2_with fail
                  go_roundw
                  case rel => exact ⟨i + 1, by omega, by go_num, Lib.hid (by
                    have := HK8.out.drew.setH i (xr (xr z1 z2) z3)
                    rw [HZ.out] at this
                    exact this)⟩
                  case measure => simp [intOf]; omega
                · have HI8 := Lib.hid (show i = 8 by omega)
                  rw [HI8.out] at HK8
                  have hfl : (fin h vf 8).length = 8 := by rw [fin_len, hl]
                  rw [← HCM.out] at hfl HK8
                  obtain ⟨c0, c1, c2, c3, c4, c5, c6, c7, hc⟩ := eight hfl
                  rw [hc] at HK8
                  have HCC := Lib.hid hc
                  clear hc hfl
                  have e0 := (HK8.out.bh.cell 0).trans (iw_at (by simp))
                  have e1 := (HK8.out.bh.cell 1).trans (iw_at (by simp))
                  have e2 := (HK8.out.bh.cell 2).trans (iw_at (by simp))
                  have e3 := (HK8.out.bh.cell 3).trans (iw_at (by simp))
                  have e4 := (HK8.out.bh.cell 4).trans (iw_at (by simp))
                  have e5 := (HK8.out.bh.cell 5).trans (iw_at (by simp))
                  have e6 := (HK8.out.bh.cell 6).trans (iw_at (by simp))
                  have e7 := (HK8.out.bh.cell 7).trans (iw_at (by simp))
                  have z0 := (HK8.out.br.cell 0).trans (iw_at (by simp))
                  have z1 := (HK8.out.br.cell 1).trans (iw_at (by simp))
                  have z2 := (HK8.out.br.cell 2).trans (iw_at (by simp))
                  have z3 := (HK8.out.br.cell 3).trans (iw_at (by simp))
                  have z4 := (HK8.out.br.cell 4).trans (iw_at (by simp))
                  have z5 := (HK8.out.br.cell 5).trans (iw_at (by simp))
                  have z6 := (HK8.out.br.cell 6).trans (iw_at (by simp))
                  have z7 := (HK8.out.br.cell 7).trans (iw_at (by simp))
                  have f0 := HK8.out.br.frozen 0
                  have f1 := HK8.out.br.frozen 1
                  have f2 := HK8.out.br.frozen 2
                  have f3 := HK8.out.br.frozen 3
                  have f4 := HK8.out.br.frozen 4
                  have f5 := HK8.out.br.frozen 5
                  have f6 := HK8.out.br.frozen 6
                  have f7 := HK8.out.br.frozen 7
                  simp only [List.getD_cons_zero, List.getD_cons_succ] at e0 e1 e2 e3 e4 e5 e6 e7
                  have hd0 : (List.replicate 8 (0 : Int)) = [0, 0, 0, 0, 0, 0, 0, 0] := rfl
                  rw [hd0] at z0 z1 z2 z3 z4 z5 z6 z7
                  clear hd0
                  simp only [List.getD_cons_zero, List.getD_cons_succ] at z0 z1 z2 z3 z4 z5 z6 z7
                  go_wp2_with fail
                  have hlo := HK8.out.lo
                  have k0 := blk8_set HK8.out.br 0 c0
                  have k1 := blk8_set k0 1 c1
                  have k2 := blk8_set k1 2 c2
                  have k3 := blk8_set k2 3 c3
                  have k4 := blk8_set k3 4 c4
                  have k5 := blk8_set k4 5 c5
                  have k6 := blk8_set k5 6 c6
                  have k7 := blk8_set k6 7 c7
                  have b0 := HK8.out.bel.setCell (p := ⟨gr, 0, none⟩) (by show w.heap.size ≤ gr; omega) (.int .u32 c0)
                  have b1 := b0.setCell (p := ⟨gr, 1, none⟩) (by show w.heap.size ≤ gr; omega) (.int .u32 c1)
                  have b2 := b1.setCell (p := ⟨gr, 2, none⟩) (by show w.heap.size ≤ gr; omega) (.int .u32 c2)
                  have b3 := b2.setCell (p := ⟨gr, 3, none⟩) (by show w.heap.size ≤ gr; omega) (.int .u32 c3)
                  have b4 := b3.setCell (p := ⟨gr, 4, none⟩) (by show w.heap.size ≤ gr; omega) (.int .u32 c4)
                  have b5 := b4.setCell (p := ⟨gr, 5, none⟩) (by show w.heap.size ≤ gr; omega) (.int .u32 c5)
                  have b6 := b5.setCell (p := ⟨gr, 6, none⟩) (by show w.heap.size ≤ gr; omega) (.int .u32 c6)
                  have b7 := b6.setCell (p := ⟨gr, 7, none⟩) (by show w.heap.size ≤ gr; omega) (.int .u32 c7)
                  clear e0 e1 e2 e3 e4 e5 e6 e7 z0 z1 z2 z3 z4 z5 z6 z7 f0 f1 f2 f3 f4 f5 f6 f7 k0 k1 k2 k3 k4 k5 k6 b0 b1 b2 b3 b4 b5 b6
                  generalize ((((((((wr.setCell ⟨gr, 0, none⟩ (.int .u32 c0)).setCell ⟨gr, 1, none⟩ (.int .u32 c1)).setCell ⟨gr, 2, none⟩ (.int .u32 c2)).setCell ⟨gr, 3, none⟩ (.int .u32 c3)).setCell ⟨gr, 4, none⟩ (.int .u32 c4)).setCell ⟨gr, 5, none⟩ (.int .u32 c5)).setCell ⟨gr, 6, none⟩ (.int .u32 c6)).setCell ⟨gr, 7, none⟩ (.int .u32 c7)) = Wf at *
                  have hld := run_loadVar_row (P := Tryd.prog) Wf gr 89 89 (iw [c0, c1, c2, c3, c4, c5, c6, c7]) (0, 0) _ k7 Tryd.underlying89 rfl (by kernel_rfl)
                  rw [HCC.out]
                  exact bodyPost_ret (v := .tuple #[.agg (iw [c0, c1, c2, c3, c4, c5, c6, c7]), .int .i64 0]) (res_two rfl _ _ rfl rfl hld) rfl ⟨rfl, b7⟩

theorem rcompress_f (w : World) (h : List Int) (hl : h.length = 8) (hw : Ws h) (s : ByteArray) (hs : s.size = 64) (t : Nat) (ht : t < 18446744073709551616) (last : Bool) :
    Calls Tryd.prog 63 #[.agg (iw h), .string s, .int .u64 (t : Int), .bool last] w
      fun e w' => e = .returned (.tuple #[.agg (iw (comp h (bl s) t last)), .int .i64 0]) ∧ Below w.heap.size w w' := by
  cases last
  · exact rcompress_ff w h hl hw s hs t ht
  · exact rcompress_tt w h hl hw s hs t ht

end Bk
end Go.Proofs.YtnllocghmnhooaaDoor
