/- BLAKE2s: the program's Compress. -/
import Derived.Test.YtnllocghmnhooaaDoorBe
import Derived.StillTailTactics
import Derived.Laws.CopyRow
import Derived.Laws.Rows
import Derived.Laws.ResultCell
namespace Go.Proofs.YtnllocghmnhooaaDoor
open Go.RowKit
set_option linter.unusedVariables false
namespace Bk

/-- the blocks of a call of Compress: h (gh), its result (gr), the message (gm), the vector (gv) -/
structure Cs (w W : World) (gh gr gm gv : Nat) (h m v : List Int) : Prop where
  bh : Blk W gh 89 (iw h)
  br : Blk W gr 89 (iw (List.replicate 8 0))
  bm : Blk W gm 101 (iw m)
  bv : Blk W gv 101 (iw v)
  bel : Below w.heap.size w W
  lo : w.heap.size ≤ gh ∧ gh < gr ∧ gr < gm ∧ gm < gv
section
variable {w W W' : World} {gh gr gm gv : Nat} {h m v v' : List Int}
theorem Cs.alloc (c : Cs w W gh gr gm gv h m v) (o : Obj) : Cs w (W.alloc o) gh gr gm gv h m v :=
  ⟨c.bh.alloc o, c.br.alloc o, c.bm.alloc o, c.bv.alloc o, c.bel.alloc c.bel.size o, c.lo⟩
theorem Cs.drew (c : Cs w W gh gr gm gv h m v) : Cs w W.drew gh gr gm gv h m v := ⟨c.bh.drew, c.br.drew, c.bm.drew, c.bv.drew, c.bel.drew, c.lo⟩
theorem Cs.drewN (c : Cs w W gh gr gm gv h m v) (n : Nat) : Cs w (W.drewN n) gh gr gm gv h m v := ⟨c.bh.drewN n, c.br.drewN n, c.bm.drewN n, c.bv.drewN n, below_drewN c.bel n, c.lo⟩
theorem blk8_set {V : World} {g : Nat} {l : List Int} (h : Blk V g 89 (iw l)) (k : Nat) (x : Int) : Blk (V.setCell ⟨g, k, none⟩ (.int .u32 x)) g 89 (iw (l.set k x)) := by
  rw [← iw_set]
  exact h.set_ k _
theorem Cs.setM (c : Cs w W gh gr gm gv h m v) (k : Nat) (x : Int) : Cs w (W.setCell ⟨gm, k, none⟩ (.int .u32 x)) gh gr gm gv h (m.set k x) v := by
  have := c.lo
  exact ⟨c.bh.far (by show gh ≠ gm; omega) _, c.br.far (by show gr ≠ gm; omega) _, blk_set c.bm k x, c.bv.far (by show gv ≠ gm; omega) _, c.bel.setCell (by show w.heap.size ≤ gm; omega) _, c.lo⟩
theorem Cs.setV (c : Cs w W gh gr gm gv h m v) (k : Nat) (x : Int) : Cs w (W.setCell ⟨gv, k, none⟩ (.int .u32 x)) gh gr gm gv h m (v.set k x) := by
  have := c.lo
  exact ⟨c.bh.far (by show gh ≠ gv; omega) _, c.br.far (by show gr ≠ gv; omega) _, c.bm.far (by show gm ≠ gv; omega) _, blk_set c.bv k x, c.bel.setCell (by show w.heap.size ≤ gv; omega) _, c.lo⟩
theorem Cs.setH (c : Cs w W gh gr gm gv h m v) (k : Nat) (x : Int) : Cs w (W.setCell ⟨gh, k, none⟩ (.int .u32 x)) gh gr gm gv (h.set k x) m v := by
  have := c.lo
  exact ⟨blk8_set c.bh k x, c.br.far (by show gr ≠ gh; omega) _, c.bm.far (by show gm ≠ gh; omega) _, c.bv.far (by show gv ≠ gh; omega) _, c.bel.setCell (by show w.heap.size ≤ gh; omega) _, c.lo⟩
theorem Cs.below (c : Cs w W gh gr gm gv h m v) (hb : Below W.heap.size W W') : Cs w W' gh gr gm gv h m v :=
  ⟨c.bh.below hb, c.br.below hb, c.bm.below hb, c.bv.below hb, c.bel.trans (hb.mono c.bel.size), c.lo⟩
/-- only the vector has turned -/
theorem Cs.turnV (c : Cs w W gh gr gm gv h m v) (hg : W.grownBy W' (some gv)) (hv : Blk W' gv 101 (iw v')) : Cs w W' gh gr gm gv h m v' := by
  have := c.lo
  exact ⟨c.bh.grown hg (by simp; omega), c.br.grown hg (by simp; omega), c.bm.grown hg (by simp; omega), hv, c.bel.grown hg c.bel.size (fun k e => by injection e with e; omega), c.lo⟩
end

theorem wrap64_id {n : Int} (h0 : 0 ≤ n) (h1 : n < 9223372036854775808) : IntKind.i64.wrap n = n := by
  simp [IntKind.wrap, IntKind.bits, IntKind.signed]
  omega
theorem get_d (s : ByteArray) {i : Nat} (h : i < s.size) : s.data.toList.getD i 0 = s[i] := by
  rw [List.getD, List.getElem?_eq_getElem (by simpa using h)]
  rfl
theorem wd_at (s : ByteArray) {j j1 j2 j3 : Nat} (h1 : j1 = j + 1) (h2 : j2 = j + 2) (h3 : j3 = j + 3) (g0 : j < s.size) (g1 : j1 < s.size) (g2 : j2 < s.size) (g3 : j3 < s.size) : wd s.data.toList j = orr (orr (orr (s[j].toNat : Int) (s[j1].toNat * 256)) (s[j2].toNat * 65536)) (s[j3].toNat * 16777216) := by
  subst h1 h2 h3
  unfold wd
  rw [get_d s g0, get_d s g1, get_d s g2, get_d s g3]
theorem iw_one (l : List Int) : ∀ v ∈ (iw l).toList, v.oneCell' = true := by
  intro v hv
  unfold iw at hv
  simp at hv
  obtain ⟨x, _, rfl⟩ := hv
  rfl
theorem iw_splice (v a : List Int) (off : Nat) : ((iw v).toList.take off ++ ((iw a).toList ++ (iw v).toList.drop (off + (iw a).toList.length))).toArray = iw (v.take off ++ a ++ v.drop (off + a.length)) := by
  unfold iw
  simp [List.map_take, List.map_drop]
theorem blk_row {w : World} {g g' : Nat} {t : TypeId} {cs : Array Value} (h : Blk w g' t cs) (hne : g' ≠ g) (a : Array Value) : Blk (w.setRow g a) g' t cs := (setRow_other w g g' a hne).trans h
theorem Cs.row {w W : World} {gh gr gm gv : Nat} {h m v : List Int} (c : Cs w W gh gr gm gv h m v) {x : List Int} : Cs w (W.setRow gv (iw x)) gh gr gm gv h m x :=
  c.turnV ⟨rfl, rfl, rfl, by simp [World.setRow], fun k hk hne => setRow_other W gv k (iw x) (fun e => hne (by rw [e]))⟩ (setRow_heap W gv _ _ _ _ c.bv)
theorem vst_0 {h : List Int} (hl : h.length = 8) : (h ++ List.replicate 8 0).take 8 ++ iv ++ (h ++ List.replicate 8 0).drop (8 + iv.length) = h ++ iv := by
  rw [List.take_append_of_le_length (by omega), List.take_of_length_le (by omega), List.drop_eq_nil_of_le (by rw [List.length_append, hl]; decide), List.append_nil]
theorem res_two {P : Program} {fn : Func} {p u : Tmp} {ty : TypeId} (h : fn.results = #[.cell p ty, .tmp u]) (tmps : Array Value) (W : World) {g : Nat} {v v2 : Value} (hp : tmps.getD p undef = .pointer (some ⟨g, 0, none⟩)) (hu : tmps.getD u undef = v2)
    (hld : (loadVar ty ⟨g, 0, none⟩).run P W = .ok v W) : (results fn tmps).run P W = .ok (.tuple #[v, v2]) W := by
  rw [results_cell_tmp h, hp, hu]
  show (Sem.run P (loadVar ty ⟨g, 0, none⟩) W).andThen _ = _
  rw [hld]
  rfl
theorem asz (w : World) (o : Obj) : (w.alloc o).heap.size = w.heap.size + 1 := by simp
theorem cs_start (w : World) (A : List Int) : Cs w ((((w.alloc (.cells (iw A) 89)).alloc (.cells (iw (List.replicate 8 0)) 89)).alloc (.cells (iw (List.replicate 16 0)) 101)).alloc (.cells (iw (List.replicate 16 0)) 101)) w.heap.size (w.heap.size + 1) (w.heap.size + 1 + 1) (w.heap.size + 1 + 1 + 1) A (List.replicate 16 0) (List.replicate 16 0) := by
  have k2 := Blk.new (w.alloc (.cells (iw A) 89)) 89 (iw (List.replicate 8 0))
  have k3 := Blk.new ((w.alloc (.cells (iw A) 89)).alloc (.cells (iw (List.replicate 8 0)) 89)) 101 (iw (List.replicate 16 0))
  have k4 := Blk.new (((w.alloc (.cells (iw A) 89)).alloc (.cells (iw (List.replicate 8 0)) 89)).alloc (.cells (iw (List.replicate 16 0)) 101)) 101 (iw (List.replicate 16 0))
  rw [asz] at k2
  rw [asz, asz] at k3
  rw [asz, asz, asz] at k4
  exact ⟨(((Blk.new w _ _).alloc _).alloc _).alloc _, (k2.alloc _).alloc _, k3.alloc _, k4, ((((Below.refl _ w).alloc (Nat.le_refl _) _).alloc (by rw [asz]; omega) _).alloc (by rw [asz, asz]; omega) _).alloc (by rw [asz, asz, asz]; omega) _, by omega⟩

set_option maxRecDepth 100000 in
set_option maxHeartbeats 4000000 in
theorem compress_f (w : World) (h0 h1 h2 h3 h4 h5 h6 h7 : Int) (hw : Ws [h0, h1, h2, h3, h4, h5, h6, h7]) (s : ByteArray) (hs : s.size = 64) (t : Nat) (ht : t < 18446744073709551616) (last : Bool) :
    Calls Tryd.prog 68 #[.agg #[.int .u32 h0, .int .u32 h1, .int .u32 h2, .int .u32 h3, .int .u32 h4, .int .u32 h5, .int .u32 h6, .int .u32 h7], .string s, .int .u64 (t : Int), .bool last] w
      fun e w' => e = .returned (.tuple #[.agg (iw (comp [h0, h1, h2, h3, h4, h5, h6, h7] s.data.toList t last)), .int .i64 0]) ∧ Below w.heap.size w w' := by
  go_enter Tryd.func68, Tryd.ntmps68
  go_wp2_with fail
  obtain ⟨h, hh⟩ : ∃ h : List Int, h = [h0, h1, h2, h3, h4, h5, h6, h7] := ⟨_, rfl⟩
  have HC := Lib.hid (cs_start w [h0, h1, h2, h3, h4, h5, h6, h7])
  have HW := Lib.hid (show Ws h by rw [hh]; exact hw)
  have hl : h.length = 8 := by rw [hh]; rfl
  rw [← hh] at HC
  have HH := Lib.hid hh
  clear hw
  obtain ⟨W0, hW0⟩ : ∃ W0, W0 = ((((w.alloc (.cells (iw h) 89)).alloc (.cells (iw (List.replicate 8 0)) 89)).alloc (.cells (iw (List.replicate 16 0)) 101)).alloc (.cells (iw (List.replicate 16 0)) 101)) := ⟨_, rfl⟩
  rw [← hW0] at HC
  rw [hh] at hW0
  change W0 = ((((w.alloc (.cells #[.int .u32 h0, .int .u32 h1, .int .u32 h2, .int .u32 h3, .int .u32 h4, .int .u32 h5, .int .u32 h6, .int .u32 h7] 89)).alloc (.cells #[.int .u32 0, .int .u32 0, .int .u32 0, .int .u32 0, .int .u32 0, .int .u32 0, .int .u32 0, .int .u32 0] 89)).alloc (.cells #[.int .u32 0, .int .u32 0, .int .u32 0, .int .u32 0, .int .u32 0, .int .u32 0, .int .u32 0, .int .u32 0, .int .u32 0, .int .u32 0, .int .u32 0, .int .u32 0, .int .u32 0, .int .u32 0, .int .u32 0, .int .u32 0] 101)).alloc (.cells #[.int .u32 0, .int .u32 0, .int .u32 0, .int .u32 0, .int .u32 0, .int .u32 0, .int .u32 0, .int .u32 0, .int .u32 0, .int .u32 0, .int .u32 0, .int .u32 0, .int .u32 0, .int .u32 0, .int .u32 0, .int .u32 0] 101)) at hW0
  rw [← hW0]
  clear hW0 hh
  generalize w.heap.size + 1 + 1 + 1 = gv at *
  generalize w.heap.size + 1 + 1 = gm at *
  generalize w.heap.size + 1 = gr at *
  obtain ⟨gh, hgh⟩ : ∃ gh, gh = w.heap.size := ⟨_, rfl⟩
  rw [← hgh]
  have HC := Lib.hid (show Cs w W0 gh gr gm gv h (mz s.data.toList 0) (List.replicate 16 0) by rw [hgh, show mz s.data.toList 0 = List.replicate 16 0 from rfl]; exact HC.out)
  clear hgh
  go_loopw [25] (fun x W => ∃ k : Nat, k ≤ 16 ∧ x = .int .i64 (k : Int) ∧ Hid (Cs w W gh gr gm gv h (mz s.data.toList k) (List.replicate 16 0))) (fun x _ => 16 - (intOf x).toNat)
  case atStart => exact ⟨0, by omega, rfl, HC⟩
  case round =>
    obtain ⟨k, hk, rfl, HK⟩ := hrel
    clear HC
    by_cases hk16 : k < 16
    · have hfr := HK.out.bm.frozen k
      have hcl := (HK.out.bm.cell k).trans (iw_at (by rw [mz_len _ hk]; exact hk16))
      obtain ⟨j, hj⟩ : ∃ j, j = 4 * k := ⟨_, rfl⟩
      have f0 : IntKind.i64.wrap (4 * (k : Int)) = (j : Int) := by rw [wrap64_id (by omega) (by omega)]; omega
      obtain ⟨j1, hj1⟩ : ∃ j1, j1 = j + 1 := ⟨_, rfl⟩
      obtain ⟨j2, hj2⟩ : ∃ j2, j2 = j + 2 := ⟨_, rfl⟩
      obtain ⟨j3, hj3⟩ : ∃ j3, j3 = j + 3 := ⟨_, rfl⟩
      have f1 : IntKind.i64.wrap ((j : Int) + 1) = (j1 : Int) := by rw [wrap64_id (by omega) (by omega)]; omega
      have f2 : IntKind.i64.wrap ((j : Int) + 2) = (j2 : Int) := by rw [wrap64_id (by omega) (by omega)]; omega
      have f3 : IntKind.i64.wrap ((j : Int) + 3) = (j3 : Int) := by rw [wrap64_id (by omega) (by omega)]; omega
      have b0 : (j : Int) < 64 := by omega
      have b1 : (j1 : Int) < 64 := by omega
      have b2 : (j2 : Int) < 64 := by omega
      have b3 : (j3 : Int) < 64 := by omega
      have g0 : j < s.size := by omega
      have g1 : j1 < s.size := by omega
      have g2 : j2 < s.size := by omega
      have g3 : j3 < s.size := by omega
      have t0 := s[j].toNat_lt
      have t1 := s[j1].toNat_lt
      have t2 := s[j2].toNat_lt
      have t3 := s[j3].toNat_lt
      have u0 : IntKind.u32.wrap (s[j].toNat : Int) = (s[j].toNat : Int) := by rw [wrap32]; omega
      have u1 : IntKind.u32.wrap (s[j1].toNat : Int) = (s[j1].toNat : Int) := by rw [wrap32]; omega
      have u2 : IntKind.u32.wrap (s[j2].toNat : Int) = (s[j2].toNat : Int) := by rw [wrap32]; omega
      have u3 : IntKind.u32.wrap (s[j3].toNat : Int) = (s[j3].toNat : Int) := by rw [wrap32]; omega
      have v1 : IntKind.u32.wrap ((s[j1].toNat : Int) * 256) = (s[j1].toNat : Int) * 256 := by rw [wrap32]; omega
      have v2 : IntKind.u32.wrap ((s[j2].toNat : Int) * 65536) = (s[j2].toNat : Int) * 65536 := by rw [wrap32]; omega
      have v3 : IntKind.u32.wrap ((s[j3].toNat : Int) * 16777216) = (s[j3].toNat : Int) * 16777216 := by rw [wrap32]; omega
      clear t0 t1 t2 t3
      have HJ := Lib.hid hj
      have HWD := Lib.hid (wd_at s hj1 hj2 hj3 g0 g1 g2 g3)
      clear hj hj1 hj2 hj3
      go_wp2_with fail
      refine wp_region_still_tail 30 (by kernel_rfl) (by kernel_rfl) ?_
      simp only [List.take_succ_cons, List.take_zero, List.drop_succ_cons, List.drop_zero]
      repeat still_step
      refine wpStill_nil ?_
      change wpList _ _ _ _ _ wr.drew
      go_wp2_with fail
      go_roundw
      case rel => exact ⟨k + 1, by omega, by go_num, Lib.hid (by
        have := HK.out.drew.setM k (wd s.data.toList (4 * k))
        rw [mz_succ _ hk16] at this
        rw [← HJ.out, HWD.out] at this
        exact this)⟩
      case measure => simp [intOf]; omega
    · obtain rfl : k = 16 := by omega
      have hm16 : mz s.data.toList 16 = mws s.data.toList 16 := by unfold mz; simp
      rw [hm16] at HK
      clear hm16
      generalize hM : mws s.data.toList 16 = M at *
      have HM := Lib.hid hM
      clear hM
      go_wp2_with fail
      refine (initial_f _).mono ?_
      rintro e w1 ⟨rfl, hb1⟩
      have HK1 := Lib.hid (HK.out.below hb1)
      have HS1 := Lib.hid (Blk.new w1 89 ivA)
      have HK2 := Lib.hid (HK1.out.alloc (.cells ivA 89))
      have HL := Lib.hid (show gv < w1.heap.size from HK1.out.bv.lt)
      clear hb1 HK HK1
      obtain ⟨w2, hw2⟩ : ∃ w2, w2 = w1.alloc (.cells ivA 89) := ⟨_, rfl⟩
      rw [← hw2] at HS1 HK2
      unfold ivA at hw2
      go_wp2_with fail
      rw [← hw2]
      clear hw2
      generalize w1.heap.size = gs at *
      have hnes : gs ≠ gv := by have := HL.out; omega
      refine wp_region_still_tail 2 (by kernel_rfl) (by kernel_rfl) ?_
      simp only [List.take_succ_cons, List.take_zero, List.drop_succ_cons, List.drop_zero]
      repeat still_step
      refine wpStill_nil ?_
      change wpList _ _ _ _ _ w2.drew
      refine wpList_copy_own rfl (.tmp 61) (.tmp 62) 108 108 rfl 40 Tryd.underlying108 (by kernel_rfl) gv 0 8 16 ⟨gh, 0, none⟩ 8 8 rfl rfl (iw (List.replicate 16 0)) 101 HK2.out.bv (iw h).toList (by simp [iw, hl]) (fun j v hj => by rw [add_own]; exact (HK2.out.bh.cell j).trans (by simpa using hj)) (by simp [iw, hl]) (iw_one _) ?_
      rw [iw_splice, hl]
      have HK3 := Lib.hid (HK2.out.drew.row (x := (List.replicate 16 0).take 0 ++ h ++ (List.replicate 16 0).drop (0 + 8)))
      have HS3 := Lib.hid (blk_row HS1.out.drew hnes (iw ((List.replicate 16 0).take 0 ++ h ++ (List.replicate 16 0).drop (0 + 8))))
      clear HK2 HS1
      generalize w2.drew.setRow gv (iw ((List.replicate 16 0).take 0 ++ h ++ (List.replicate 16 0).drop (0 + 8))) = w3 at *
      rw [show (List.replicate 16 (0 : Int)).take 0 ++ h ++ (List.replicate 16 0).drop (0 + 8) = h ++ List.replicate 8 0 from rfl] at HK3
      go_wp2_with fail
      refine wp_region_still_tail 2 (by kernel_rfl) (by kernel_rfl) ?_
      simp only [List.take_succ_cons, List.take_zero, List.drop_succ_cons, List.drop_zero]
      repeat still_step
      refine wpStill_nil ?_
      change wpList _ _ _ _ _ w3.drew
      refine wpList_copy_own rfl (.tmp 64) (.tmp 65) 108 108 rfl 40 Tryd.underlying108 (by kernel_rfl) gv 8 8 8 ⟨gs, 0, none⟩ 8 8 rfl rfl (iw (h ++ List.replicate 8 0)) 101 HK3.out.bv (iw iv).toList rfl (fun j v hj => by rw [add_own]; exact (HS3.out.cell j).trans (by rw [ivA_eq]; simpa using hj)) (by simp [iw, hl, iv]) (iw_one _) ?_
      rw [iw_splice]
      have HK4 := Lib.hid (HK3.out.drew.row (x := (h ++ List.replicate 8 0).take 8 ++ iv ++ (h ++ List.replicate 8 0).drop (8 + iv.length)))
      clear HK3 HS3
      generalize w3.drew.setRow gv (iw ((h ++ List.replicate 8 0).take 8 ++ iv ++ (h ++ List.replicate 8 0).drop (8 + iv.length))) = w4 at *
      rw [vst_0 hl] at HK4
      have hvl : (h ++ iv).length = 16 := by rw [List.length_append, hl]; rfl
      have c12 := (HK4.out.bv.cell 12).trans (iw_at (by omega))
      have c13 := (HK4.out.bv.cell 13).trans (iw_at (by omega))
      have c14 := (HK4.out.bv.cell 14).trans (iw_at (by omega))
      have f12 := HK4.out.bv.frozen 12
      have f13 := HK4.out.bv.frozen 13
      have f14 := HK4.out.bv.frozen 14
      have e13 : (((h ++ iv).set 12 (xr ((h ++ iv).getD 12 0) ((t : Int) % 4294967296))).getD 13 0) = (h ++ iv).getD 13 0 := by
        rw [List.getD_eq_getElem?_getD, List.getElem?_set_ne (by omega), ← List.getD_eq_getElem?_getD]
      have e14 : ((((h ++ iv).set 12 (xr ((h ++ iv).getD 12 0) ((t : Int) % 4294967296))).set 13 (xr ((h ++ iv).getD 13 0) ((t : Int) / 4294967296))).getD 14 0) = (h ++ iv).getD 14 0 := by
        rw [List.getD_eq_getElem?_getD, List.getElem?_set_ne (by omega), List.getElem?_set_ne (by omega), ← List.getD_eq_getElem?_getD]
      have HV0 := Lib.hid (show ((h ++ iv).set 12 (xr ((h ++ iv).getD 12 0) ((t : Int) % 4294967296))).set 13 (xr ((h ++ iv).getD 13 0) ((t : Int) / 4294967296)) = vst h t false by unfold vst; simp only [e13]; rfl)
      have HV1 := Lib.hid (show (((h ++ iv).set 12 (xr ((h ++ iv).getD 12 0) ((t : Int) % 4294967296))).set 13 (xr ((h ++ iv).getD 13 0) ((t : Int) / 4294967296))).set 14 (xr 4294967295 ((h ++ iv).getD 14 0)) = vst h t true by unfold vst; simp only [e13, e14]; rfl)
      clear e13 e14
      obtain ⟨x12, hx12⟩ : ∃ x, x = (h ++ iv).getD 12 0 := ⟨_, rfl⟩
      obtain ⟨x13, hx13⟩ : ∃ x, x = (h ++ iv).getD 13 0 := ⟨_, rfl⟩
      obtain ⟨x14, hx14⟩ : ∃ x, x = (h ++ iv).getD 14 0 := ⟨_, rfl⟩
      rw [← hx12] at c12 HV0 HV1
      rw [← hx13] at c13 HV0 HV1
      rw [← hx14] at c14 HV1
      clear hx12 hx13 hx14
      have hsg : IntKind.u32.signed = false := rfl
      have hmx : IntKind.u32.max = 4294967295 := rfl
      cases last with
      | false =>
        go_wp2_with fail
        have HK5 := Lib.hid ((HK4.out.setV 12 (xr x12 ((t : Int) % 4294967296))).setV 13 (xr x13 ((t : Int) / 4294967296)))
        rw [HV0.out] at HK5
        refine (perms_f _).mono ?_
        rintro e w6 ⟨rfl, hb6⟩
        have HK6 := Lib.hid (HK5.out.below hb6)
        clear hb6 HK5 HK4 c12 c13 c14 f12 f13 f14 HV0 HV1 hsg hmx
        obtain ⟨v0, hv0⟩ : ∃ v0, v0 = vst h t false := ⟨_, rfl⟩
        have HV0 := Lib.hid hv0
        have HVL := Lib.hid (show v0.length = 16 by rw [hv0]; exact vst_len hl _ _)
        have HVW := Lib.hid (show Ws v0 by rw [hv0]; exact vst_ws HW.out _ _)
        rw [← hv0] at HK6
        clear hv0
        go_wp2_with fail
        go_loopw [86] (fun x W => ∃ r : Nat, r ≤ 10 ∧ x = .int .i64 (r : Int) ∧ Hid (Cs w W gh gr gm gv h M (rnds M v0 r))) (fun x _ => 10 - (intOf x).toNat)
        case atStart => exact ⟨0, by omega, rfl, HK6⟩
        case round =>
          obtain ⟨r, hr, rfl, HK7⟩ := hrel
          clear HK6
          by_cases hr10 : r < 10
          · go_wp2_with fail
            rw [run_index_pm _ hr10]
            simp only [Result.andThen_ok]
            have HSG := Lib.hid (sg_and r hr10)
            obtain ⟨p, hp⟩ : ∃ p, p = pms.getD r 0 := ⟨_, rfl⟩
            rw [← hp] at HSG
            rw [← hp]
            clear hp
            go_wp2_with fail
            refine (quads_f _).mono ?_
            rintro e w7 ⟨rfl, hb7⟩
            have HK8 := Lib.hid (HK7.out.below hb7)
            clear hb7 HK7
            go_wp2_with fail
            go_loopw [90] (fun x W => ∃ k : Nat, k ≤ 8 ∧ x = .int .i64 (k : Int) ∧ Hid (Cs w W gh gr gm gv h M (rnd M (rnds M v0 r) r k))) (fun x _ => 8 - (intOf x).toNat)
            case atStart => exact ⟨0, by omega, rfl, HK8⟩
            case round =>
              obtain ⟨k, hk, rfl, HK9⟩ := hrel
              clear HK8
              by_cases hk8 : k < 8
              · go_wp2_with fail
                rw [run_index_qd _ hk8]
                simp only [Result.andThen_ok]
                have HB := Lib.hid (Blk.new wr 102 #[.int .i64 (qa k : Int), .int .i64 (qb k : Int), .int .i64 (qc k : Int), .int .i64 (qd k : Int)])
                have HK10 := Lib.hid (HK9.out.alloc (.cells #[.int .i64 (qa k : Int), .int .i64 (qb k : Int), .int .i64 (qc k : Int), .int .i64 (qd k : Int)] 102))
                obtain ⟨w8, hw8⟩ : ∃ w8, w8 = wr.alloc (.cells #[.int .i64 (qa k : Int), .int .i64 (qb k : Int), .int .i64 (qc k : Int), .int .i64 (qd k : Int)] 102) := ⟨_, rfl⟩
                rw [← hw8] at HB HK10
                have HQ := Lib.hid (q_lt hk8)
                have HQN := Lib.hid (q_ne hk8)
                obtain ⟨na, hna⟩ : ∃ n, n = qa k := ⟨_, rfl⟩
                obtain ⟨nb, hnb⟩ : ∃ n, n = qb k := ⟨_, rfl⟩
                obtain ⟨nc, hnc⟩ : ∃ n, n = qc k := ⟨_, rfl⟩
                obtain ⟨nd, hnd⟩ : ∃ n, n = qd k := ⟨_, rfl⟩
                rw [← hna, ← hnb, ← hnc, ← hnd] at HB hw8 HQ HQN ⊢
                have HNA := Lib.hid hna
                have HNB := Lib.hid hnb
                have HNC := Lib.hid hnc
                have HND := Lib.hid hnd
                clear hna hnb hnc hnd
                go_wp2_with fail
                rw [← hw8]
                clear hw8
                generalize wr.heap.size = gq at *
                have q0 := HB.out.cell 0
                have q1 := HB.out.cell 1
                have q2 := HB.out.cell 2
                have q3 := HB.out.cell 3
                simp only [List.getElem?_toArray, List.getElem?_cons_zero, List.getElem?_cons_succ] at q0 q1 q2 q3
                obtain ⟨k8, hk8'⟩ : ∃ j, j = 8 * k := ⟨_, rfl⟩
                obtain ⟨s1, hs1⟩ : ∃ j, j = 60 - 8 * k := ⟨_, rfl⟩
                obtain ⟨s2, hs2⟩ : ∃ j, j = 56 - 8 * k := ⟨_, rfl⟩
                have hand := HSG.out k hk8
                rw [← hs1, ← hs2] at hand
                obtain ⟨ha1, ha2⟩ := hand
                have f0 : IntKind.i64.wrap (8 * (k : Int)) = (k8 : Int) := by rw [wrap64_id (by omega) (by omega)]; omega
                have f1 : IntKind.i64.wrap (60 - (k8 : Int)) = (s1 : Int) := by rw [wrap64_id (by omega) (by omega)]; omega
                have f2 : IntKind.i64.wrap (56 - (k8 : Int)) = (s2 : Int) := by rw [wrap64_id (by omega) (by omega)]; omega
                have g1 : (s1 : Int) < 64 := by omega
                have g2 : (s2 : Int) < 64 := by omega
                clear hk8' hs1 hs2
                obtain ⟨i1, hi1⟩ : ∃ i, i = sg r (2 * k) := ⟨_, rfl⟩
                obtain ⟨i2, hi2⟩ : ∃ i, i = sg r (2 * k + 1) := ⟨_, rfl⟩
                have l1 : (i1 : Int) < 16 := by have := sg_lt r (2 * k); omega
                have l2 : (i2 : Int) < 16 := by have := sg_lt r (2 * k + 1); omega
                have l1' : i1 < 16 := by omega
                have l2' : i2 < 16 := by omega
                rw [← hi1] at ha1
                rw [← hi2] at ha2
                have HI1 := Lib.hid hi1
                have HI2 := Lib.hid hi2
                clear hi1 hi2
                go_quiet (fail)
                go_wp2_with fail
                have HB9 := Lib.hid (HB.out.drewN nq)
                have HK11 := Lib.hid (HK10.out.drewN nq)
                clear HB HK10 HK9 q0 q1 q2 q3 f0 f1 f2 g1 g2 ha1 ha2 HSG
                generalize w8.drewN nq = w9 at *
                have hMl : M.length = 16 := by rw [← HM.out]; exact mws_len _ _
                have q0 := HB9.out.cell 0
                have q1 := HB9.out.cell 1
                have q2 := HB9.out.cell 2
                have q3 := HB9.out.cell 3
                simp only [List.getElem?_toArray, List.getElem?_cons_zero, List.getElem?_cons_succ] at q0 q1 q2 q3
                have m1 := (HK11.out.bm.cell i1).trans (iw_at (by omega))
                have m2 := (HK11.out.bm.cell i2).trans (iw_at (by omega))
                have HW1 := Lib.hid (show W (M.getD i1 0) from (show Ws M by rw [← HM.out]; exact mws_ws _ _).at_ _)
                have HW2 := Lib.hid (show W (M.getD i2 0) from (show Ws M by rw [← HM.out]; exact mws_ws _ _).at_ _)
                obtain ⟨y1, hy1⟩ : ∃ y, y = M.getD i1 0 := ⟨_, rfl⟩
                obtain ⟨y2, hy2⟩ : ∃ y, y = M.getD i2 0 := ⟨_, rfl⟩
                rw [← hy1] at m1 HW1
                rw [← hy2] at m2 HW2
                have HY1 := Lib.hid hy1
                have HY2 := Lib.hid hy2
                clear hy1 hy2
                refine wp_region_still_tail 7 (by kernel_rfl) (by kernel_rfl) ?_
                simp only [List.take_succ_cons, List.take_zero, List.drop_succ_cons, List.drop_zero]
                repeat still_step
                refine wpStill_nil ?_
                change wpList _ _ _ _ _ w9.drew
                go_wp2_with fail
                obtain ⟨qa1, qa2, qa3, qa4⟩ := HQ.out
                obtain ⟨n1, n2, n3, n4, n5, n6⟩ := HQN.out
                refine (mix_f w9.drew gv (rnd M (rnds M v0 r) r k) (by rw [rnd_len, rnds_len]; exact HVL.out) (rnd_ws (rnds_ws HVW.out r) r k) HK11.out.drew.bv na nb nc nd qa1 qa2 qa3 qa4 n1 n2 n3 n4 n5 n6 y1 y2 HW1.out HW2.out).mono ?_
                rintro e w10 ⟨rfl, hbv, hgr⟩
                have HK12 := Lib.hid (show Cs w w10 gh gr gm gv h M (rnd M (rnds M v0 r) r (k + 1)) by
                  have := HK11.out.drew.turnV hgr hbv
                  rw [HNA.out, HNB.out, HNC.out, HND.out, HY1.out, HY2.out, HI1.out, HI2.out] at this
                  exact this)
                clear hbv hgr n1 n2 n3 n4 n5 n6
                go_wp2_with fail
                go_roundw
                case rel => exact ⟨k + 1, by omega, by go_num, HK12⟩
                case measure => simp [intOf]; omega
              · obtain rfl : k = 8 := by omega
                go_wp2_with fail
                go_roundw
                case rel => exact ⟨r + 1, by omega, by go_num, HK9⟩
                case measure => simp [intOf]; omega
          · have HR10 := Lib.hid (show r = 10 by omega)
            rw [HR10.out] at HK7
            go_wp2_with fail
            have HFL := Lib.hid (show (rnds M v0 10).length = 16 by rw [rnds_len]; exact HVL.out)
            have HCM := Lib.hid (show comp h s.data.toList t false = fin h (rnds M v0 10) 8 by rw [HV0.out, ← HM.out]; rfl)
            obtain ⟨vf, hvf⟩ : ∃ vf, vf = rnds M v0 10 := ⟨_, rfl⟩
            rw [← hvf] at HK7 HFL HCM
            clear hvf
            go_loopw [116] (fun x W => ∃ i : Nat, i ≤ 8 ∧ x = .int .i64 (i : Int) ∧ Hid (Cs w W gh gr gm gv (fin h vf i) M vf)) (fun x _ => 8 - (intOf x).toNat)
            case atStart => exact ⟨0, by omega, rfl, HK7⟩
            case round =>
              obtain ⟨i, hi, rfl, HK8⟩ := hrel
              clear HK7
              by_cases hi8 : i < 8
              · have c1 := (HK8.out.bh.cell i).trans (iw_at (by rw [fin_len]; omega))
                have f1 := HK8.out.bh.frozen i
                rw [fin_at h vf i i (Nat.le_refl _)] at c1
                obtain ⟨i8, hi8'⟩ : ∃ j, j = i + 8 := ⟨_, rfl⟩
                have c2 := (HK8.out.bv.cell i).trans (iw_at (by rw [HFL.out]; omega))
                have c3 := (HK8.out.bv.cell i8).trans (iw_at (by rw [HFL.out]; omega))
                have w1 : IntKind.i64.wrap ((i : Int) + 8) = (i8 : Int) := by rw [wrap64_id (by omega) (by omega)]; omega
                have l1 : (i8 : Int) < 16 := by omega
                have l2 : (i : Int) < 8 := by omega
                have l3 : (i : Int) < 16 := by omega
                have HI := Lib.hid hi8'
                clear hi8'
                obtain ⟨z1, hz1⟩ : ∃ z, z = h.getD i 0 := ⟨_, rfl⟩
                obtain ⟨z2, hz2⟩ : ∃ z, z = vf.getD i 0 := ⟨_, rfl⟩
                obtain ⟨z3, hz3⟩ : ∃ z, z = vf.getD i8 0 := ⟨_, rfl⟩
                rw [← hz1] at c1
                rw [← hz2] at c2
                rw [← hz3] at c3
                have HZ := Lib.hid (show (fin h vf i).set i (xr z1 (xr z2 z3)) = fin h vf (i + 1) by rw [hz1, hz2, hz3, HI.out]; rfl)
                clear hz1 hz2 hz3
                go_wp2_with fail
                refine wp_region_still_tail 12 (by kernel_rfl) (by kernel_rfl) ?_
                simp only [List.take_succ_cons, List.take_zero, List.drop_succ_cons, List.drop_zero]
                repeat still_step
                refine wpStill_nil ?_
                change wpList _ _ _ _ _ wr.drew
                go_wp2_with fail
                go_roundw
                case rel => exact ⟨i + 1, by omega, by go_num, Lib.hid (by
                  have := HK8.out.drew.setH i (xr z1 (xr z2 z3))
                  rw [HZ.out] at this
                  exact this)⟩
                case measure => simp [intOf]; omega
              · have HI8 := Lib.hid (show i = 8 by omega)
                rw [HI8.out] at HK8
                have hfl : (fin h vf 8).length = 8 := by rw [fin_len, hl]
                rw [← HCM.out] at hfl HK8
                obtain ⟨c0, c1, c2, c3, c4, c5, c6, c7, hc⟩ := eight hfl
                rw [HH.out] at hc HK8
                rw [hc] at HK8
                have HCC := Lib.hid hc
                clear hc hfl
                have e0 := (HK8.out.bh.cell 0).trans (iw_at (by simp))
                have e1 := (HK8.out.bh.cell 1).trans (iw_at (by simp))
                have e2 := (HK8.out.bh.cell 2).trans (iw_at (by simp))
                have e3 := (HK8.out.bh.cell 3).trans (iw_at (by simp))
                have e4 := (HK8.out.bh.cell 4).trans (iw_at (by simp))
                have e5 := (HK8.out.bh.cell 5).trans (iw_at (by simp))
                have e6 := (HK8.out.bh.cell 6).trans (iw_at (by simp))
                have e7 := (HK8.out.bh.cell 7).trans (iw_at (by simp))
                have z0 := (HK8.out.br.cell 0).trans (iw_at (by simp))
                have z1 := (HK8.out.br.cell 1).trans (iw_at (by simp))
                have z2 := (HK8.out.br.cell 2).trans (iw_at (by simp))
                have z3 := (HK8.out.br.cell 3).trans (iw_at (by simp))
                have z4 := (HK8.out.br.cell 4).trans (iw_at (by simp))
                have z5 := (HK8.out.br.cell 5).trans (iw_at (by simp))
                have z6 := (HK8.out.br.cell 6).trans (iw_at (by simp))
                have z7 := (HK8.out.br.cell 7).trans (iw_at (by simp))
                have f0 := HK8.out.br.frozen 0
                have f1 := HK8.out.br.frozen 1
                have f2 := HK8.out.br.frozen 2
                have f3 := HK8.out.br.frozen 3
                have f4 := HK8.out.br.frozen 4
                have f5 := HK8.out.br.frozen 5
                have f6 := HK8.out.br.frozen 6
                have f7 := HK8.out.br.frozen 7
                simp only [List.getD_cons_zero, List.getD_cons_succ] at e0 e1 e2 e3 e4 e5 e6 e7
                have hd0 : (List.replicate 8 (0 : Int)) = [0, 0, 0, 0, 0, 0, 0, 0] := rfl
                rw [hd0] at z0 z1 z2 z3 z4 z5 z6 z7
                clear hd0
                simp only [List.getD_cons_zero, List.getD_cons_succ] at z0 z1 z2 z3 z4 z5 z6 z7
                go_wp2_with fail
                have hlo := HK8.out.lo
                have k0 := blk8_set HK8.out.br 0 c0
                have k1 := blk8_set k0 1 c1
                have k2 := blk8_set k1 2 c2
                have k3 := blk8_set k2 3 c3
                have k4 := blk8_set k3 4 c4
                have k5 := blk8_set k4 5 c5
                have k6 := blk8_set k5 6 c6
                have k7 := blk8_set k6 7 c7
                have b0 := HK8.out.bel.setCell (p := ⟨gr, 0, none⟩) (by show w.heap.size ≤ gr; omega) (.int .u32 c0)
                have b1 := b0.setCell (p := ⟨gr, 1, none⟩) (by show w.heap.size ≤ gr; omega) (.int .u32 c1)
                have b2 := b1.setCell (p := ⟨gr, 2, none⟩) (by show w.heap.size ≤ gr; omega) (.int .u32 c2)
                have b3 := b2.setCell (p := ⟨gr, 3, none⟩) (by show w.heap.size ≤ gr; omega) (.int .u32 c3)
                have b4 := b3.setCell (p := ⟨gr, 4, none⟩) (by show w.heap.size ≤ gr; omega) (.int .u32 c4)
                have b5 := b4.setCell (p := ⟨gr, 5, none⟩) (by show w.heap.size ≤ gr; omega) (.int .u32 c5)
                have b6 := b5.setCell (p := ⟨gr, 6, none⟩) (by show w.heap.size ≤ gr; omega) (.int .u32 c6)
                have b7 := b6.setCell (p := ⟨gr, 7, none⟩) (by show w.heap.size ≤ gr; omega) (.int .u32 c7)
                clear e0 e1 e2 e3 e4 e5 e6 e7 z0 z1 z2 z3 z4 z5 z6 z7 f0 f1 f2 f3 f4 f5 f6 f7 k0 k1 k2 k3 k4 k5 k6 b0 b1 b2 b3 b4 b5 b6
                generalize ((((((((wr.setCell ⟨gr, 0, none⟩ (.int .u32 c0)).setCell ⟨gr, 1, none⟩ (.int .u32 c1)).setCell ⟨gr, 2, none⟩ (.int .u32 c2)).setCell ⟨gr, 3, none⟩ (.int .u32 c3)).setCell ⟨gr, 4, none⟩ (.int .u32 c4)).setCell ⟨gr, 5, none⟩ (.int .u32 c5)).setCell ⟨gr, 6, none⟩ (.int .u32 c6)).setCell ⟨gr, 7, none⟩ (.int .u32 c7)) = Wf at *
                have hld := run_loadVar_row (P := Tryd.prog) Wf gr 89 89 (iw [c0, c1, c2, c3, c4, c5, c6, c7]) (0, 0) _ k7 Tryd.underlying89 rfl (by kernel_rfl)
                rw [HCC.out]
                exact bodyPost_ret (v := .tuple #[.agg (iw [c0, c1, c2, c3, c4, c5, c6, c7]), .int .i64 0]) (res_two rfl _ _ rfl rfl hld) rfl ⟨rfl, b7⟩
      | true =>
        go_wp2_with fail
        have HK5 := Lib.hid (((HK4.out.setV 12 (xr x12 ((t : Int) % 4294967296))).setV 13 (xr x13 ((t : Int) / 4294967296))).setV 14 (xr 4294967295 x14))
        rw [HV1.out] at HK5
        refine (perms_f _).mono ?_
        rintro e w6 ⟨rfl, hb6⟩
        have HK6 := Lib.hid (HK5.out.below hb6)
        clear hb6 HK5 HK4 c12 c13 c14 f12 f13 f14 HV0 HV1 hsg hmx
        obtain ⟨v0, hv0⟩ : ∃ v0, v0 = vst h t true := ⟨_, rfl⟩
        have HV0 := Lib.hid hv0
        have HVL := Lib.hid (show v0.length = 16 by rw [hv0]; exact vst_len hl _ _)
        have HVW := Lib.hid (show Ws v0 by rw [hv0]; exact vst_ws HW.out _ _)
        rw [← hv0] at HK6
        clear hv0
        go_wp2_with fail
        go_loopw [86] (fun x W => ∃ r : Nat, r ≤ 10 ∧ x = .int .i64 (r : Int) ∧ Hid (Cs w W gh gr gm gv h M (rnds M v0 r))) (fun x _ => 10 - (intOf x).toNat)
        case atStart => exact ⟨0, by omega, rfl, HK6⟩
        case round =>
          obtain ⟨r, hr, rfl, HK7⟩ := hrel
          clear HK6
          by_cases hr10 : r < 10
          · go_wp2_with fail
            rw [run_index_pm _ hr10]
            simp only [Result.andThen_ok]
            have HSG := Lib.hid (sg_and r hr10)
            obtain ⟨p, hp⟩ : ∃ p, p = pms.getD r 0 := ⟨_, rfl⟩
            rw [← hp] at HSG
            rw [← hp]
            clear hp
            go_wp2_with fail
            refine (quads_f _).mono ?_
            rintro e w7 ⟨rfl, hb7⟩
            have HK8 := Lib.hid (HK7.out.below hb7)
            clear hb7 HK7
            go_wp2_with fail
            go_loopw [90] (fun x W => ∃ k : Nat, k ≤ 8 ∧ x = .int .i64 (k : Int) ∧ Hid (Cs w W gh gr gm gv h M (rnd M (rnds M v0 r) r k))) (fun x _ => 8 - (intOf x).toNat)
            case atStart => exact ⟨0, by omega, rfl, HK8⟩
            case round =>
              obtain ⟨k, hk, rfl, HK9⟩ := hrel
              clear HK8
              by_cases hk8 : k < 8
              · go_wp2_with fail
                rw [run_index_qd _ hk8]
                simp only [Result.andThen_ok]
                have HB := Lib.hid (Blk.new wr 102 #[.int .i64 (qa k : Int), .int .i64 (qb k : Int), .int .i64 (qc k : Int), .int .i64 (qd k : Int)])
                have HK10 := Lib.hid (HK9.out.alloc (.cells #[.int .i64 (qa k : Int), .int .i64 (qb k : Int), .int .i64 (qc k : Int), .int .i64 (qd k : Int)] 102))
                obtain ⟨w8, hw8⟩ : ∃ w8, w8 = wr.alloc (.cells #[.int .i64 (qa k : Int), .int .i64 (qb k : Int), .int .i64 (qc k : Int), .int .i64 (qd k : Int)] 102) := ⟨_, rfl⟩
                rw [← hw8] at HB HK10
                have HQ := Lib.hid (q_lt hk8)
                have HQN := Lib.hid (q_ne hk8)
                obtain ⟨na, hna⟩ : ∃ n, n = qa k := ⟨_, rfl⟩
                obtain ⟨nb, hnb⟩ : ∃ n, n = qb k := ⟨_, rfl⟩
                obtain ⟨nc, hnc⟩ : ∃ n, n = qc k := ⟨_, rfl⟩
                obtain ⟨nd, hnd⟩ : ∃ n, n = qd k := ⟨_, rfl⟩
                rw [← hna, ← hnb, ← hnc, ← hnd] at HB hw8 HQ HQN ⊢
                have HNA := Lib.hid hna
                have HNB := Lib.hid hnb
                have HNC := Lib.hid hnc
                have HND := Lib.hid hnd
                clear hna hnb hnc hnd
                go_wp2_with fail
                rw [← hw8]
                clear hw8
                generalize wr.heap.size = gq at *
                have q0 := HB.out.cell 0
                have q1 := HB.out.cell 1
                have q2 := HB.out.cell 2
                have q3 := HB.out.cell 3
                simp only [List.getElem?_toArray, List.getElem?_cons_zero, List.getElem?_cons_succ] at q0 q1 q2 q3
                obtain ⟨k8, hk8'⟩ : ∃ j, j = 8 * k := ⟨_, rfl⟩
                obtain ⟨s1, hs1⟩ : ∃ j, j = 60 - 8 * k := ⟨_, rfl⟩
                obtain ⟨s2, hs2⟩ : ∃ j, j = 56 - 8 * k := ⟨_, rfl⟩
                have hand := HSG.out k hk8
                rw [← hs1, ← hs2] at hand
                obtain ⟨ha1, ha2⟩ := hand
                have f0 : IntKind.i64.wrap (8 * (k : Int)) = (k8 : Int) := by rw [wrap64_id (by omega) (by omega)]; omega
                have f1 : IntKind.i64.wrap (60 - (k8 : Int)) = (s1 : Int) := by rw [wrap64_id (by omega) (by omega)]; omega
                have f2 : IntKind.i64.wrap (56 - (k8 : Int)) = (s2 : Int) := by rw [wrap64_id (by omega) (by omega)]; omega
                have g1 : (s1 : Int) < 64 := by omega
                have g2 : (s2 : Int) < 64 := by omega
                clear hk8' hs1 hs2
                obtain ⟨i1, hi1⟩ : ∃ i, i = sg r (2 * k) := ⟨_, rfl⟩
                obtain ⟨i2, hi2⟩ : ∃ i, i = sg r (2 * k + 1) := ⟨_, rfl⟩
                have l1 : (i1 : Int) < 16 := by have := sg_lt r (2 * k); omega
                have l2 : (i2 : Int) < 16 := by have := sg_lt r (2 * k + 1); omega
                have l1' : i1 < 16 := by omega
                have l2' : i2 < 16 := by omega
                rw [← hi1] at ha1
                rw [← hi2] at ha2
                have HI1 := Lib.hid hi1
                have HI2 := Lib.hid hi2
                clear hi1 hi2
                go_quiet (fail)
                go_wp2_with fail
                have HB9 := Lib.hid (HB.out.drewN nq)
                have HK11 := Lib.hid (HK10.out.drewN nq)
                clear HB HK10 HK9 q0 q1 q2 q3 f0 f1 f2 g1 g2 ha1 ha2 HSG
                generalize w8.drewN nq = w9 at *
                have hMl : M.length = 16 := by rw [← HM.out]; exact mws_len _ _
                have q0 := HB9.out.cell 0
                have q1 := HB9.out.cell 1
                have q2 := HB9.out.cell 2
                have q3 := HB9.out.cell 3
                simp only [List.getElem?_toArray, List.getElem?_cons_zero, List.getElem?_cons_succ] at q0 q1 q2 q3
                have m1 := (HK11.out.bm.cell i1).trans (iw_at (by omega))
                have m2 := (HK11.out.bm.cell i2).trans (iw_at (by omega))
                have HW1 := Lib.hid (show W (M.getD i1 0) from (show Ws M by rw [← HM.out]; exact mws_ws _ _).at_ _)
                have HW2 := Lib.hid (show W (M.getD i2 0) from (show Ws M by rw [← HM.out]; exact mws_ws _ _).at_ _)
                obtain ⟨y1, hy1⟩ : ∃ y, y = M.getD i1 0 := ⟨_, rfl⟩
                obtain ⟨y2, hy2⟩ : ∃ y, y = M.getD i2 0 := ⟨_, rfl⟩
                rw [← hy1] at m1 HW1
                rw [← hy2] at m2 HW2
                have HY1 := Lib.hid hy1
                have HY2 := Lib.hid hy2
                clear hy1 hy2
                refine wp_region_still_tail 7 (by kernel_rfl) (by kernel_rfl) ?_
                simp only [List.take_succ_cons, List.take_zero, List.drop_succ_cons, List.drop_zero]
                repeat still_step
                refine wpStill_nil ?_
                change wpList _ _ _ _ _ w9.drew
                go_wp2_with fail
                obtain ⟨qa1, qa2, qa3, qa4⟩ := HQ.out
                obtain ⟨n1, n2, n3, n4, n5, n6⟩ := HQN.out
                refine (mix_f w9.drew gv (rnd M (rnds M v0 r) r k) (by rw [rnd_len, rnds_len]; exact HVL.out) (rnd_ws (rnds_ws HVW.out r) r k) HK11.out.drew.bv na nb nc nd qa1 qa2 qa3 qa4 n1 n2 n3 n4 n5 n6 y1 y2 HW1.out HW2.out).mono ?_
                rintro e w10 ⟨rfl, hbv, hgr⟩
                have HK12 := Lib.hid (show Cs w w10 gh gr gm gv h M (rnd M (rnds M v0 r) r (k + 1)) by
                  have := HK11.out.drew.turnV hgr hbv
                  rw [HNA.out, HNB.out, HNC.out, HND.out, HY1.out, HY2.out, HI1.out, HI2.out] at this
                  exact this)
                clear hbv hgr n1 n2 n3 n4 n5 n6
                go_wp2_with fail
                go_roundw
                case rel => exact ⟨k + 1, by omega, by go_num, HK12⟩
                case measure => simp [intOf]; omega
              · obtain rfl : k = 8 := by omega
                go_wp2_with fail
                go_roundw
                case rel => exact ⟨r + 1, by omega, by go_num, HK9⟩
                case measure => simp [intOf]; omega
          · have HR10 := Lib.hid (show r = 10 by omega)
            rw [HR10.out] at HK7
            go_wp2_with fail
            have HFL := Lib.hid (show (rnds M v0 10).length = 16 by rw [rnds_len]; exact HVL.out)
            have HCM := Lib.hid (show comp h s.data.toList t true = fin h (rnds M v0 10) 8 by rw [HV0.out, ← HM.out]; rfl)
            obtain ⟨vf, hvf⟩ : ∃ vf, vf = rnds M v0 10 := ⟨_, rfl⟩
            rw [← hvf] at HK7 HFL HCM
            clear hvf
            go_loopw [116] (fun x W => ∃ i : Nat, i ≤ 8 ∧ x = .int .i64 (i : Int) ∧ Hid (Cs w W gh gr gm gv (fin h vf i) M vf)) (fun x _ => 8 - (intOf x).toNat)
            case atStart => exact ⟨0, by omega, rfl, HK7⟩
            case round =>
              obtain ⟨i, hi, rfl, HK8⟩ := hrel
              clear HK7
              by_cases hi8 : i < 8
              · have c1 := (HK8.out.bh.cell i).trans (iw_at (by rw [fin_len]; omega))
                have f1 := HK8.out.bh.frozen i
                rw [fin_at h vf i i (Nat.le_refl _)] at c1
                obtain ⟨i8, hi8'⟩ : ∃ j, j = i + 8 := ⟨_, rfl⟩
                have c2 := (HK8.out.bv.cell i).trans (iw_at (by rw [HFL.out]; omega))
                have c3 := (HK8.out.bv.cell i8).trans (iw_at (by rw [HFL.out]; omega))
                have w1 : IntKind.i64.wrap ((i : Int) + 8) = (i8 : Int) := by rw [wrap64_id (by omega) (by omega)]; omega
                have l1 : (i8 : Int) < 16 := by omega
                have l2 : (i : Int) < 8 := by omega
                have l3 : (i : Int) < 16 := by omega
                have HI := Lib.hid hi8'
                clear hi8'
                obtain ⟨z1, hz1⟩ : ∃ z, z = h.getD i 0 := ⟨_, rfl⟩
                obtain ⟨z2, hz2⟩ : ∃ z, z = vf.getD i 0 := ⟨_, rfl⟩
                obtain ⟨z3, hz3⟩ : ∃ z, z = vf.getD i8 0 := ⟨_, rfl⟩
                rw [← hz1] at c1
                rw [← hz2] at c2
                rw [← hz3] at c3
                have HZ := Lib.hid (show (fin h vf i).set i (xr z1 (xr z2 z3)) = fin h vf (i + 1) by rw [hz1, hz2, hz3, HI.out]; rfl)
                clear hz1 hz2 hz3
                go_wp2_with fail
                refine wp_region_still_tail 12 (by kernel_rfl) (by kernel_rfl) ?_
                simp only [List.take_succ_cons, List.take_zero, List.drop_succ_cons, List.drop_zero]
                repeat still_step
                refine wpStill_nil ?_
                change wpList _ _ _ _ _ wr.drew
                go_wp2_with fail
                go_roundw
                case rel => exact ⟨i + 1, by omega, by go_num, Lib.hid (by
                  have := HK8.out.drew.setH i (xr z1 (xr z2 z3))
                  rw [HZ.out] at this
                  exact this)⟩
                case measure => simp [intOf]; omega
              · have HI8 := Lib.hid (show i = 8 by omega)
                rw [HI8.out] at HK8
                have hfl : (fin h vf 8).length = 8 := by rw [fin_len, hl]
                rw [← HCM.out] at hfl HK8
                obtain ⟨c0, c1, c2, c3, c4, c5, c6, c7, hc⟩ := eight hfl
                rw [HH.out] at hc HK8
                rw [hc] at HK8
                have HCC := Lib.hid hc
                clear hc hfl
                have e0 := (HK8.out.bh.cell 0).trans (iw_at (by simp))
                have e1 := (HK8.out.bh.cell 1).trans (iw_at (by simp))
                have e2 := (HK8.out.bh.cell 2).trans (iw_at (by simp))
                have e3 := (HK8.out.bh.cell 3).trans (iw_at (by simp))
                have e4 := (HK8.out.bh.cell 4).trans (iw_at (by simp))
                have e5 := (HK8.out.bh.cell 5).trans (iw_at (by simp))
                have e6 := (HK8.out.bh.cell 6).trans (iw_at (by simp))
                have e7 := (HK8.out.bh.cell 7).trans (iw_at (by simp))
                have z0 := (HK8.out.br.cell 0).trans (iw_at (by simp))
                have z1 := (HK8.out.br.cell 1).trans (iw_at (by simp))
                have z2 := (HK8.out.br.cell 2).trans (iw_at (by simp))
                have z3 := (HK8.out.br.cell 3).trans (iw_at (by simp))
                have z4 := (HK8.out.br.cell 4).trans (iw_at (by simp))
                have z5 := (HK8.out.br.cell 5).trans (iw_at (by simp))
                have z6 := (HK8.out.br.cell 6).trans (iw_at (by simp))
                have z7 := (HK8.out.br.cell 7).trans (iw_at (by simp))
                have f0 := HK8.out.br.frozen 0
                have f1 := HK8.out.br.frozen 1
                have f2 := HK8.out.br.frozen 2
                have f3 := HK8.out.br.frozen 3
                have f4 := HK8.out.br.frozen 4
                have f5 := HK8.out.br.frozen 5
                have f6 := HK8.out.br.frozen 6
                have f7 := HK8.out.br.frozen 7
                simp only [List.getD_cons_zero, List.getD_cons_succ] at e0 e1 e2 e3 e4 e5 e6 e7
                have hd0 : (List.replicate 8 (0 : Int)) = [0, 0, 0, 0, 0, 0, 0, 0] := rfl
                rw [hd0] at z0 z1 z2 z3 z4 z5 z6 z7
                clear hd0
                simp only [List.getD_cons_zero, List.getD_cons_succ] at z0 z1 z2 z3 z4 z5 z6 z7
                go_wp2_with fail
                have hlo := HK8.out.lo
                have k0 := blk8_set HK8.out.br 0 c0
                have k1 := blk8_set k0 1 c1
                have k2 := blk8_set k1 2 c2
                have k3 := blk8_set k2 3 c3
                have k4 := blk8_set k3 4 c4
                have k5 := blk8_set k4 5 c5
                have k6 := blk8_set k5 6 c6
                have k7 := blk8_set k6 7 c7
                have b0 := HK8.out.bel.setCell (p := ⟨gr, 0, none⟩) (by show w.heap.size ≤ gr; omega) (.int .u32 c0)
                have b1 := b0.setCell (p := ⟨gr, 1, none⟩) (by show w.heap.size ≤ gr; omega) (.int .u32 c1)
                have b2 := b1.setCell (p := ⟨gr, 2, none⟩) (by show w.heap.size ≤ gr; omega) (.int .u32 c2)
                have b3 := b2.setCell (p := ⟨gr, 3, none⟩) (by show w.heap.size ≤ gr; omega) (.int .u32 c3)
                have b4 := b3.setCell (p := ⟨gr, 4, none⟩) (by show w.heap.size ≤ gr; omega) (.int .u32 c4)
                have b5 := b4.setCell (p := ⟨gr, 5, none⟩) (by show w.heap.size ≤ gr; omega) (.int .u32 c5)
                have b6 := b5.setCell (p := ⟨gr, 6, none⟩) (by show w.heap.size ≤ gr; omega) (.int .u32 c6)
                have b7 := b6.setCell (p := ⟨gr, 7, none⟩) (by show w.heap.size ≤ gr; omega) (.int .u32 c7)
                clear e0 e1 e2 e3 e4 e5 e6 e7 z0 z1 z2 z3 z4 z5 z6 z7 f0 f1 f2 f3 f4 f5 f6 f7 k0 k1 k2 k3 k4 k5 k6 b0 b1 b2 b3 b4 b5 b6
                generalize ((((((((wr.setCell ⟨gr, 0, none⟩ (.int .u32 c0)).setCell ⟨gr, 1, none⟩ (.int .u32 c1)).setCell ⟨gr, 2, none⟩ (.int .u32 c2)).setCell ⟨gr, 3, none⟩ (.int .u32 c3)).setCell ⟨gr, 4, none⟩ (.int .u32 c4)).setCell ⟨gr, 5, none⟩ (.int .u32 c5)).setCell ⟨gr, 6, none⟩ (.int .u32 c6)).setCell ⟨gr, 7, none⟩ (.int .u32 c7)) = Wf at *
                have hld := run_loadVar_row (P := Tryd.prog) Wf gr 89 89 (iw [c0, c1, c2, c3, c4, c5, c6, c7]) (0, 0) _ k7 Tryd.underlying89 rfl (by kernel_rfl)
                rw [HCC.out]
                exact bodyPost_ret (v := .tuple #[.agg (iw [c0, c1, c2, c3, c4, c5, c6, c7]), .int .i64 0]) (res_two rfl _ _ rfl rfl hld) rfl ⟨rfl, b7⟩

end Bk
end Go.Proofs.YtnllocghmnhooaaDoor
