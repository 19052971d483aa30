/- BLAKE2s of the reference: mix. -/
import Derived.Test.YtnllocghmnhooaaDoorBd
import Derived.Laws.CopyOwn
namespace Go.Proofs.YtnllocghmnhooaaDoor
open Go.RowKit
set_option linter.unusedVariables false
namespace Bk

theorem set_getD_ne {l : List Int} {i j : Nat} (h : i ≠ j) (x : Int) : (l.set i x).getD j 0 = l.getD j 0 := by
  rw [List.getD_eq_getElem?_getD, List.getElem?_set_ne h, ← List.getD_eq_getElem?_getD]
theorem set_getD_eq {l : List Int} {i : Nat} (h : i < l.length) (x : Int) : (l.set i x).getD i 0 = x := by
  rw [List.getD_eq_getElem?_getD, List.getElem?_set_self h]; rfl
/-- the stores of the reference's mix, one by one, are those of the program -/
theorem set8 (l : List Int) {a b c d : Nat} (hab : a ≠ b) (hac : a ≠ c) (had : a ≠ d) (hbc : b ≠ c) (hbd : b ≠ d) (hcd : c ≠ d) (a1 d1 c1 b1 a2 d2 c2 b2 : Int) :
    (((((((l.set a a1).set d d1).set c c1).set b b1).set a a2).set d d2).set c c2).set b b2 = (((l.set a a2).set b b2).set c c2).set d d2 := by
  have s1 := hab.symm
  have s2 := hac.symm
  have s3 := had.symm
  have s4 := hbc.symm
  have s5 := hbd.symm
  have s6 := hcd.symm
  apply List.ext_getElem?
  intro i
  simp only [List.getElem?_set, List.length_set]
  by_cases h1 : d = i
  · subst h1
    simp [*]
  by_cases h2 : c = i
  · subst h2
    simp [*]
  by_cases h3 : b = i
  · subst h3
    simp [*]
  by_cases h4 : a = i
  · subst h4
    simp [*]
  simp [*]

theorem iw_all (l : List Int) : (iw l).all (·.oneCell') = true := by
  simp only [iw, List.all_toArray, List.all_map, List.all_eq_true]
  intro x _
  rfl
/-- the blocks of a call of the reference's mix -/
def Rs (w W : World) (gv gr : Nat) (l : List Int) : Prop := Blk W gv 101 (iw l) ∧ Blk W gr 101 (iw (List.replicate 16 0)) ∧ Below w.heap.size w W ∧ w.heap.size ≤ gv ∧ gv < gr
theorem Rs.drew {w W : World} {gv gr : Nat} {l : List Int} (h : Rs w W gv gr l) : Rs w W.drew gv gr l := ⟨h.1.drew, h.2.1.drew, h.2.2.1.drew, h.2.2.2⟩
theorem Rs.set {w W : World} {gv gr : Nat} {l : List Int} (h : Rs w W gv gr l) (k : Nat) (x : Int) : Rs w (W.setCell ⟨gv, k, none⟩ (.int .u32 x)) gv gr (l.set k x) :=
  ⟨blk_set h.1 k x, h.2.1.far (by show gr ≠ gv; have := h.2.2.2.2; omega) _, h.2.2.1.setCell (by exact h.2.2.2.1) _, h.2.2.2⟩
theorem rs_start (w : World) (l : List Int) : Rs w ((w.alloc (.cells (iw l) 101)).alloc (.cells (iw (List.replicate 16 0)) 101)) w.heap.size (w.heap.size + 1) l := by
  have k := Blk.new (w.alloc (.cells (iw l) 101)) 101 (iw (List.replicate 16 0))
  rw [asz] at k
  exact ⟨(Blk.new w _ _).alloc _, k, ((Below.refl _ w).alloc (Nat.le_refl _) _).alloc (by rw [asz]; omega) _, Nat.le_refl _, by omega⟩
theorem rrot16 (x : Int) (hx : W x) (w : World) : Calls Tryd.prog 93 #[.int .u32 x, .int .u64 16] w fun e w' => e = .returned (.int .u32 (rr 16 x)) ∧ w' = w := rrot x 16 hx (by omega) w
theorem rrot12 (x : Int) (hx : W x) (w : World) : Calls Tryd.prog 93 #[.int .u32 x, .int .u64 12] w fun e w' => e = .returned (.int .u32 (rr 12 x)) ∧ w' = w := rrot x 12 hx (by omega) w
theorem rrot8 (x : Int) (hx : W x) (w : World) : Calls Tryd.prog 93 #[.int .u32 x, .int .u64 8] w fun e w' => e = .returned (.int .u32 (rr 8 x)) ∧ w' = w := rrot x 8 hx (by omega) w
theorem rrot7 (x : Int) (hx : W x) (w : World) : Calls Tryd.prog 93 #[.int .u32 x, .int .u64 7] w fun e w' => e = .returned (.int .u32 (rr 7 x)) ∧ w' = w := rrot x 7 hx (by omega) w
theorem ladd {a b x : Int} : ((a + b) % 4294967296 + x) % 4294967296 = (a + (b + x) % 4294967296) % 4294967296 := by omega

set_option maxRecDepth 100000 in
set_option maxHeartbeats 4000000 in
theorem rmix_f (w : World) (l : List Int) (hl : l.length = 16) (hw : Ws l) (a b c d : Nat) (ha : a < 16) (hb : b < 16) (hc : c < 16) (hd : d < 16) (hab : a ≠ b) (hac : a ≠ c) (had : a ≠ d) (hbc : b ≠ c) (hbd : b ≠ d) (hcd : c ≠ d) (x y : Int) (hx : W x) (hy : W y) :
    Calls Tryd.prog 77 #[.agg (iw l), .int .i64 (a : Int), .int .i64 (b : Int), .int .i64 (c : Int), .int .i64 (d : Int), .int .u32 x, .int .u32 y] w
      fun e w' => e = .returned (.agg (iw (Gm l a b c d x y))) ∧ Below w.heap.size w w' := by
  go_enter Tryd.func77, Tryd.ntmps77
  go_wp2_with fail
  have HR0 := Lib.hid (rs_start w l)
  obtain ⟨V0, hV0⟩ : ∃ V, V = (w.alloc (.cells (iw l) 101)).alloc (.cells (iw (List.replicate 16 0)) 101) := ⟨_, rfl⟩
  rw [← hV0] at HR0
  change V0 = (w.alloc (.cells (iw l) 101)).alloc (.cells #[.int .u32 0, .int .u32 0, .int .u32 0, .int .u32 0, .int .u32 0, .int .u32 0, .int .u32 0, .int .u32 0, .int .u32 0, .int .u32 0, .int .u32 0, .int .u32 0, .int .u32 0, .int .u32 0, .int .u32 0, .int .u32 0] 101) at hV0
  rw [← hV0]
  clear hV0
  generalize w.heap.size + 1 = gr at *
  obtain ⟨gv, hgv⟩ : ∃ g, g = w.heap.size := ⟨_, rfl⟩
  rw [← hgv] at HR0 ⊢
  clear hgv
  have aI : (a : Int) < 16 := by omega
  have bI : (b : Int) < 16 := by omega
  have cI : (c : Int) < 16 := by omega
  have dI : (d : Int) < 16 := by omega
  have ca : l.getD a 0 = l.getD a 0 := rfl
  obtain ⟨la, hla⟩ : ∃ z, z = l.getD a 0 := ⟨_, rfl⟩
  have HLa0 := Lib.hid hla
  obtain ⟨lb, hlb⟩ : ∃ z, z = l.getD b 0 := ⟨_, rfl⟩
  have HLb0 := Lib.hid hlb
  obtain ⟨lc, hlc⟩ : ∃ z, z = l.getD c 0 := ⟨_, rfl⟩
  have HLc0 := Lib.hid hlc
  obtain ⟨ld, hld⟩ : ∃ z, z = l.getD d 0 := ⟨_, rfl⟩
  have HLd0 := Lib.hid hld
  have HG0 := Lib.hid (show l.getD a 0 = la ∧ l.getD b 0 = lb ∧ l.getD c 0 = lc ∧ l.getD d 0 = ld from ⟨hla.symm, hlb.symm, hlc.symm, hld.symm⟩)
  clear ca hla hlb hlc hld
  have HLN0 := Lib.hid hl
  -- region 1
  have ka : V0.drew.cell? ⟨gv, a, none⟩ = some (.int .u32 la) := (HR0.out.1.cell a).trans (by rw [iw_at (by rw [HLN0.out]; exact ha), HG0.out.1])
  have kb : V0.drew.cell? ⟨gv, b, none⟩ = some (.int .u32 lb) := (HR0.out.1.cell b).trans (by rw [iw_at (by rw [HLN0.out]; exact hb), HG0.out.2.1])
  have kc : V0.drew.cell? ⟨gv, c, none⟩ = some (.int .u32 lc) := (HR0.out.1.cell c).trans (by rw [iw_at (by rw [HLN0.out]; exact hc), HG0.out.2.2.1])
  have kd : V0.drew.cell? ⟨gv, d, none⟩ = some (.int .u32 ld) := (HR0.out.1.cell d).trans (by rw [iw_at (by rw [HLN0.out]; exact hd), HG0.out.2.2.2])
  have kf : V0.drew.frozen? ⟨gv, a, none⟩ = false := HR0.out.1.frozen a
  obtain ⟨t0, ht0⟩ : ∃ z, z = (la + lb) % 4294967296 := ⟨_, rfl⟩
  obtain ⟨a1, ha1⟩ : ∃ z, z = (t0 + x) % 4294967296 := ⟨_, rfl⟩
  have p1 : IntKind.u32.wrap (la + lb) = t0 := by rw [wrap32, ht0]
  have p2 : IntKind.u32.wrap (t0 + x) = a1 := by rw [wrap32, ha1]
  have HN0 := Lib.hid (show a1 = (la + (lb + x) % 4294967296) % 4294967296 by rw [ha1, ht0, ladd])
  clear ht0 ha1
  refine wp_region_still_tail 10 (by kernel_rfl) (by kernel_rfl) ?_
  simp only [List.take_succ_cons, List.take_zero, List.drop_succ_cons, List.drop_zero]
  repeat (still_step)
  refine wpStill_nil ?_
  change wpList _ _ _ _ _ V0.drew
  go_wp2_with fail
  have HR1 := Lib.hid (HR0.out.set a a1).drew
  have HLN1 := Lib.hid (show ((l).set a a1).length = 16 by rw [List.length_set]; exact HLN0.out)
  have HG1 := Lib.hid (show ((l).set a a1).getD a 0 = a1 ∧ ((l).set a a1).getD b 0 = lb ∧ ((l).set a a1).getD c 0 = lc ∧ ((l).set a a1).getD d 0 = ld from ⟨set_getD_eq (by rw [HLN0.out]; exact ha) _, (set_getD_ne hab _).trans HG0.out.2.1, (set_getD_ne hac _).trans HG0.out.2.2.1, (set_getD_ne had _).trans HG0.out.2.2.2⟩)
  clear ka kb kc kd kf p1 p2 HR0
  generalize (V0.setCell ⟨gv, a, none⟩ (.int .u32 a1)).drew = V1 at *
  -- region 2
  have ka : V1.drew.cell? ⟨gv, a, none⟩ = some (.int .u32 a1) := (HR1.out.1.cell a).trans (by rw [iw_at (by rw [HLN1.out]; exact ha), HG1.out.1])
  have kb : V1.drew.cell? ⟨gv, b, none⟩ = some (.int .u32 lb) := (HR1.out.1.cell b).trans (by rw [iw_at (by rw [HLN1.out]; exact hb), HG1.out.2.1])
  have kc : V1.drew.cell? ⟨gv, c, none⟩ = some (.int .u32 lc) := (HR1.out.1.cell c).trans (by rw [iw_at (by rw [HLN1.out]; exact hc), HG1.out.2.2.1])
  have kd : V1.drew.cell? ⟨gv, d, none⟩ = some (.int .u32 ld) := (HR1.out.1.cell d).trans (by rw [iw_at (by rw [HLN1.out]; exact hd), HG1.out.2.2.2])
  have kf : V1.drew.frozen? ⟨gv, d, none⟩ = false := HR1.out.1.frozen d
  obtain ⟨d1, hd1⟩ : ∃ z, z = rr 16 (xr ld a1) := ⟨_, rfl⟩
  have HN1 := Lib.hid hd1
  have p1 : rr 16 (xr ld a1) = d1 := hd1.symm
  have p2 : True := trivial
  clear hd1
  refine wp_region_still_tail 9 (by kernel_rfl) (by kernel_rfl) ?_
  simp only [List.take_succ_cons, List.take_zero, List.drop_succ_cons, List.drop_zero]
  repeat (first | still_step | still_call (rrot16 (xr ld a1) (w_xr _ _) _))
  refine wpStill_nil ?_
  change wpList _ _ _ _ _ V1.drew
  go_wp2_with fail
  have HR2 := Lib.hid (HR1.out.set d d1).drew
  have HLN2 := Lib.hid (show (((l).set a a1).set d d1).length = 16 by rw [List.length_set]; exact HLN1.out)
  have HG2 := Lib.hid (show (((l).set a a1).set d d1).getD a 0 = a1 ∧ (((l).set a a1).set d d1).getD b 0 = lb ∧ (((l).set a a1).set d d1).getD c 0 = lc ∧ (((l).set a a1).set d d1).getD d 0 = d1 from ⟨(set_getD_ne had.symm _).trans HG1.out.1, (set_getD_ne hbd.symm _).trans HG1.out.2.1, (set_getD_ne hcd.symm _).trans HG1.out.2.2.1, set_getD_eq (by rw [HLN1.out]; exact hd) _⟩)
  clear ka kb kc kd kf p1 p2 HR1
  generalize (V1.setCell ⟨gv, d, none⟩ (.int .u32 d1)).drew = V2 at *
  -- region 3
  have ka : V2.drew.cell? ⟨gv, a, none⟩ = some (.int .u32 a1) := (HR2.out.1.cell a).trans (by rw [iw_at (by rw [HLN2.out]; exact ha), HG2.out.1])
  have kb : V2.drew.cell? ⟨gv, b, none⟩ = some (.int .u32 lb) := (HR2.out.1.cell b).trans (by rw [iw_at (by rw [HLN2.out]; exact hb), HG2.out.2.1])
  have kc : V2.drew.cell? ⟨gv, c, none⟩ = some (.int .u32 lc) := (HR2.out.1.cell c).trans (by rw [iw_at (by rw [HLN2.out]; exact hc), HG2.out.2.2.1])
  have kd : V2.drew.cell? ⟨gv, d, none⟩ = some (.int .u32 d1) := (HR2.out.1.cell d).trans (by rw [iw_at (by rw [HLN2.out]; exact hd), HG2.out.2.2.2])
  have kf : V2.drew.frozen? ⟨gv, c, none⟩ = false := HR2.out.1.frozen c
  obtain ⟨c1, hc1⟩ : ∃ z, z = (lc + d1) % 4294967296 := ⟨_, rfl⟩
  have p1 : IntKind.u32.wrap (lc + d1) = c1 := by rw [wrap32, hc1]
  have p2 : True := trivial
  have HN2 := Lib.hid hc1
  clear hc1
  refine wp_region_still_tail 8 (by kernel_rfl) (by kernel_rfl) ?_
  simp only [List.take_succ_cons, List.take_zero, List.drop_succ_cons, List.drop_zero]
  repeat (still_step)
  refine wpStill_nil ?_
  change wpList _ _ _ _ _ V2.drew
  go_wp2_with fail
  have HR3 := Lib.hid (HR2.out.set c c1).drew
  have HLN3 := Lib.hid (show ((((l).set a a1).set d d1).set c c1).length = 16 by rw [List.length_set]; exact HLN2.out)
  have HG3 := Lib.hid (show ((((l).set a a1).set d d1).set c c1).getD a 0 = a1 ∧ ((((l).set a a1).set d d1).set c c1).getD b 0 = lb ∧ ((((l).set a a1).set d d1).set c c1).getD c 0 = c1 ∧ ((((l).set a a1).set d d1).set c c1).getD d 0 = d1 from ⟨(set_getD_ne hac.symm _).trans HG2.out.1, (set_getD_ne hbc.symm _).trans HG2.out.2.1, set_getD_eq (by rw [HLN2.out]; exact hc) _, (set_getD_ne hcd _).trans HG2.out.2.2.2⟩)
  clear ka kb kc kd kf p1 p2 HR2
  generalize (V2.setCell ⟨gv, c, none⟩ (.int .u32 c1)).drew = V3 at *
  -- region 4
  have ka : V3.drew.cell? ⟨gv, a, none⟩ = some (.int .u32 a1) := (HR3.out.1.cell a).trans (by rw [iw_at (by rw [HLN3.out]; exact ha), HG3.out.1])
  have kb : V3.drew.cell? ⟨gv, b, none⟩ = some (.int .u32 lb) := (HR3.out.1.cell b).trans (by rw [iw_at (by rw [HLN3.out]; exact hb), HG3.out.2.1])
  have kc : V3.drew.cell? ⟨gv, c, none⟩ = some (.int .u32 c1) := (HR3.out.1.cell c).trans (by rw [iw_at (by rw [HLN3.out]; exact hc), HG3.out.2.2.1])
  have kd : V3.drew.cell? ⟨gv, d, none⟩ = some (.int .u32 d1) := (HR3.out.1.cell d).trans (by rw [iw_at (by rw [HLN3.out]; exact hd), HG3.out.2.2.2])
  have kf : V3.drew.frozen? ⟨gv, b, none⟩ = false := HR3.out.1.frozen b
  obtain ⟨b1, hb1⟩ : ∃ z, z = rr 12 (xr lb c1) := ⟨_, rfl⟩
  have HN3 := Lib.hid hb1
  have p1 : rr 12 (xr lb c1) = b1 := hb1.symm
  have p2 : True := trivial
  clear hb1
  refine wp_region_still_tail 9 (by kernel_rfl) (by kernel_rfl) ?_
  simp only [List.take_succ_cons, List.take_zero, List.drop_succ_cons, List.drop_zero]
  repeat (first | still_step | still_call (rrot12 (xr lb c1) (w_xr _ _) _))
  refine wpStill_nil ?_
  change wpList _ _ _ _ _ V3.drew
  go_wp2_with fail
  have HR4 := Lib.hid (HR3.out.set b b1).drew
  have HLN4 := Lib.hid (show (((((l).set a a1).set d d1).set c c1).set b b1).length = 16 by rw [List.length_set]; exact HLN3.out)
  have HG4 := Lib.hid (show (((((l).set a a1).set d d1).set c c1).set b b1).getD a 0 = a1 ∧ (((((l).set a a1).set d d1).set c c1).set b b1).getD b 0 = b1 ∧ (((((l).set a a1).set d d1).set c c1).set b b1).getD c 0 = c1 ∧ (((((l).set a a1).set d d1).set c c1).set b b1).getD d 0 = d1 from ⟨(set_getD_ne hab.symm _).trans HG3.out.1, set_getD_eq (by rw [HLN3.out]; exact hb) _, (set_getD_ne hbc _).trans HG3.out.2.2.1, (set_getD_ne hbd _).trans HG3.out.2.2.2⟩)
  clear ka kb kc kd kf p1 p2 HR3
  generalize (V3.setCell ⟨gv, b, none⟩ (.int .u32 b1)).drew = V4 at *
  -- region 5
  have ka : V4.drew.cell? ⟨gv, a, none⟩ = some (.int .u32 a1) := (HR4.out.1.cell a).trans (by rw [iw_at (by rw [HLN4.out]; exact ha), HG4.out.1])
  have kb : V4.drew.cell? ⟨gv, b, none⟩ = some (.int .u32 b1) := (HR4.out.1.cell b).trans (by rw [iw_at (by rw [HLN4.out]; exact hb), HG4.out.2.1])
  have kc : V4.drew.cell? ⟨gv, c, none⟩ = some (.int .u32 c1) := (HR4.out.1.cell c).trans (by rw [iw_at (by rw [HLN4.out]; exact hc), HG4.out.2.2.1])
  have kd : V4.drew.cell? ⟨gv, d, none⟩ = some (.int .u32 d1) := (HR4.out.1.cell d).trans (by rw [iw_at (by rw [HLN4.out]; exact hd), HG4.out.2.2.2])
  have kf : V4.drew.frozen? ⟨gv, a, none⟩ = false := HR4.out.1.frozen a
  obtain ⟨t4, ht4⟩ : ∃ z, z = (a1 + b1) % 4294967296 := ⟨_, rfl⟩
  obtain ⟨a2, ha2⟩ : ∃ z, z = (t4 + y) % 4294967296 := ⟨_, rfl⟩
  have p1 : IntKind.u32.wrap (a1 + b1) = t4 := by rw [wrap32, ht4]
  have p2 : IntKind.u32.wrap (t4 + y) = a2 := by rw [wrap32, ha2]
  have HN4 := Lib.hid (show a2 = (a1 + (b1 + y) % 4294967296) % 4294967296 by rw [ha2, ht4, ladd])
  clear ht4 ha2
  refine wp_region_still_tail 10 (by kernel_rfl) (by kernel_rfl) ?_
  simp only [List.take_succ_cons, List.take_zero, List.drop_succ_cons, List.drop_zero]
  repeat (still_step)
  refine wpStill_nil ?_
  change wpList _ _ _ _ _ V4.drew
  go_wp2_with fail
  have HR5 := Lib.hid (HR4.out.set a a2).drew
  have HLN5 := Lib.hid (show ((((((l).set a a1).set d d1).set c c1).set b b1).set a a2).length = 16 by rw [List.length_set]; exact HLN4.out)
  have HG5 := Lib.hid (show ((((((l).set a a1).set d d1).set c c1).set b b1).set a a2).getD a 0 = a2 ∧ ((((((l).set a a1).set d d1).set c c1).set b b1).set a a2).getD b 0 = b1 ∧ ((((((l).set a a1).set d d1).set c c1).set b b1).set a a2).getD c 0 = c1 ∧ ((((((l).set a a1).set d d1).set c c1).set b b1).set a a2).getD d 0 = d1 from ⟨set_getD_eq (by rw [HLN4.out]; exact ha) _, (set_getD_ne hab _).trans HG4.out.2.1, (set_getD_ne hac _).trans HG4.out.2.2.1, (set_getD_ne had _).trans HG4.out.2.2.2⟩)
  clear ka kb kc kd kf p1 p2 HR4
  generalize (V4.setCell ⟨gv, a, none⟩ (.int .u32 a2)).drew = V5 at *
  -- region 6
  have ka : V5.drew.cell? ⟨gv, a, none⟩ = some (.int .u32 a2) := (HR5.out.1.cell a).trans (by rw [iw_at (by rw [HLN5.out]; exact ha), HG5.out.1])
  have kb : V5.drew.cell? ⟨gv, b, none⟩ = some (.int .u32 b1) := (HR5.out.1.cell b).trans (by rw [iw_at (by rw [HLN5.out]; exact hb), HG5.out.2.1])
  have kc : V5.drew.cell? ⟨gv, c, none⟩ = some (.int .u32 c1) := (HR5.out.1.cell c).trans (by rw [iw_at (by rw [HLN5.out]; exact hc), HG5.out.2.2.1])
  have kd : V5.drew.cell? ⟨gv, d, none⟩ = some (.int .u32 d1) := (HR5.out.1.cell d).trans (by rw [iw_at (by rw [HLN5.out]; exact hd), HG5.out.2.2.2])
  have kf : V5.drew.frozen? ⟨gv, d, none⟩ = false := HR5.out.1.frozen d
  obtain ⟨d2, hd2⟩ : ∃ z, z = rr 8 (xr d1 a2) := ⟨_, rfl⟩
  have HN5 := Lib.hid hd2
  have p1 : rr 8 (xr d1 a2) = d2 := hd2.symm
  have p2 : True := trivial
  clear hd2
  refine wp_region_still_tail 9 (by kernel_rfl) (by kernel_rfl) ?_
  simp only [List.take_succ_cons, List.take_zero, List.drop_succ_cons, List.drop_zero]
  repeat (first | still_step | still_call (rrot8 (xr d1 a2) (w_xr _ _) _))
  refine wpStill_nil ?_
  change wpList _ _ _ _ _ V5.drew
  go_wp2_with fail
  have HR6 := Lib.hid (HR5.out.set d d2).drew
  have HLN6 := Lib.hid (show (((((((l).set a a1).set d d1).set c c1).set b b1).set a a2).set d d2).length = 16 by rw [List.length_set]; exact HLN5.out)
  have HG6 := Lib.hid (show (((((((l).set a a1).set d d1).set c c1).set b b1).set a a2).set d d2).getD a 0 = a2 ∧ (((((((l).set a a1).set d d1).set c c1).set b b1).set a a2).set d d2).getD b 0 = b1 ∧ (((((((l).set a a1).set d d1).set c c1).set b b1).set a a2).set d d2).getD c 0 = c1 ∧ (((((((l).set a a1).set d d1).set c c1).set b b1).set a a2).set d d2).getD d 0 = d2 from ⟨(set_getD_ne had.symm _).trans HG5.out.1, (set_getD_ne hbd.symm _).trans HG5.out.2.1, (set_getD_ne hcd.symm _).trans HG5.out.2.2.1, set_getD_eq (by rw [HLN5.out]; exact hd) _⟩)
  clear ka kb kc kd kf p1 p2 HR5
  generalize (V5.setCell ⟨gv, d, none⟩ (.int .u32 d2)).drew = V6 at *
  -- region 7
  have ka : V6.drew.cell? ⟨gv, a, none⟩ = some (.int .u32 a2) := (HR6.out.1.cell a).trans (by rw [iw_at (by rw [HLN6.out]; exact ha), HG6.out.1])
  have kb : V6.drew.cell? ⟨gv, b, none⟩ = some (.int .u32 b1) := (HR6.out.1.cell b).trans (by rw [iw_at (by rw [HLN6.out]; exact hb), HG6.out.2.1])
  have kc : V6.drew.cell? ⟨gv, c, none⟩ = some (.int .u32 c1) := (HR6.out.1.cell c).trans (by rw [iw_at (by rw [HLN6.out]; exact hc), HG6.out.2.2.1])
  have kd : V6.drew.cell? ⟨gv, d, none⟩ = some (.int .u32 d2) := (HR6.out.1.cell d).trans (by rw [iw_at (by rw [HLN6.out]; exact hd), HG6.out.2.2.2])
  have kf : V6.drew.frozen? ⟨gv, c, none⟩ = false := HR6.out.1.frozen c
  obtain ⟨c2, hc2⟩ : ∃ z, z = (c1 + d2) % 4294967296 := ⟨_, rfl⟩
  have p1 : IntKind.u32.wrap (c1 + d2) = c2 := by rw [wrap32, hc2]
  have p2 : True := trivial
  have HN6 := Lib.hid hc2
  clear hc2
  refine wp_region_still_tail 8 (by kernel_rfl) (by kernel_rfl) ?_
  simp only [List.take_succ_cons, List.take_zero, List.drop_succ_cons, List.drop_zero]
  repeat (still_step)
  refine wpStill_nil ?_
  change wpList _ _ _ _ _ V6.drew
  go_wp2_with fail
  have HR7 := Lib.hid (HR6.out.set c c2).drew
  have HLN7 := Lib.hid (show ((((((((l).set a a1).set d d1).set c c1).set b b1).set a a2).set d d2).set c c2).length = 16 by rw [List.length_set]; exact HLN6.out)
  have HG7 := Lib.hid (show ((((((((l).set a a1).set d d1).set c c1).set b b1).set a a2).set d d2).set c c2).getD a 0 = a2 ∧ ((((((((l).set a a1).set d d1).set c c1).set b b1).set a a2).set d d2).set c c2).getD b 0 = b1 ∧ ((((((((l).set a a1).set d d1).set c c1).set b b1).set a a2).set d d2).set c c2).getD c 0 = c2 ∧ ((((((((l).set a a1).set d d1).set c c1).set b b1).set a a2).set d d2).set c c2).getD d 0 = d2 from ⟨(set_getD_ne hac.symm _).trans HG6.out.1, (set_getD_ne hbc.symm _).trans HG6.out.2.1, set_getD_eq (by rw [HLN6.out]; exact hc) _, (set_getD_ne hcd _).trans HG6.out.2.2.2⟩)
  clear ka kb kc kd kf p1 p2 HR6
  generalize (V6.setCell ⟨gv, c, none⟩ (.int .u32 c2)).drew = V7 at *
  -- region 8
  have ka : V7.drew.cell? ⟨gv, a, none⟩ = some (.int .u32 a2) := (HR7.out.1.cell a).trans (by rw [iw_at (by rw [HLN7.out]; exact ha), HG7.out.1])
  have kb : V7.drew.cell? ⟨gv, b, none⟩ = some (.int .u32 b1) := (HR7.out.1.cell b).trans (by rw [iw_at (by rw [HLN7.out]; exact hb), HG7.out.2.1])
  have kc : V7.drew.cell? ⟨gv, c, none⟩ = some (.int .u32 c2) := (HR7.out.1.cell c).trans (by rw [iw_at (by rw [HLN7.out]; exact hc), HG7.out.2.2.1])
  have kd : V7.drew.cell? ⟨gv, d, none⟩ = some (.int .u32 d2) := (HR7.out.1.cell d).trans (by rw [iw_at (by rw [HLN7.out]; exact hd), HG7.out.2.2.2])
  have kf : V7.drew.frozen? ⟨gv, b, none⟩ = false := HR7.out.1.frozen b
  obtain ⟨b2, hb2⟩ : ∃ z, z = rr 7 (xr b1 c2) := ⟨_, rfl⟩
  have HN7 := Lib.hid hb2
  have p1 : rr 7 (xr b1 c2) = b2 := hb2.symm
  have p2 : True := trivial
  clear hb2
  refine wp_region_still_tail 9 (by kernel_rfl) (by kernel_rfl) ?_
  simp only [List.take_succ_cons, List.take_zero, List.drop_succ_cons, List.drop_zero]
  repeat (first | still_step | still_call (rrot7 (xr b1 c2) (w_xr _ _) _))
  refine wpStill_nil ?_
  change wpList _ _ _ _ _ V7.drew
  have HR8 := Lib.hid (HR7.out.set b b2).drew
  have HLN8 := Lib.hid (show (((((((((l).set a a1).set d d1).set c c1).set b b1).set a a2).set d d2).set c c2).set b b2).length = 16 by rw [List.length_set]; exact HLN7.out)
  have HG8 := Lib.hid (show (((((((((l).set a a1).set d d1).set c c1).set b b1).set a a2).set d d2).set c c2).set b b2).getD a 0 = a2 ∧ (((((((((l).set a a1).set d d1).set c c1).set b b1).set a a2).set d d2).set c c2).set b b2).getD b 0 = b2 ∧ (((((((((l).set a a1).set d d1).set c c1).set b b1).set a a2).set d d2).set c c2).set b b2).getD c 0 = c2 ∧ (((((((((l).set a a1).set d d1).set c c1).set b b1).set a a2).set d d2).set c c2).set b b2).getD d 0 = d2 from ⟨(set_getD_ne hab.symm _).trans HG7.out.1, set_getD_eq (by rw [HLN7.out]; exact hb) _, (set_getD_ne hbc _).trans HG7.out.2.2.1, (set_getD_ne hbd _).trans HG7.out.2.2.2⟩)
  have HL9 := Lib.hid (show (Tryd.prog.info? 101).map (·.size) = some (iw (((((((((l).set a a1).set d d1).set c c1).set b b1).set a a2).set d d2).set c c2).set b b2)).size by rw [iw_size, HLN8.out]; kernel_rfl)
  have HZ9 := Lib.hid (show (iw (List.replicate 16 0)).size = (iw (((((((((l).set a a1).set d d1).set c c1).set b b1).set a a2).set d d2).set c c2).set b b2)).size by rw [iw_size, iw_size, HLN8.out]; rfl)
  obtain ⟨L, hL⟩ : ∃ L, L = ((((((((l).set a a1).set d d1).set c c1).set b b1).set a a2).set d d2).set c c2).set b b2 := ⟨_, rfl⟩
  have HLE := Lib.hid hL
  rw [← hL] at HR8 HL9 HZ9
  clear hL
  have HX8 := Lib.hid (show ((V7.setCell ⟨gv, b, none⟩ (.int .u32 b2)).drew).heap[gv]? = some (.cells (iw L) 101 (0, 0)) from HR8.out.1)
  have HY8 := Lib.hid (show ((V7.setCell ⟨gv, b, none⟩ (.int .u32 b2)).drew).heap[gr]? = some (.cells (iw (List.replicate 16 0)) 101 (0, 0)) from HR8.out.2.1)
  go_wp2_with (first
    | ((with_reducible show wpList _ _ _ (Oper.mk (some 95) _ _ _ _ _ :: _) _ _); refine wpList_load_row rfl 101 (.tmp 7) rfl gv rfl 101 (iw L) (0, 0) _ HX8.out Tryd.underlying101 rfl HL9.out ?_)
    | ((with_reducible show wpList _ _ _ [Oper.mk none (.store 101 (.tmp 14) (.tmp 95)) _ _ _ _] _ _); refine wpList_store_row rfl 101 (.tmp 14) (.tmp 95) rfl gr (iw L) rfl rfl 101 (iw (List.replicate 16 0)) HY8.out HL9.out HZ9.out (iw_all L) ?_))
  have HG := Lib.hid (show Gm l a b c d x y = L by
    rw [HLE.out, set8 l hab hac had hbc hbd hcd]
    exact Gm_eq HLa0.out HLb0.out HLc0.out HLd0.out HN0.out HN1.out HN2.out HN3.out HN4.out HN5.out HN6.out HN7.out)
  rw [HG.out]
  exact bodyPost_ret (v := .agg (iw L)) (results_cell_row rfl _ _ gr 101 (iw L) (0, 0) _ rfl (setRow_heap _ gr _ _ _ _ HY8.out) Tryd.underlying101 rfl HL9.out) rfl ⟨rfl, below_setRow HR8.out.2.2.1 (by have := HR8.out.2.2.2; omega) _⟩

end Bk
end Go.Proofs.YtnllocghmnhooaaDoor
