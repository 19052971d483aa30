/- BLAKE2s: the program's mix. -/
import Derived.Test.YtnllocghmnhooaaDoorBa
import Derived.BigRegion
import Derived.Deep.QuietTactic
import Derived.BigQuiet
import Derived.RegionTactic
namespace Go.Proofs.YtnllocghmnhooaaDoor
open Go.RowKit
set_option linter.unusedVariables false
namespace Bk

theorem Gm_eq {l : List Int} {a b c d : Nat} {x y la lb lc ld a1 b1 c1 d1 a2 b2 c2 d2 : Int} (h1 : la = l.getD a 0) (h2 : lb = l.getD b 0) (h3 : lc = l.getD c 0) (h4 : ld = l.getD d 0)
    (h5 : a1 = (la + (lb + x) % 4294967296) % 4294967296) (h6 : d1 = rr 16 (xr ld a1)) (h7 : c1 = (lc + d1) % 4294967296) (h8 : b1 = rr 12 (xr lb c1))
    (h9 : a2 = (a1 + (b1 + y) % 4294967296) % 4294967296) (h10 : d2 = rr 8 (xr d1 a2)) (h11 : c2 = (c1 + d2) % 4294967296) (h12 : b2 = rr 7 (xr b1 c2)) :
    Gm l a b c d x y = (((l.set a a2).set b b2).set c c2).set d d2 := by
  subst h1 h2 h3 h4 h5 h6 h7 h8 h9 h10 h11 h12
  rfl
theorem alloc_grown (V : World) (o : Obj) : V.grownBy (V.alloc o) none := ⟨rfl, rfl, rfl, by simp, fun k hk _ => Below.heap_alloc V o k hk⟩
theorem blk_set {V : World} {g : Nat} {l : List Int} (h : Blk V g 101 (iw l)) (k : Nat) (x : Int) : Blk (V.setCell ⟨g, k, none⟩ (.int .u32 x)) g 101 (iw (l.set k x)) := by
  rw [← iw_set]
  exact h.set_ k _
theorem set_grown {V V' : World} {g : Nat} (h : V.grownBy V' none) (k : Nat) (x : Value) : V.grownBy (V'.setCell ⟨g, k, none⟩ x) (some g) :=
  ⟨h.os, h.tape, h.output, Nat.le_trans h.size (by simp [World.setCell]), fun j hj hne => (Below.heap_setCell V' ⟨g, k, none⟩ x j (fun e => hne (by rw [e]))).trans (h.block j hj (by simp))⟩
theorem drew_grown (V : World) {r : Option Nat} : V.grownBy V.drew r := ⟨rfl, rfl, rfl, Nat.le_refl _, fun k hk _ => rfl⟩
theorem drewN_grown (V : World) (n : Nat) : V.grownBy (V.drewN n) none := ⟨rfl, rfl, rfl, Nat.le_refl _, fun k hk _ => rfl⟩
set_option maxRecDepth 100000 in
set_option maxHeartbeats 1000000 in
theorem mix_f (V : World) (g : Nat) (l : List Int) (hl : l.length = 16) (hw : Ws l) (h : Blk V g 101 (iw l)) (a b c d : Nat) (ha : a < 16) (hb : b < 16) (hc : c < 16) (hd : d < 16) (hab : a ≠ b) (hac : a ≠ c) (had : a ≠ d) (hbc : b ≠ c) (hbd : b ≠ d) (hcd : c ≠ d) (x y : Int) (hx : W x) (hy : W y) :
    Calls Tryd.prog 83 #[.pointer (some ⟨g, 0, none⟩), .agg #[.int .i64 (a : Int), .int .i64 (b : Int), .int .i64 (c : Int), .int .i64 (d : Int)], .int .u32 x, .int .u32 y] V
      fun e V' => e = .returned (.tuple #[]) ∧ Blk V' g 101 (iw (Gm l a b c d x y)) ∧ V.grownBy V' (some g) := by
  have H := Lib.hid h
  go_enter Tryd.func83, Tryd.ntmps83
  go_wp2_with fail
  have HN := Lib.hid (Blk.new V 102 #[.int .i64 (a : Int), .int .i64 (b : Int), .int .i64 (c : Int), .int .i64 (d : Int)])
  have H1 := Lib.hid (H.out.alloc (.cells #[.int .i64 (a : Int), .int .i64 (b : Int), .int .i64 (c : Int), .int .i64 (d : Int)] 102))
  have HG := Lib.hid (alloc_grown V (.cells #[.int .i64 (a : Int), .int .i64 (b : Int), .int .i64 (c : Int), .int .i64 (d : Int)] 102))
  have hlt := h.lt
  obtain ⟨V1, hV1⟩ : ∃ V1, V1 = V.alloc (.cells #[.int .i64 (a : Int), .int .i64 (b : Int), .int .i64 (c : Int), .int .i64 (d : Int)] 102) := ⟨_, rfl⟩
  rw [← hV1] at HN H1 HG ⊢
  clear hV1 h H
  have hne : V.heap.size ≠ g := by omega
  generalize V.heap.size = gb at *
  have hq0 : V1.cell? ⟨gb, 0, none⟩ = some (.int .i64 (a : Int)) := HN.out.cell 0
  have hq1 : V1.cell? ⟨gb, 1, none⟩ = some (.int .i64 (b : Int)) := HN.out.cell 1
  have hq2 : V1.cell? ⟨gb, 2, none⟩ = some (.int .i64 (c : Int)) := HN.out.cell 2
  have hq3 : V1.cell? ⟨gb, 3, none⟩ = some (.int .i64 (d : Int)) := HN.out.cell 3
  have hv : ∀ k, k < 16 → V1.cell? ⟨g, k, none⟩ = some (.int .u32 (l.getD k 0)) := fun k hk => (H1.out.cell k).trans (iw_at (by omega))
  have hva := hv a ha
  have hvb := hv b hb
  have hvc := hv c hc
  have hvd := hv d hd
  have HWA := Lib.hid (hw.at_ a)
  have HWB := Lib.hid (hw.at_ b)
  have HWC := Lib.hid (hw.at_ c)
  have HWD := Lib.hid (hw.at_ d)
  clear hv
  obtain ⟨la, hla⟩ : ∃ x, x = l.getD a 0 := ⟨_, rfl⟩
  obtain ⟨lb, hlb⟩ : ∃ x, x = l.getD b 0 := ⟨_, rfl⟩
  obtain ⟨lc, hlc⟩ : ∃ x, x = l.getD c 0 := ⟨_, rfl⟩
  obtain ⟨ld, hld⟩ : ∃ x, x = l.getD d 0 := ⟨_, rfl⟩
  rw [← hla] at hva HWA
  rw [← hlb] at hvb HWB
  rw [← hlc] at hvc HWC
  rw [← hld] at hvd HWD
  have HLA := Lib.hid hla
  have HLB := Lib.hid hlb
  have HLC := Lib.hid hlc
  have HLD := Lib.hid hld
  clear hla hlb hlc hld
  obtain ⟨a1, ha1⟩ : ∃ a1, a1 = (la + (lb + x) % 4294967296) % 4294967296 := ⟨_, rfl⟩
  have e1 : (la + (lb + x) % 4294967296) % 4294967296 = a1 := ha1.symm
  have e2 : (la + (lb + x)) % 4294967296 = a1 := by omega
  have HA1 := Lib.hid ha1
  clear ha1
  go_quiet (fail)
  go_wp2_with fail
  refine (rot16 _ (w_xr _ _) _).mono ?_
  rintro e w' ⟨rfl, rfl⟩
  obtain ⟨d1, hd1⟩ : ∃ d1, d1 = rr 16 (xr ld a1) := ⟨_, rfl⟩
  have HD1 := Lib.hid hd1
  rw [← hd1]
  clear hd1
  obtain ⟨c1, hc1⟩ : ∃ c1, c1 = (lc + d1) % 4294967296 := ⟨_, rfl⟩
  have e3 : (lc + d1) % 4294967296 = c1 := hc1.symm
  have HC1 := Lib.hid hc1
  clear hc1
  go_wp2_with fail
  refine (rot12 _ (w_xr _ _) _).mono ?_
  rintro e w' ⟨rfl, rfl⟩
  obtain ⟨b1, hb1⟩ : ∃ b1, b1 = rr 12 (xr lb c1) := ⟨_, rfl⟩
  have HB1 := Lib.hid hb1
  rw [← hb1]
  clear hb1
  obtain ⟨a2, ha2⟩ : ∃ a2, a2 = (a1 + (b1 + y) % 4294967296) % 4294967296 := ⟨_, rfl⟩
  have e4 : (a1 + (b1 + y) % 4294967296) % 4294967296 = a2 := ha2.symm
  have e5 : (a1 + (b1 + y)) % 4294967296 = a2 := by omega
  have HA2 := Lib.hid ha2
  clear ha2
  go_wp2_with fail
  refine (rot8 _ (w_xr _ _) _).mono ?_
  rintro e w' ⟨rfl, rfl⟩
  obtain ⟨d2, hd2⟩ : ∃ d2, d2 = rr 8 (xr d1 a2) := ⟨_, rfl⟩
  have HD2 := Lib.hid hd2
  rw [← hd2]
  clear hd2
  obtain ⟨c2, hc2⟩ : ∃ c2, c2 = (c1 + d2) % 4294967296 := ⟨_, rfl⟩
  have e6 : (c1 + d2) % 4294967296 = c2 := hc2.symm
  have HC2 := Lib.hid hc2
  clear hc2
  go_wp2_with fail
  refine (rot7 _ (w_xr _ _) _).mono ?_
  rintro e w' ⟨rfl, rfl⟩
  obtain ⟨b2, hb2⟩ : ∃ b2, b2 = rr 7 (xr b1 c2) := ⟨_, rfl⟩
  have HB2 := Lib.hid hb2
  rw [← hb2]
  clear hb2
  go_wp2_with fail
  have HNq := Lib.hid (HN.out.drewN nq)
  have H1q := Lib.hid (H1.out.drewN nq)
  have HGq := Lib.hid (HG.out.trans (drewN_grown V1 nq))
  clear hq0 hq1 hq2 hq3 hva hvb hvc hvd H1 HN HG e1 e2 e3 e4 e5 e6
  generalize V1.drewN nq = V2 at *
  have hq0 : V2.drew.cell? ⟨gb, 0, none⟩ = some (.int .i64 (a : Int)) := HNq.out.cell 0
  have hq1 : V2.drew.cell? ⟨gb, 1, none⟩ = some (.int .i64 (b : Int)) := HNq.out.cell 1
  have hq2 : V2.drew.cell? ⟨gb, 2, none⟩ = some (.int .i64 (c : Int)) := HNq.out.cell 2
  have hq3 : V2.drew.cell? ⟨gb, 3, none⟩ = some (.int .i64 (d : Int)) := HNq.out.cell 3
  have hfa : V2.drew.frozen? ⟨g, a, none⟩ = false := H1q.out.frozen a
  have hfb : V2.drew.frozen? ⟨g, b, none⟩ = false := H1q.out.frozen b
  have hfc : V2.drew.frozen? ⟨g, c, none⟩ = false := H1q.out.frozen c
  have hfd : V2.drew.frozen? ⟨g, d, none⟩ = false := H1q.out.frozen d
  have hva : V2.drew.cell? ⟨g, a, none⟩ = some (.int .u32 la) := (H1q.out.cell a).trans (by rw [HLA.out]; exact iw_at (by omega))
  have hvb : V2.drew.cell? ⟨g, b, none⟩ = some (.int .u32 lb) := (H1q.out.cell b).trans (by rw [HLB.out]; exact iw_at (by omega))
  have hvc : V2.drew.cell? ⟨g, c, none⟩ = some (.int .u32 lc) := (H1q.out.cell c).trans (by rw [HLC.out]; exact iw_at (by omega))
  have hvd : V2.drew.cell? ⟨g, d, none⟩ = some (.int .u32 ld) := (H1q.out.cell d).trans (by rw [HLD.out]; exact iw_at (by omega))
  have K1 := Lib.hid (blk_set H1q.out a a2)
  have K2 := Lib.hid (blk_set K1.out b b2)
  have K3 := Lib.hid (blk_set K2.out c c2)
  have K4 := Lib.hid (blk_set K3.out d d2)
  have hb1 : (V2.setCell ⟨g, a, none⟩ (.int .u32 a2)).drew.cell? ⟨g, b, none⟩ = some (.int .u32 ((l.set a a2).getD b 0)) := (K1.out.cell b).trans (iw_at (by simp; omega))
  have hb2 : (V2.setCell ⟨g, a, none⟩ (.int .u32 a2)).drew.frozen? ⟨g, b, none⟩ = false := K1.out.frozen b
  have hc1 : ((V2.setCell ⟨g, a, none⟩ (.int .u32 a2)).setCell ⟨g, b, none⟩ (.int .u32 b2)).drew.cell? ⟨g, c, none⟩ = some (.int .u32 (((l.set a a2).set b b2).getD c 0)) := (K2.out.cell c).trans (iw_at (by simp; omega))
  have hc2 : ((V2.setCell ⟨g, a, none⟩ (.int .u32 a2)).setCell ⟨g, b, none⟩ (.int .u32 b2)).drew.frozen? ⟨g, c, none⟩ = false := K2.out.frozen c
  have hd1 : (((V2.setCell ⟨g, a, none⟩ (.int .u32 a2)).setCell ⟨g, b, none⟩ (.int .u32 b2)).setCell ⟨g, c, none⟩ (.int .u32 c2)).drew.cell? ⟨g, d, none⟩ = some (.int .u32 ((((l.set a a2).set b b2).set c c2).getD d 0)) := (K3.out.cell d).trans (iw_at (by simp; omega))
  have hd2 : (((V2.setCell ⟨g, a, none⟩ (.int .u32 a2)).setCell ⟨g, b, none⟩ (.int .u32 b2)).setCell ⟨g, c, none⟩ (.int .u32 c2)).drew.frozen? ⟨g, d, none⟩ = false := K3.out.frozen d
  have N1 := Lib.hid (HNq.out.far (p := ⟨g, a, none⟩) hne (.int .u32 a2))
  have N2 := Lib.hid (N1.out.far (p := ⟨g, b, none⟩) hne (.int .u32 b2))
  have N3 := Lib.hid (N2.out.far (p := ⟨g, c, none⟩) hne (.int .u32 c2))
  have n11 : (V2.setCell ⟨g, a, none⟩ (.int .u32 a2)).drew.cell? ⟨gb, 1, none⟩ = some (.int .i64 (b : Int)) := N1.out.cell 1
  have n12 : (V2.setCell ⟨g, a, none⟩ (.int .u32 a2)).drew.cell? ⟨gb, 2, none⟩ = some (.int .i64 (c : Int)) := N1.out.cell 2
  have n13 : (V2.setCell ⟨g, a, none⟩ (.int .u32 a2)).drew.cell? ⟨gb, 3, none⟩ = some (.int .i64 (d : Int)) := N1.out.cell 3
  have n21 : ((V2.setCell ⟨g, a, none⟩ (.int .u32 a2)).setCell ⟨g, b, none⟩ (.int .u32 b2)).drew.cell? ⟨gb, 1, none⟩ = some (.int .i64 (b : Int)) := N2.out.cell 1
  have n22 : ((V2.setCell ⟨g, a, none⟩ (.int .u32 a2)).setCell ⟨g, b, none⟩ (.int .u32 b2)).drew.cell? ⟨gb, 2, none⟩ = some (.int .i64 (c : Int)) := N2.out.cell 2
  have n23 : ((V2.setCell ⟨g, a, none⟩ (.int .u32 a2)).setCell ⟨g, b, none⟩ (.int .u32 b2)).drew.cell? ⟨gb, 3, none⟩ = some (.int .i64 (d : Int)) := N2.out.cell 3
  have n31 : (((V2.setCell ⟨g, a, none⟩ (.int .u32 a2)).setCell ⟨g, b, none⟩ (.int .u32 b2)).setCell ⟨g, c, none⟩ (.int .u32 c2)).drew.cell? ⟨gb, 1, none⟩ = some (.int .i64 (b : Int)) := N3.out.cell 1
  have n32 : (((V2.setCell ⟨g, a, none⟩ (.int .u32 a2)).setCell ⟨g, b, none⟩ (.int .u32 b2)).setCell ⟨g, c, none⟩ (.int .u32 c2)).drew.cell? ⟨gb, 2, none⟩ = some (.int .i64 (c : Int)) := N3.out.cell 2
  have n33 : (((V2.setCell ⟨g, a, none⟩ (.int .u32 a2)).setCell ⟨g, b, none⟩ (.int .u32 b2)).setCell ⟨g, c, none⟩ (.int .u32 c2)).drew.cell? ⟨gb, 3, none⟩ = some (.int .i64 (d : Int)) := N3.out.cell 3
  have hG := Gm_eq HLA.out HLB.out HLC.out HLD.out HA1.out HD1.out HC1.out HB1.out HA2.out HD2.out HC2.out HB2.out
  rw [← hG] at K4
  have HGe := Lib.hid ((((set_grown (g := g) HGq.out a (.int .u32 a2)).trans (set_grown (World.grownBy.refl _ _) b (.int .u32 b2))).trans (set_grown (World.grownBy.refl _ _) c (.int .u32 c2))).trans (set_grown (World.grownBy.refl _ _) d (.int .u32 d2)))
  go_region
  go_end0
  exact ⟨rfl, K4.out.drew, HGe.out.trans (drew_grown _)⟩

end Bk
end Go.Proofs.YtnllocghmnhooaaDoor
