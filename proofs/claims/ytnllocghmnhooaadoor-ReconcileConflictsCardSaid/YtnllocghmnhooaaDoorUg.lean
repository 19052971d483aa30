/- Reconcile: catalog.Add of a record whose key is not there. -/
import Derived.Test.YtnllocghmnhooaaDoorUf
namespace Go.Proofs.YtnllocghmnhooaaDoor
open Go.RowKit
set_option linter.unusedVariables false
set_option linter.unusedSimpArgs false
namespace Rc
open Bk (bl bl_len bl_ofL ofL_bl ofL_size ofL_append)

theorem Blk.lo {W W' : World} {g B : Nat} {t : TypeId} {cs : Array Value} (h : Blk W g t cs) (hb : Below B W W') (hg : g < B) : Blk W' g t cs := (hb.block g hg).trans h
theorem Own.alloc {W : World} {B : Nat} {v : Value} {l : List Rec} (h : Own W B v l) (o : Obj) : Own (W.alloc o) B v l := own_alloc h o
theorem key_neq {r q : Rec} (h : key r ≠ key q) : ((ofL (key r)).toList != (ofL (key q)).toList) = true := by
  rw [Lib.toList_data, Lib.toList_data, bne_iff_ne]
  exact fun e => h (by simpa [ofL] using e)
def AddPost (w : World) (l : List Rec) (e : Ending) (w' : World) : Prop := ∃ v, e = .returned (.tuple #[v, .int .i64 0]) ∧ Own w' w.heap.size v l ∧ Below w.heap.size w w'
set_option maxRecDepth 100000 in
set_option maxHeartbeats 2000000 in
theorem add_f (l : List Rec) (r : Rec) (hv : ∀ x ∈ l, Val x) (hr : Val r) (hs : Srt l) (hn : has l (key r) = false) (w : World) (ht : Bk.Tab w) (A : Option Addr) (c : Nat) (h : Rcs w A c l) (hl : l.length ≤ 100000) :
    Calls Tryd.prog 26 #[.slice A l.length c, rv r] w (AddPost w (ins r l)) := by
  have HR := Lib.hid (Blk.new w 42 (rc r).toArray)
  have HB0 := Lib.hid ((Below.refl _ w).alloc (Nat.le_refl _) (.cells (rc r).toArray 42))
  have HV := Lib.hid (fun W => valid_f r hr W)
  have HK := Lib.hid (fun W (hb : Below w.heap.size w W) => key_f r hr W (ht.bel hb))
  have HI := Lib.hid (fun W (hb : Below w.heap.size w W) => index_f l hv hs (ofL (key r)) W A c (ht.bel hb) (h.below hb) (by omega))
  have HC := Lib.hid (fun W (hb : Below w.heap.size w W) => clone_f l W A c (h.below hb) (by omega))
  have HKA := Lib.hid (fun i (hi : i < l.length) W (hb : Below w.heap.size w W) => key_f l[i] (hv _ (List.getElem_mem hi)) W (ht.bel hb))
  have HNE := Lib.hid (has_not.1 hn)
  have HRC := Lib.hid (fun W (hb : Below w.heap.size w W) => h.below hb)
  unfold rv at HV HK HKA ⊢
  rw [bl_ofL] at HI
  have hil := idx_le l (key r)
  obtain ⟨i, hi⟩ : ∃ i, i = idx l (key r) := ⟨_, rfl⟩
  rw [← hi] at HI hil
  have HIX := Lib.hid hi
  clear hi
  go_enter Tryd.func26, Tryd.ntmps26
  go_wp2_with fail
  change Calls Tryd.prog 42 _ (w.alloc (.cells (rc r).toArray 42)) _
  refine (HV.out _).mono ?_
  rintro e w1 ⟨rfl, hb1⟩
  have HR1 := Lib.hid (HR.out.below hb1)
  have HB1 := Lib.hid (HB0.out.trans (hb1.mono HB0.out.size))
  clear hb1 HR HB0
  have c0 : w1.cell? ⟨w.heap.size, 0, none⟩ = some (.int .u32 (r.a : Int)) := HR1.out.cell 0
  have c1 : w1.cell? ⟨w.heap.size, 1, none⟩ = some (.int .i64 (r.s : Int)) := HR1.out.cell 1
  have c2 : w1.cell? ⟨w.heap.size, 2, none⟩ = some (.string (ofL r.d)) := HR1.out.cell 2
  clear hv hr hs h ht
  go_wp2_with fail
  refine (HK.out _ HB1.out).mono ?_
  rintro e w2 ⟨rfl, hb2⟩
  have HR2 := Lib.hid (HR1.out.below hb2)
  have HB2 := Lib.hid (HB1.out.trans (hb2.mono HB1.out.size))
  clear hb2 c0 c1 c2
  go_wp2_with fail
  refine (HI.out _ HB2.out).mono ?_
  rintro e w3 ⟨rfl, hb3⟩
  have HR3 := Lib.hid (HR2.out.below hb3)
  have HB3 := Lib.hid (HB2.out.trans (hb3.mono HB2.out.size))
  clear hb3
  have c0 : w3.cell? ⟨w.heap.size, 0, none⟩ = some (.int .u32 (r.a : Int)) := HR3.out.cell 0
  have c1 : w3.cell? ⟨w.heap.size, 1, none⟩ = some (.int .i64 (r.s : Int)) := HR3.out.cell 1
  have c2 : w3.cell? ⟨w.heap.size, 2, none⟩ = some (.string (ofL r.d)) := HR3.out.cell 2
  go_wp2_with fail
  have HB3d := Lib.hid (show Below w.heap.size w w3.drew from below_drewN HB3.out 1)
  by_cases hil' : i = l.length
  · have e1 : ((i : Int) == (l.length : Int)) = true := by simp; omega
    have e2 : decide ((i : Int) = (l.length : Int)) = true := by simp; omega
    have e3 : (i : Int) = (l.length : Int) := by omega
    go_quiet (fail)
    go_wp2_with fail
    have HIN := Lib.hid (fun W b v g (ho : Own W b v l) (hB : b ≤ W.heap.size) (hg : Blk W g 42 (rc r).toArray) => insert_end l r W b v ho hB (by omega) g hg)
    have HNB := Lib.hid (fun k => (show Blk ((w3.drewN k).alloc (.cells #[.int .u32 (r.a : Int), .int .i64 (r.s : Int), .string (ofL r.d)] 42)) w3.heap.size 42 (rc r).toArray from Blk.new (w3.drewN k) _ _))
    have HR6 := Lib.hid (fun k => (show Blk (w3.drewN k) w.heap.size 42 (rc r).toArray from HR3.out))
    have HB6 := Lib.hid (fun k => (show Below w.heap.size w (w3.drewN k) from below_drewN HB3.out k))
    have HR6b := Lib.hid (fun k => (show Blk (w3.drewN k).drew w.heap.size 42 (rc r).toArray from HR3.out))
    have HR6c := Lib.hid (fun k o => (show Blk ((w3.drewN k).alloc o) w.heap.size 42 (rc r).toArray from HR3.out.alloc o))
    have HB6c := Lib.hid (fun k o => (show Below w.heap.size w ((w3.drewN k).alloc o) from (below_drewN HB3.out k).alloc HB3.out.size o))
    have HR7 := Lib.hid (fun o k => (show Blk ((w3.alloc o).drewN k) w.heap.size 42 (rc r).toArray from HR3.out.alloc o))
    have HB7 := Lib.hid (fun o k => (show Below w.heap.size w ((w3.alloc o).drewN k) from below_drewN (HB3.out.alloc HB3.out.size o) k))
    go_region_held3 (fun V => V.cell? ⟨w.heap.size, 0, none⟩ = some (.int .u32 (r.a : Int)) ∧ V.cell? ⟨w.heap.size, 1, none⟩ = some (.int .i64 (r.s : Int)) ∧ V.cell? ⟨w.heap.size, 2, none⟩ = some (.string (ofL r.d)))
      (first | exact ⟨(HR6b.out _).cell 0, (HR6b.out _).cell 1, (HR6b.out _).cell 2⟩ | exact ⟨(HR6.out _).cell 0, (HR6.out _).cell 1, (HR6.out _).cell 2⟩ | exact ⟨(HR6c.out _ _).cell 0, (HR6c.out _ _).cell 1, (HR6c.out _ _).cell 2⟩ | exact ⟨(HR7.out _ _).cell 0, (HR7.out _ _).cell 1, (HR7.out _ _).cell 2⟩ | exact ⟨((HR6.out _).below HB4.out).cell 0, ((HR6.out _).below HB4.out).cell 1, ((HR6.out _).below HB4.out).cell 2⟩ | exact ⟨((HR7.out _ _).below HB4.out).cell 0, ((HR7.out _ _).below HB4.out).cell 1, ((HR7.out _ _).below HB4.out).cell 2⟩ | exact ⟨(((HR6.out _).below HB4.out).alloc _).cell 0, (((HR6.out _).below HB4.out).alloc _).cell 1, (((HR6.out _).below HB4.out).alloc _).cell 2⟩ | exact ⟨(Rc.Blk.lo (((HR6.out _).below HB4.out).alloc _) HB5.out (HR6.out _).lt).cell 0, (Rc.Blk.lo (((HR6.out _).below HB4.out).alloc _) HB5.out (HR6.out _).lt).cell 1, (Rc.Blk.lo (((HR6.out _).below HB4.out).alloc _) HB5.out (HR6.out _).lt).cell 2⟩ | exact ⟨(Rc.Blk.lo ((HR6c.out _ _).below HB4.out) HB5.out (HR6c.out _ _).lt).cell 0, (Rc.Blk.lo ((HR6c.out _ _).below HB4.out) HB5.out (HR6c.out _ _).lt).cell 1, (Rc.Blk.lo ((HR6c.out _ _).below HB4.out) HB5.out (HR6c.out _ _).lt).cell 2⟩)
      (first
        | (go_at_call 36; (with_reducible refine (HC.out _ ?_).mono ?_); (first | exact HB6.out _ | exact HB6c.out _ _ | exact HB7.out _ _); rintro e w4 ⟨v, rfl, ho, hb4⟩; have HO4 := Lib.hid ho; have HB4 := Lib.hid hb4; clear ho hb4)
        | (go_at_call 45; (with_reducible refine (HIN.out _ _ v _ (Own.alloc HO4.out _) ?_ ?_).mono ?_); exact Nat.le_trans HB4.out.size (Below.alloc (Below.refl _ w4) (Nat.le_refl _) _).size; exact Blk.new _ _ _; rintro e w5 ⟨v5, rfl, ho5, hb5⟩; have HO5 := Lib.hid ho5; have HB5 := Lib.hid hb5; clear ho5 hb5)
        | (go_at_call 45; (with_reducible refine (HIN.out _ _ v _ HO4.out ?_ ?_).mono ?_); exact HB4.out.size; exact (HNB.out _).below HB4.out; rintro e w5 ⟨v5, rfl, ho5, hb5⟩; have HO5 := Lib.hid ho5; have HB5 := Lib.hid hb5; clear ho5 hb5))
    all_goals go_wp2_with fail
    all_goals go_ret2
    all_goals refine ⟨v5, rfl, ?_, ?_⟩
    all_goals first
      | (show Own w5 w.heap.size v5 (ins r l)
         unfold ins
         rw [← HIX.out, hil', List.take_length, List.drop_length]
         first | exact own_mono HO5.out (HB6.out _).size | exact own_mono HO5.out (HB6c.out _ _).size)
      | exact ((HB6.out _).trans (HB4.out.mono (HB6.out _).size)).trans (HB5.out.mono (HB6.out _).size)
      | exact ((HB6.out _).trans (HB4.out.mono (HB6.out _).size)).alloc (Nat.le_trans (HB6.out 0).size HB4.out.size) _ |>.trans (HB5.out.mono (HB6.out _).size)
      | exact ((HB6c.out _ _).trans (HB4.out.mono (HB6c.out _ _).size)).trans (HB5.out.mono (HB6c.out _ _).size)
  · have e1 : ((i : Int) == (l.length : Int)) = false := by simp; omega
    have hlt : i < l.length := by omega
    have e2 : decide ((i : Int) = (l.length : Int)) = false := by simp; omega
    have e3 : ¬ (i : Int) = (l.length : Int) := by omega
    have hltI : (i : Int) < (l.length : Int) := by omega
    obtain ⟨ga, oa, rfl, hat⟩ := (HRC.out _ HB3d.out).mem (by omega)
    have HAT := Lib.hid (hat.2 i hlt)
    have HLT := Lib.hid hat.1
    have HKI := Lib.hid (fun W (hb : Below w.heap.size w W) => HKA.out i hlt W hb)
    have hneq : ((ofL (key l[i])).toList != (ofL (key r)).toList) = true := key_neq (HNE.out _ (List.getElem_mem hlt))
    have hneq2 : ((ofL (key l[i])).toList == (ofL (key r)).toList) = false := by have h := hneq; rw [bne_iff_ne] at h; rw [beq_eq_false_iff_ne]; exact h
    have HR3d := Lib.hid HR3.out.drew
    have HLTd := Lib.hid (show ga < w3.drew.heap.size from HLT.out)
    clear hat
    go_region_held3 (fun V => V.cell? ⟨w.heap.size, 0, none⟩ = some (.int .u32 (r.a : Int)) ∧ V.cell? ⟨w.heap.size, 1, none⟩ = some (.int .i64 (r.s : Int)) ∧ V.cell? ⟨w.heap.size, 2, none⟩ = some (.string (ofL r.d)) ∧ V.cell? ⟨ga, oa + i * 3, none⟩ = some (.int .u32 (l[i].a : Int)) ∧ V.cell? ⟨ga, oa + i * 3 + 1, none⟩ = some (.int .i64 (l[i].s : Int)) ∧ V.cell? ⟨ga, oa + i * 3 + 2, none⟩ = some (.string (ofL l[i].d)))
      (first | exact ⟨HR3d.out.cell 0, HR3d.out.cell 1, HR3d.out.cell 2, HAT.out.1, HAT.out.2.1, HAT.out.2.2⟩ | exact ⟨(HR3d.out.below HB4.out).cell 0, (HR3d.out.below HB4.out).cell 1, (HR3d.out.below HB4.out).cell 2, ((HB4.out.cell (p := ⟨ga, _, none⟩) HLTd.out).trans HAT.out.1), ((HB4.out.cell (p := ⟨ga, _, none⟩) HLTd.out).trans HAT.out.2.1), ((HB4.out.cell (p := ⟨ga, _, none⟩) HLTd.out).trans HAT.out.2.2)⟩ | exact ⟨(HR3d.out.below HB5.out).cell 0, (HR3d.out.below HB5.out).cell 1, (HR3d.out.below HB5.out).cell 2, ((HB5.out.cell (p := ⟨ga, _, none⟩) HLTd.out).trans HAT.out.1), ((HB5.out.cell (p := ⟨ga, _, none⟩) HLTd.out).trans HAT.out.2.1), ((HB5.out.cell (p := ⟨ga, _, none⟩) HLTd.out).trans HAT.out.2.2)⟩ | exact ⟨((HR3d.out.below HB4.out).below HB5.out).cell 0, ((HR3d.out.below HB4.out).below HB5.out).cell 1, ((HR3d.out.below HB4.out).below HB5.out).cell 2, ((HB5.out.cell (p := ⟨ga, _, none⟩) (Nat.lt_of_lt_of_le HLTd.out HB4.out.size)).trans ((HB4.out.cell (p := ⟨ga, _, none⟩) HLTd.out).trans HAT.out.1)), ((HB5.out.cell (p := ⟨ga, _, none⟩) (Nat.lt_of_lt_of_le HLTd.out HB4.out.size)).trans ((HB4.out.cell (p := ⟨ga, _, none⟩) HLTd.out).trans HAT.out.2.1)), ((HB5.out.cell (p := ⟨ga, _, none⟩) (Nat.lt_of_lt_of_le HLTd.out HB4.out.size)).trans ((HB4.out.cell (p := ⟨ga, _, none⟩) HLTd.out).trans HAT.out.2.2))⟩ | exact ⟨((HR3d.out.below HB5.out).below HB4.out).cell 0, ((HR3d.out.below HB5.out).below HB4.out).cell 1, ((HR3d.out.below HB5.out).below HB4.out).cell 2, ((HB4.out.cell (p := ⟨ga, _, none⟩) (Nat.lt_of_lt_of_le HLTd.out HB5.out.size)).trans ((HB5.out.cell (p := ⟨ga, _, none⟩) HLTd.out).trans HAT.out.1)), ((HB4.out.cell (p := ⟨ga, _, none⟩) (Nat.lt_of_lt_of_le HLTd.out HB5.out.size)).trans ((HB5.out.cell (p := ⟨ga, _, none⟩) HLTd.out).trans HAT.out.2.1)), ((HB4.out.cell (p := ⟨ga, _, none⟩) (Nat.lt_of_lt_of_le HLTd.out HB5.out.size)).trans ((HB5.out.cell (p := ⟨ga, _, none⟩) HLTd.out).trans HAT.out.2.2))⟩)
      (first
        | (go_at_call 22; (with_reducible refine (HKI.out _ ?_).mono ?_); (first | exact HB3d.out | exact HB3d.out.trans (HB5.out.mono HB3d.out.size)); rintro e w4 ⟨rfl, hb4⟩; have HB4 := Lib.hid hb4; clear hb4)
        | (go_at_call 22; (with_reducible refine (HK.out _ ?_).mono ?_); (first | exact HB3d.out | exact HB3d.out.trans (HB4.out.mono HB3d.out.size)); rintro e w5 ⟨rfl, hb5⟩; have HB5 := Lib.hid hb5; clear hb5))
    · have HR9 := Lib.hid ((HR3d.out.below HB4.out).below HB5.out)
      have HB9 := Lib.hid ((HB3d.out.trans (HB4.out.mono HB3d.out.size)).trans (HB5.out.mono (Nat.le_trans HB3d.out.size HB4.out.size)))
      have HIN := Lib.hid (fun W b v g (ho : Own W b v l) (hB : b ≤ W.heap.size) (hg : Blk W g 42 (rc r).toArray) hne => insert_f l r i hil W b v ho hB (by omega) g hg hne)
      have HRa := Lib.hid (show Blk w5.drew w.heap.size 42 (rc r).toArray from HR9.out)
      have HRb := Lib.hid (fun o => (show Blk (w5.drew.alloc o) w.heap.size 42 (rc r).toArray from HR9.out.alloc o))
      have HRc := Lib.hid (fun o => (show Blk (w5.alloc o).drew w.heap.size 42 (rc r).toArray from HR9.out.alloc o))
      have HBa := Lib.hid (show Below w.heap.size w w5.drew from below_drewN HB9.out 1)
      have HBb := Lib.hid (fun o => HBa.out.alloc HBa.out.size o)
      have HNB := Lib.hid (show Blk (w5.drew.alloc (.cells #[.int .u32 (r.a : Int), .int .i64 (r.s : Int), .string (ofL r.d)] 42)) w5.heap.size 42 (rc r).toArray from Blk.new w5.drew _ _)
      go_wp2_with fail
      go_region_held3 (fun V => V.cell? ⟨w.heap.size, 0, none⟩ = some (.int .u32 (r.a : Int)) ∧ V.cell? ⟨w.heap.size, 1, none⟩ = some (.int .i64 (r.s : Int)) ∧ V.cell? ⟨w.heap.size, 2, none⟩ = some (.string (ofL r.d)))
        (first | exact ⟨HRa.out.cell 0, HRa.out.cell 1, HRa.out.cell 2⟩ | exact ⟨(HRb.out _).cell 0, (HRb.out _).cell 1, (HRb.out _).cell 2⟩ | exact ⟨(HRc.out _).cell 0, (HRc.out _).cell 1, (HRc.out _).cell 2⟩ | exact ⟨(HRa.out.below HC4.out).cell 0, (HRa.out.below HC4.out).cell 1, (HRa.out.below HC4.out).cell 2⟩ | exact ⟨((HRb.out _).below HC4.out).cell 0, ((HRb.out _).below HC4.out).cell 1, ((HRb.out _).below HC4.out).cell 2⟩ | exact ⟨((HRc.out _).below HC4.out).cell 0, ((HRc.out _).below HC4.out).cell 1, ((HRc.out _).below HC4.out).cell 2⟩ | exact ⟨((HRa.out.below HC4.out).alloc _).cell 0, ((HRa.out.below HC4.out).alloc _).cell 1, ((HRa.out.below HC4.out).alloc _).cell 2⟩ | exact ⟨(Rc.Blk.lo ((HRa.out.below HC4.out).alloc _) HC5.out HRa.out.lt).cell 0, (Rc.Blk.lo ((HRa.out.below HC4.out).alloc _) HC5.out HRa.out.lt).cell 1, (Rc.Blk.lo ((HRa.out.below HC4.out).alloc _) HC5.out HRa.out.lt).cell 2⟩ | exact ⟨(Rc.Blk.lo ((HRb.out _).below HC4.out) HC5.out (HRb.out _).lt).cell 0, (Rc.Blk.lo ((HRb.out _).below HC4.out) HC5.out (HRb.out _).lt).cell 1, (Rc.Blk.lo ((HRb.out _).below HC4.out) HC5.out (HRb.out _).lt).cell 2⟩ | exact ⟨(Rc.Blk.lo ((HRc.out _).below HC4.out) HC5.out (HRc.out _).lt).cell 0, (Rc.Blk.lo ((HRc.out _).below HC4.out) HC5.out (HRc.out _).lt).cell 1, (Rc.Blk.lo ((HRc.out _).below HC4.out) HC5.out (HRc.out _).lt).cell 2⟩)
        (first
          | (go_at_call 36; (with_reducible refine (HC.out _ ?_).mono ?_); (first | exact HBa.out | exact HBb.out _); rintro e w6 ⟨v, rfl, ho, hb6⟩; have HO4 := Lib.hid ho; have HC4 := Lib.hid hb6; clear ho hb6)
          | (go_at_call 45; (with_reducible refine (HIN.out _ _ v _ (Own.alloc HO4.out _) ?_ ?_ ?_).mono ?_); exact Nat.le_trans HC4.out.size (Below.alloc (Below.refl _ w6) (Nat.le_refl _) _).size; exact Blk.new _ _ _; exact (fun e => absurd (HO4.out.lt _ e).2 (Nat.lt_irrefl _)); rintro e w7 ⟨v5, rfl, ho5, hb7⟩; have HO5 := Lib.hid ho5; have HC5 := Lib.hid hb7; clear ho5 hb7)
          | (go_at_call 45; (with_reducible refine (HIN.out _ _ v _ HO4.out ?_ ?_ ?_).mono ?_); exact HC4.out.size; exact HNB.out.below HC4.out; exact (fun e => absurd (HO4.out.lt _ e).1 (by simp)); rintro e w7 ⟨v5, rfl, ho5, hb7⟩; have HO5 := Lib.hid ho5; have HC5 := Lib.hid hb7; clear ho5 hb7))
      all_goals go_wp2_with fail
      all_goals go_ret2
      all_goals refine ⟨v5, rfl, ?_, ?_⟩
      all_goals first
        | (show Own w7 w.heap.size v5 (ins r l)
           unfold ins
           rw [← HIX.out]
           first | exact own_mono HO5.out HBa.out.size | exact own_mono HO5.out (HBb.out _).size)
        | exact (HBa.out.trans (HC4.out.mono HBa.out.size)).trans (HC5.out.mono HBa.out.size)
        | exact ((HBb.out _).trans (HC4.out.mono (HBb.out _).size)).trans (HC5.out.mono (HBb.out _).size)
        | exact ((HBa.out.trans (HC4.out.mono HBa.out.size)).alloc (Nat.le_trans HBa.out.size HC4.out.size) _).trans (HC5.out.mono HBa.out.size)
end Rc
end Go.Proofs.YtnllocghmnhooaaDoor
