/- The law LayoutPositions of stelelaw16 returns true for every input, and each argument reads behind the call as it read before. No conditions. -/
import Derived.Test.YtogcgeiocndlbaaLk
import Derived.Deep.RegionHeld3
namespace Go.Proofs.Ytogcgeiocndlbaa
namespace LayoutPositions
open Go.RowKit Ly

/-- the three structs that the last test reads -/
def S8 (gL gA gB : Nat) (d t pa pb pc : Int) (V : World) : Prop := Blk V gL 23 #[.int .i64 d, .int .i64 t] ∧ Blk V gA 34 #[.int .i64 pa, .int .i64 pb, .int .i64 pc] ∧ Blk V gB 34 #[.int .i64 pa, .int .i64 pb, .int .i64 pc]
theorem S8.below {gL gA gB : Nat} {d t pa pb pc : Int} {V V' : World} (h : S8 gL gA gB d t pa pb pc V) (hb : Below V.heap.size V V') : S8 gL gA gB d t pa pb pc V' := ⟨h.1.below hb, h.2.1.below hb, h.2.2.below hb⟩
theorem S8.drew {gL gA gB : Nat} {d t pa pb pc : Int} {V : World} (h : S8 gL gA gB d t pa pb pc V) : S8 gL gA gB d t pa pb pc V.drew := ⟨h.1.drew, h.2.1.drew, h.2.2.drew⟩
theorem S8.cells {gL gA gB : Nat} {d t pa pb pc : Int} {V : World} (h : S8 gL gA gB d t pa pb pc V) :
    V.cell? ⟨gL, 0, none⟩ = some (.int .i64 d) ∧ V.cell? ⟨gL, 1, none⟩ = some (.int .i64 t) ∧ V.cell? ⟨gA, 0, none⟩ = some (.int .i64 pa) ∧ V.cell? ⟨gA, 1, none⟩ = some (.int .i64 pb) ∧ V.cell? ⟨gA, 2, none⟩ = some (.int .i64 pc) ∧
      V.cell? ⟨gB, 0, none⟩ = some (.int .i64 pa) ∧ V.cell? ⟨gB, 1, none⟩ = some (.int .i64 pb) ∧ V.cell? ⟨gB, 2, none⟩ = some (.int .i64 pc) :=
  ⟨h.1.cell 0, h.1.cell 1, h.2.1.cell 0, h.2.1.cell 1, h.2.1.cell 2, h.2.2.cell 0, h.2.2.cell 1, h.2.2.cell 2⟩

set_option maxRecDepth 100000 in
set_option maxHeartbeats 4000000 in
theorem core (w : World) (d t o a b c : Int) :
    Calls Try.prog 5 #[.agg #[.int .i64 d, .int .i64 t], .int .i64 o, .agg #[.int .i64 a, .int .i64 b, .int .i64 c]] w fun e w' => e = .returned (.bool true) ∧ Below w.heap.size w w' := by
  obtain ⟨pa, pb, pc, pe, hl, hl'⟩ := loc_any d t o
  obtain ⟨ov, oe, ho, ho'⟩ := off_any d t a b c
  obtain ⟨r, hc, hc'⟩ := chk_any d t
  have HLo := Lib.hid hl
  have HLo' := Lib.hid hl'
  have HOf := Lib.hid ho
  have HOf' := Lib.hid ho'
  have HCh := Lib.hid hc
  have HCh' := Lib.hid hc'
  clear hl hl' ho ho' hc hc'
  go_enter Try.func5, Try.ntmps5
  go_wp2_with fail
  refine (alive_f _).mono ?_
  rintro e w1 ⟨rfl, hb⟩
  have HL := Lib.hid (((Blk.new w 23 #[.int .i64 d, .int .i64 t]).alloc (.cells #[.int .i64 a, .int .i64 b, .int .i64 c] 34)).below hb)
  have HP := Lib.hid ((blk_new1 w (.cells #[.int .i64 d, .int .i64 t] 23) 34 #[.int .i64 a, .int .i64 b, .int .i64 c]).below hb)
  have HB1 := Lib.hid ((((Below.refl _ w).alloc (Nat.le_refl _) (.cells #[.int .i64 d, .int .i64 t] 23)).alloc (by simp) (.cells #[.int .i64 a, .int .i64 b, .int .i64 c] 34)).trans (hb.mono (by simp; omega)))
  clear hb
  have c0 := HL.out.cell 0
  have c1 := HL.out.cell 1
  simp only [List.getElem?_toArray, List.getElem?_cons_zero, List.getElem?_cons_succ] at c0 c1
  go_wp2_with fail
  refine (HLo.out _).mono ?_
  rintro e w2 ⟨rfl, hb⟩
  have HA := Lib.hid (Blk.new w2 34 #[.int .i64 pa, .int .i64 pb, .int .i64 pc])
  have HL2 := Lib.hid ((HL.out.below hb).alloc (.cells #[.int .i64 pa, .int .i64 pb, .int .i64 pc] 34))
  have HP2 := Lib.hid ((HP.out.below hb).alloc (.cells #[.int .i64 pa, .int .i64 pb, .int .i64 pc] 34))
  have HB2 := Lib.hid (((HB1.out.trans (hb.mono HB1.out.size))).alloc (Nat.le_trans HB1.out.size hb.size) (.cells #[.int .i64 pa, .int .i64 pb, .int .i64 pc] 34))
  clear hb c0 c1 HL HP HB1
  obtain ⟨v2, hv2⟩ : ∃ v2, v2 = w2.alloc (.cells #[.int .i64 pa, .int .i64 pb, .int .i64 pc] 34) := ⟨_, rfl⟩
  rw [← hv2] at HA HL2 HP2 HB2
  have HV2 := Lib.hid hv2
  obtain ⟨gA, hgA⟩ : ∃ gA, gA = w2.heap.size := ⟨_, rfl⟩
  rw [← hgA] at HA
  have HGA := Lib.hid hgA
  have c0 := HL2.out.cell 0
  have c1 := HL2.out.cell 1
  rw [hv2] at c0 c1
  clear hv2 hgA
  simp only [List.getElem?_toArray, List.getElem?_cons_zero, List.getElem?_cons_succ] at c0 c1
  go_wp2_with fail
  rw [← HV2.out]
  try rw [← HGA.out]
  refine (HLo'.out _).mono ?_
  rintro e w3 ⟨rfl, hb⟩
  have HAb := Lib.hid (Blk.new w3 34 #[.int .i64 pa, .int .i64 pb, .int .i64 pc])
  have HA3 := Lib.hid ((HA.out.below hb).alloc (.cells #[.int .i64 pa, .int .i64 pb, .int .i64 pc] 34))
  have HL3 := Lib.hid ((HL2.out.below hb).alloc (.cells #[.int .i64 pa, .int .i64 pb, .int .i64 pc] 34))
  have HP3 := Lib.hid ((HP2.out.below hb).alloc (.cells #[.int .i64 pa, .int .i64 pb, .int .i64 pc] 34))
  have HB3 := Lib.hid (((HB2.out.trans (hb.mono HB2.out.size))).alloc (Nat.le_trans HB2.out.size hb.size) (.cells #[.int .i64 pa, .int .i64 pb, .int .i64 pc] 34))
  clear hb c0 c1 HA HL2 HP2 HB2 HV2 HGA
  obtain ⟨v3, hv3⟩ : ∃ v3, v3 = w3.alloc (.cells #[.int .i64 pa, .int .i64 pb, .int .i64 pc] 34) := ⟨_, rfl⟩
  rw [← hv3] at HAb HA3 HL3 HP3 HB3
  have HV3 := Lib.hid hv3
  obtain ⟨gB, hgB⟩ : ∃ gB, gB = w3.heap.size := ⟨_, rfl⟩
  rw [← hgB] at HAb
  have HGB := Lib.hid hgB
  have c0 := HL3.out.cell 0
  have c1 := HL3.out.cell 1
  have p0 := HP3.out.cell 0
  have p1 := HP3.out.cell 1
  have p2 := HP3.out.cell 2
  rw [hv3] at c0 c1 p0 p1 p2
  clear hv3 hgB
  simp only [List.getElem?_toArray, List.getElem?_cons_zero, List.getElem?_cons_succ] at c0 c1 p0 p1 p2
  go_wp2_with fail
  rw [← HV3.out]
  try rw [← HGB.out]
  refine (HOf.out _).mono ?_
  rintro e w4 ⟨rfl, hb⟩
  have HS4 := Lib.hid (S8.below (V := v3) ⟨HL3.out, HA3.out, HAb.out⟩ hb)
  have HP4 := Lib.hid (HP3.out.below hb)
  have HB4 := Lib.hid (HB3.out.trans (hb.mono HB3.out.size))
  clear hb c0 c1 p0 p1 p2 HAb HA3 HL3 HP3 HB3 HV3 HGB
  have c0 := HS4.out.1.cell 0
  have c1 := HS4.out.1.cell 1
  have p0 := HP4.out.cell 0
  have p1 := HP4.out.cell 1
  have p2 := HP4.out.cell 2
  simp only [List.getElem?_toArray, List.getElem?_cons_zero, List.getElem?_cons_succ] at c0 c1 p0 p1 p2
  go_wp2_with fail
  refine (HOf'.out _).mono ?_
  rintro e w5 ⟨rfl, hb⟩
  have HS5 := Lib.hid (HS4.out.below hb)
  have HB5 := Lib.hid (HB4.out.trans (hb.mono HB4.out.size))
  clear hb c0 c1 p0 p1 p2 HS4 HP4 HB4
  go_wp2_with fail
  go_region_held3 (fun V => V.cell? ⟨w.heap.size, 0, none⟩ = some (.int .i64 d) ∧ V.cell? ⟨w.heap.size, 1, none⟩ = some (.int .i64 t) ∧ V.cell? ⟨gA, 0, none⟩ = some (.int .i64 pa) ∧ V.cell? ⟨gA, 1, none⟩ = some (.int .i64 pb) ∧ V.cell? ⟨gA, 2, none⟩ = some (.int .i64 pc) ∧ V.cell? ⟨gB, 0, none⟩ = some (.int .i64 pa) ∧ V.cell? ⟨gB, 1, none⟩ = some (.int .i64 pb) ∧ V.cell? ⟨gB, 2, none⟩ = some (.int .i64 pc))
    (first | exact S8.cells HS5.out | exact S8.cells (S8.below (V := w5.drew) HS5.out HBc.out) | exact S8.cells (S8.below (V := w5.drew) HS5.out HBr.out) | exact S8.cells (S8.below (S8.below (V := w5.drew) HS5.out HBc.out) HBr.out) | exact S8.cells (S8.below (S8.below (V := w5.drew) HS5.out HBr.out) HBc.out))
    (first
      | (go_at_call 14; (with_reducible refine (HCh.out _).mono ?_); rintro e wc ⟨rfl, hbc⟩; have HBc := Lib.hid hbc; clear hbc)
      | (go_at_call 19; (with_reducible refine (HCh'.out _).mono ?_); rintro e wr ⟨rfl, hbr⟩; have HBr := Lib.hid hbr; clear hbr))
  all_goals
    have HBB := Lib.hid (show Below w.heap.size w _ from by
      first
        | exact (HB5.out.drew.trans (HBc.out.mono HB5.out.size)).trans (HBr.out.mono (Nat.le_trans HB5.out.size HBc.out.size))
        | exact (HB5.out.drew.trans (HBr.out.mono HB5.out.size)).trans (HBc.out.mono (Nat.le_trans HB5.out.size HBr.out.size)))
    go_wp2_with fail
    go_ret
    exact ⟨rfl, HBB.out⟩

end LayoutPositions
end Go.Proofs.Ytogcgeiocndlbaa
