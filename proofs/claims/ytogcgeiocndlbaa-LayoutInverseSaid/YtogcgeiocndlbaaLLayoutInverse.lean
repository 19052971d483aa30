/- The law LayoutInverse of stelelaw16 returns true for every input, and each argument reads behind the call as it read before. No conditions. -/
import Derived.Test.YtogcgeiocndlbaaLk
namespace Go.Proofs.Ytogcgeiocndlbaa
namespace LayoutInverse
open Go.RowKit Ly

set_option maxRecDepth 100000 in
set_option maxHeartbeats 4000000 in
theorem core (w : World) (d t o a b c : Int) :
    Calls Try.prog 6 #[.agg #[.int .i64 d, .int .i64 t], .int .i64 o, .agg #[.int .i64 a, .int .i64 b, .int .i64 c]] w fun e w' => e = .returned (.bool true) ∧ Below w.heap.size w w' := by
  go_enter Try.func6, Try.ntmps6
  go_wp2_with fail
  refine (alive_f _).mono ?_
  rintro e w1 ⟨rfl, hb⟩
  have HL := Lib.hid (((Blk.new w 23 #[.int .i64 d, .int .i64 t]).alloc (.cells #[.int .i64 a, .int .i64 b, .int .i64 c] 34)).below hb)
  have HP := Lib.hid ((blk_new1 w (.cells #[.int .i64 d, .int .i64 t] 23) 34 #[.int .i64 a, .int .i64 b, .int .i64 c]).below hb)
  have HB := Lib.hid ((((Below.refl _ w).alloc (Nat.le_refl _) (.cells #[.int .i64 d, .int .i64 t] 23)).alloc (by simp) (.cells #[.int .i64 a, .int .i64 b, .int .i64 c] 34)).trans (hb.mono (by simp; omega)))
  clear hb
  have c0 := HL.out.cell 0
  have c1 := HL.out.cell 1
  simp only [List.getElem?_toArray, List.getElem?_cons_zero, List.getElem?_cons_succ] at c0 c1
  by_cases hloc : locOk d t o
  · obtain ⟨k1, k2⟩ := inv_loc hloc
    have HLC := Lib.hid (fun W => loc_yes d t o hloc W)
    generalize o / 28 / d = qa at *
    generalize o / 28 % d = qb at *
    generalize o % 28 = qc at *
    have HOC := Lib.hid (show ∀ W, Calls Try.prog 17 #[.agg #[.int .i64 d, .int .i64 t], .agg #[.int .i64 qa, .int .i64 qb, .int .i64 qc]] W (Nn o 0 W) from fun W => by
      have := off_yes d t qa qb qc k1 W
      rw [k2] at this
      exact this)
    have q1 : 0 ≤ qb := k1.2.2.2.1
    have q2 : qb < d := k1.2.2.2.2.1
    have q3 : 0 ≤ qc := k1.2.2.2.2.2.1
    have q4 : qc ≤ 27 := k1.2.2.2.2.2.2.1
    clear hloc k1 k2
    go_wp2_with fail
    refine (HLC.out _).mono ?_
    rintro e w2 ⟨rfl, hb⟩
    have HQ := Lib.hid (Blk.new w2 34 #[.int .i64 qa, .int .i64 qb, .int .i64 qc])
    have HL2 := Lib.hid ((HL.out.below hb).alloc (.cells #[.int .i64 qa, .int .i64 qb, .int .i64 qc] 34))
    have HP2 := Lib.hid ((HP.out.below hb).alloc (.cells #[.int .i64 qa, .int .i64 qb, .int .i64 qc] 34))
    have HB2 := Lib.hid (((HB.out.trans (hb.mono HB.out.size))).alloc (Nat.le_trans HB.out.size hb.size) (.cells #[.int .i64 qa, .int .i64 qb, .int .i64 qc] 34))
    clear hb c0 c1 HL HP HB
    have c0 := HL2.out.cell 0
    have c1 := HL2.out.cell 1
    simp only [List.getElem?_toArray, List.getElem?_cons_zero, List.getElem?_cons_succ] at c0 c1
    go_wp2_with fail
    refine (HOC.out _).mono ?_
    rintro e w3 ⟨rfl, hb⟩
    have HL := Lib.hid (HL2.out.below hb)
    have HP := Lib.hid (HP2.out.below hb)
    have HB := Lib.hid (HB2.out.trans (hb.mono HB2.out.size))
    have HQ3 := Lib.hid (HQ.out.below hb)
    clear hb c0 c1 HL2 HP2 HB2 HQ
    have q5 := HQ3.out.cell 1
    have q6 := HQ3.out.cell 2
    simp only [List.getElem?_toArray, List.getElem?_cons_zero, List.getElem?_cons_succ] at q5 q6
    have c0 := HL.out.cell 0
    have c1 := HL.out.cell 1
    have p0 := HP.out.cell 0
    have p1 := HP.out.cell 1
    have p2 := HP.out.cell 2
    simp only [List.getElem?_toArray, List.getElem?_cons_zero, List.getElem?_cons_succ] at c0 c1 p0 p1 p2
    by_cases hoff : offOk d t a b c
    · obtain ⟨ov, hov⟩ : ∃ ov, ov = offV d a b c := ⟨_, rfl⟩
      have hpos := off_pos hoff
      rw [← hov] at hpos
      obtain ⟨hp1, hp2⟩ := hpos
      have HOF := Lib.hid (show ∀ W, Calls Try.prog 17 #[.agg #[.int .i64 d, .int .i64 t], .agg #[.int .i64 a, .int .i64 b, .int .i64 c]] W (Nn ov 0 W) from fun W => by rw [hov]; exact off_yes d t a b c hoff W)
      have HLO := Lib.hid (show ∀ W, Calls Try.prog 15 #[.agg #[.int .i64 d, .int .i64 t], .int .i64 ov] W (Po a b c 0 W) from fun W => by
        obtain ⟨k1, k2, k3, k4⟩ := inv_off hoff
        have := loc_yes d t (offV d a b c) k1 W
        rw [k2, k3, k4] at this
        rw [hov]
        exact this)
      have HPR := Lib.hid (show c ≠ 0 → ∀ W, Calls Try.prog 17 #[.agg #[.int .i64 d, .int .i64 t], .agg #[.int .i64 a, .int .i64 b, .int .i64 (c - 1)]] W (Nn (ov - 1) 0 W) from fun hc W => by
        obtain ⟨k1, k2⟩ := off_pred hoff hc
        have := off_yes d t a b (c - 1) k1 W
        rw [k2] at this
        rw [hov]
        exact this)
      have hc1 : 0 ≤ c := hoff.2.2.2.2.2.1
      have hc2 : c ≤ 27 := hoff.2.2.2.2.2.2.1
      clear hoff hov
      go_wp2_with fail
      refine (HOF.out _).mono ?_
      rintro e V1 ⟨rfl, hb⟩
      have HL1 := Lib.hid (HL.out.below hb)
      have HP1 := Lib.hid (HP.out.below hb)
      have HB1 := Lib.hid (HB.out.trans (hb.mono HB.out.size))
      clear hb c0 c1 p0 p1 p2 HL HP HB
      have c0 := HL1.out.cell 0
      have c1 := HL1.out.cell 1
      simp only [List.getElem?_toArray, List.getElem?_cons_zero, List.getElem?_cons_succ] at c0 c1
      go_wp2_with fail
      refine (HLO.out _).mono ?_
      rintro e V2 ⟨rfl, hb⟩
      have HR := Lib.hid (Blk.new V2 34 #[.int .i64 a, .int .i64 b, .int .i64 c])
      have HL2 := Lib.hid ((HL1.out.below hb).alloc (.cells #[.int .i64 a, .int .i64 b, .int .i64 c] 34))
      have HP2 := Lib.hid ((HP1.out.below hb).alloc (.cells #[.int .i64 a, .int .i64 b, .int .i64 c] 34))
      have HB2 := Lib.hid (((HB1.out.trans (hb.mono HB1.out.size))).alloc (Nat.le_trans HB1.out.size hb.size) (.cells #[.int .i64 a, .int .i64 b, .int .i64 c] 34))
      have HNE := Lib.hid (show w.heap.size + 1 < V2.heap.size from (HP1.out.below hb).lt)
      clear hb c0 c1 HL1 HP1 HB1
      have r0 := HR.out.cell 0
      have r1 := HR.out.cell 1
      have r2 := HR.out.cell 2
      have p0 := HP2.out.cell 0
      have p1 := HP2.out.cell 1
      have p2 := HP2.out.cell 2
      simp only [List.getElem?_toArray, List.getElem?_cons_zero, List.getElem?_cons_succ] at r0 r1 r2 p0 p1 p2
      by_cases hc : c = 0
      · subst hc
        go_wp2_with fail
        go_ret
        exact ⟨rfl, HB2.out⟩
      · have HC3 := Lib.hid (HPR.out hc)
        have f2 := HP2.out.frozen 2
        have c0 := HL2.out.cell 0
        have c1 := HL2.out.cell 1
        simp only [List.getElem?_toArray, List.getElem?_cons_zero, List.getElem?_cons_succ] at c0 c1
        have HB3 := Lib.hid (HB2.out.setCell (p := ⟨w.heap.size + 1, 2, none⟩) (by simp) (.int .i64 (c - 1)))
        go_wp2_with fail
        refine (HC3.out _).mono ?_
        rintro e V3 ⟨rfl, hb⟩
        have HB4 := Lib.hid (HB3.out.trans (hb.mono HB3.out.size))
        clear hb c0 c1 p0 p1 p2 r0 r1 r2 f2
        go_wp2_with fail
        go_ret
        exact ⟨rfl, HB4.out⟩
    · have HOF := Lib.hid (fun W => off_no d t a b c hoff W)
      clear hoff
      go_wp2_with fail
      refine (HOF.out _).mono ?_
      rintro e V1 ⟨rfl, hb⟩
      have HB1 := Lib.hid (HB.out.trans (hb.mono HB.out.size))
      clear hb c0 c1 p0 p1 p2 HL HP HB
      go_wp2_with fail
      go_ret
      exact ⟨rfl, HB1.out⟩
  · have HLC := Lib.hid (fun W => loc_no d t o hloc W)
    clear hloc
    go_wp2_with fail
    refine (HLC.out _).mono ?_
    rintro e w2 ⟨rfl, hb⟩
    have HL2 := Lib.hid ((HL.out.below hb).alloc (.cells #[.int .i64 0, .int .i64 0, .int .i64 0] 34))
    have HP2 := Lib.hid ((HP.out.below hb).alloc (.cells #[.int .i64 0, .int .i64 0, .int .i64 0] 34))
    have HB2 := Lib.hid (((HB.out.trans (hb.mono HB.out.size))).alloc (Nat.le_trans HB.out.size hb.size) (.cells #[.int .i64 0, .int .i64 0, .int .i64 0] 34))
    clear hb c0 c1 HL HP HB
    have HL := HL2
    have HP := HP2
    have HB := HB2
    clear HL2 HP2 HB2
    have c0 := HL.out.cell 0
    have c1 := HL.out.cell 1
    have p0 := HP.out.cell 0
    have p1 := HP.out.cell 1
    have p2 := HP.out.cell 2
    simp only [List.getElem?_toArray, List.getElem?_cons_zero, List.getElem?_cons_succ] at c0 c1 p0 p1 p2
    by_cases hoff : offOk d t a b c
    · obtain ⟨ov, hov⟩ : ∃ ov, ov = offV d a b c := ⟨_, rfl⟩
      have hpos := off_pos hoff
      rw [← hov] at hpos
      obtain ⟨hp1, hp2⟩ := hpos
      have HOF := Lib.hid (show ∀ W, Calls Try.prog 17 #[.agg #[.int .i64 d, .int .i64 t], .agg #[.int .i64 a, .int .i64 b, .int .i64 c]] W (Nn ov 0 W) from fun W => by rw [hov]; exact off_yes d t a b c hoff W)
      have HLO := Lib.hid (show ∀ W, Calls Try.prog 15 #[.agg #[.int .i64 d, .int .i64 t], .int .i64 ov] W (Po a b c 0 W) from fun W => by
        obtain ⟨k1, k2, k3, k4⟩ := inv_off hoff
        have := loc_yes d t (offV d a b c) k1 W
        rw [k2, k3, k4] at this
        rw [hov]
        exact this)
      have HPR := Lib.hid (show c ≠ 0 → ∀ W, Calls Try.prog 17 #[.agg #[.int .i64 d, .int .i64 t], .agg #[.int .i64 a, .int .i64 b, .int .i64 (c - 1)]] W (Nn (ov - 1) 0 W) from fun hc W => by
        obtain ⟨k1, k2⟩ := off_pred hoff hc
        have := off_yes d t a b (c - 1) k1 W
        rw [k2] at this
        rw [hov]
        exact this)
      have hc1 : 0 ≤ c := hoff.2.2.2.2.2.1
      have hc2 : c ≤ 27 := hoff.2.2.2.2.2.2.1
      clear hoff hov
      go_wp2_with fail
      refine (HOF.out _).mono ?_
      rintro e V1 ⟨rfl, hb⟩
      have HL1 := Lib.hid (HL.out.below hb)
      have HP1 := Lib.hid (HP.out.below hb)
      have HB1 := Lib.hid (HB.out.trans (hb.mono HB.out.size))
      clear hb c0 c1 p0 p1 p2 HL HP HB
      have c0 := HL1.out.cell 0
      have c1 := HL1.out.cell 1
      simp only [List.getElem?_toArray, List.getElem?_cons_zero, List.getElem?_cons_succ] at c0 c1
      go_wp2_with fail
      refine (HLO.out _).mono ?_
      rintro e V2 ⟨rfl, hb⟩
      have HR := Lib.hid (Blk.new V2 34 #[.int .i64 a, .int .i64 b, .int .i64 c])
      have HL2 := Lib.hid ((HL1.out.below hb).alloc (.cells #[.int .i64 a, .int .i64 b, .int .i64 c] 34))
      have HP2 := Lib.hid ((HP1.out.below hb).alloc (.cells #[.int .i64 a, .int .i64 b, .int .i64 c] 34))
      have HB2 := Lib.hid (((HB1.out.trans (hb.mono HB1.out.size))).alloc (Nat.le_trans HB1.out.size hb.size) (.cells #[.int .i64 a, .int .i64 b, .int .i64 c] 34))
      have HNE := Lib.hid (show w.heap.size + 1 < V2.heap.size from (HP1.out.below hb).lt)
      clear hb c0 c1 HL1 HP1 HB1
      have r0 := HR.out.cell 0
      have r1 := HR.out.cell 1
      have r2 := HR.out.cell 2
      have p0 := HP2.out.cell 0
      have p1 := HP2.out.cell 1
      have p2 := HP2.out.cell 2
      simp only [List.getElem?_toArray, List.getElem?_cons_zero, List.getElem?_cons_succ] at r0 r1 r2 p0 p1 p2
      by_cases hc : c = 0
      · subst hc
        go_wp2_with fail
        go_ret
        exact ⟨rfl, HB2.out⟩
      · have HC3 := Lib.hid (HPR.out hc)
        have f2 := HP2.out.frozen 2
        have c0 := HL2.out.cell 0
        have c1 := HL2.out.cell 1
        simp only [List.getElem?_toArray, List.getElem?_cons_zero, List.getElem?_cons_succ] at c0 c1
        have HB3 := Lib.hid (HB2.out.setCell (p := ⟨w.heap.size + 1, 2, none⟩) (by simp) (.int .i64 (c - 1)))
        go_wp2_with fail
        refine (HC3.out _).mono ?_
        rintro e V3 ⟨rfl, hb⟩
        have HB4 := Lib.hid (HB3.out.trans (hb.mono HB3.out.size))
        clear hb c0 c1 p0 p1 p2 r0 r1 r2 f2
        go_wp2_with fail
        go_ret
        exact ⟨rfl, HB4.out⟩
    · have HOF := Lib.hid (fun W => off_no d t a b c hoff W)
      clear hoff
      go_wp2_with fail
      refine (HOF.out _).mono ?_
      rintro e V1 ⟨rfl, hb⟩
      have HB1 := Lib.hid (HB.out.trans (hb.mono HB.out.size))
      clear hb c0 c1 p0 p1 p2 HL HP HB
      go_wp2_with fail
      go_ret
      exact ⟨rfl, HB1.out⟩

end LayoutInverse
end Go.Proofs.Ytogcgeiocndlbaa
