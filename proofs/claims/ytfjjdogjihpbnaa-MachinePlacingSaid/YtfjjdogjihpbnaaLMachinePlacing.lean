/- The law MachinePlacing of stelelaw17 returns true for every input, and each argument reads behind the call as it read before. No conditions. -/
import Derived.Test.YtfjjdogjihpbnaaOc
import Derived.Test.YtfjjdogjihpbnaaSh
import Derived.BigQuiet
import Derived.Deep.DeepCutAuto
namespace Go.Proofs.Ytfjjdogjihpbnaa
namespace MachinePlacing
open Go.RowKit Mc

theorem rep_size (c : Nat) : (⟨(Lib.repeatL (⟨#[36]⟩ : ByteArray).data.toList c).toArray⟩ : ByteArray).size = c := by
  show (Lib.repeatL [36] c).toArray.size = c
  rw [List.size_toArray, Lib.repeatL_length]
  simp

set_option maxRecDepth 100000 in
set_option maxHeartbeats 4000000 in
theorem core (w : World) (code : ByteArray) (hcode : code.size ≤ maxLen) (Ai : Option Addr) (ni ci : Nat) (input : List Int) (hi : Sl w 1 Ai ni ci (iv input)) (hiw : ∀ x ∈ input, W32 x) (a b : Int) (ha : IntKind.i64.min ≤ a ∧ a ≤ IntKind.i64.max) (hb : IntKind.i64.min ≤ b ∧ b ≤ IntKind.i64.max) :
    Calls Try.prog 7 #[.string code, .slice Ai ni ci, .agg #[.int .i64 a, .int .i64 b]] w fun e w' => e = .returned (.bool true) ∧ Below w.heap.size w w' := by
  have HI := Lib.hid hi
  have hni := hi.le_max
  have HNI := Lib.hid hni
  have HA := Lib.hid (Blk.new w 24 #[.int .i64 a, .int .i64 b])
  obtain ⟨w0, hw0⟩ : ∃ w0, w0 = w.alloc (.cells #[.int .i64 a, .int .i64 b] 24) := ⟨_, rfl⟩
  have HB0 := Lib.hid (show Below w.heap.size w w0 by rw [hw0]; exact (Below.refl _ w).alloc (Nat.le_refl _) _)
  rw [← hw0] at HA
  have HW0 := Lib.hid hw0
  have HIW := Lib.hid hiw
  have hca : code.size ≤ 9223372036854775807 := by unfold maxLen at hcode; omega
  have ha1 : -9223372036854775808 ≤ a := ha.1
  have ha2 : a ≤ 9223372036854775807 := ha.2
  have hb1 : -9223372036854775808 ≤ b := hb.1
  have hb2 : b ≤ 9223372036854775807 := hb.2
  clear hi hni hw0 hiw ha hb hcode
  go_enter Try.func7, Try.ntmps7
  go_wp2_with fail
  rw [← HW0.out]
  refine (alive_f _).mono ?_
  rintro e w1 ⟨rfl, hb1'⟩
  have HA1 := Lib.hid (HA.out.below hb1')
  have HB1 := Lib.hid (HB0.out.trans (hb1'.mono HB0.out.size))
  have hc0 := HA1.out.cell 0
  have hc1 := HA1.out.cell 1
  simp only [List.getElem?_toArray, List.getElem?_cons_zero, List.getElem?_cons_succ] at hc0 hc1
  clear hb1'
  by_cases hl : 300 < code.size
  · go_wp2_with fail
    go_ret
    exact ⟨rfl, HB1.out⟩
  have hld : decide ((300:Int) < code.size) = false := decide_eq_false (by omega)
  by_cases hm : 100 < ni
  · go_wp2_with fail
    go_ret
    exact ⟨rfl, HB1.out⟩
  have hmd : decide ((100:Int) < ni) = false := decide_eq_false (by omega)
  go_wp2_with fail
  obtain ⟨N, hN, hNl⟩ := place_n a code.size (by omega)
  obtain ⟨Bs, hBs, hBl⟩ := place_b b
  rw [hN, hBs]
  clear hN hBs hc0 hc1 HA HA1
  obtain ⟨R, hR⟩ : ∃ R, R = Mc.runT [((Bs : Int), code)] (Bs : Int) input 2000 := ⟨_, rfl⟩
  obtain ⟨O, er, k⟩ := R
  have HR := Lib.hid hR.symm
  clear hR
  refine (run_t1 (Blk.new w1 _ _) (by omega) (by omega) (by omega) (by omega) (HI.out.below (HB1.out.alloc HB1.out.size _)) HIW.out HR.out).mono ?_
  rintro e w2 ⟨rfl, hb2⟩
  have HB2 := Lib.hid ((HB1.out.alloc HB1.out.size (.cells #[.int .i64 (Bs : Int), .string code] 35)).trans (hb2.mono (HB1.out.alloc HB1.out.size (.cells #[.int .i64 (Bs : Int), .string code] 35)).size))
  clear hb2
  go_upto_region 8 with fail
  have hX : Oc w.heap.size (w2.alloc (.cells #[.string (ofL O), .int .i64 er, .int .i64 k] 29)) w2.heap.size (ofL O) er k := ⟨HB2.out.size, Blk.new _ _ _⟩
  have hB := HB2.out.alloc HB2.out.size (.cells #[.string (ofL O), .int .i64 er, .int .i64 k] 29)
  generalize w2.alloc (.cells #[.string (ofL O), .int .i64 er, .int .i64 k] 29) = w3 at hX hB ⊢
  generalize w2.heap.size = gX at hX ⊢
  have HX := Lib.hid hX
  have HB3 := Lib.hid hB
  clear hX hB HB2 HB1
  go_cut [10] (fun s10 wx => ∃ gY : Nat, s10 = .pointer (some ⟨gY, 0, none⟩) ∧ Oc w.heap.size wx gY (ofL O) er k ∧ Oc w.heap.size wx gX (ofL O) er k ∧ Below w.heap.size w wx)
  case first =>
    have hs : IntKind.i64.wrap ((Bs : Int) + (N : Int)) = (Bs : Int) + (N : Int) := IntWalk.i64_in _ (by omega)
    have HXd := Lib.hid (show Oc w.heap.size w3.drew gX (ofL O) er k from HX.out)
    have HBd := Lib.hid HB3.out.drew
    refine wp_region_X (fun _ => True) 17 (by kernel_rfl) ?_
    generalize w3.drew = V0 at HXd HBd ⊢
    refine wpAnyX_pure (i := 0) (v := ?_) rfl (by kernel_rfl) (by kernel_rfl) (by kernel_rfl) (by kernel_rfl) (by kernel_rfl) (fun _ _ _ h => h) (Or.inl ⟨by rfl, ?_⟩) (fun _ => by exact trivial) ?_
    rotate_left
    · intro w hSw; (try dsimp only at hSw); go_simp; (try with_reducible rfl)
    try simp only [List.getElem_toArray, List.getElem_cons_zero, Act.put, List.setIfInBounds_toArray, List.set_cons_zero, List.set_cons_succ]
    refine wpAnyX_pure (i := 1) (v := ?_) rfl (by kernel_rfl) (by kernel_rfl) (by kernel_rfl) (by kernel_rfl) (by kernel_rfl) (fun _ _ _ h => h) (Or.inl ⟨by rfl, ?_⟩) (fun _ => by exact trivial) ?_
    rotate_left
    · intro w hSw; (try dsimp only at hSw); go_simp; (try with_reducible rfl)
    try simp only [List.getElem_toArray, List.getElem_cons_zero, List.getElem_cons_succ, Act.put, List.setIfInBounds_toArray, List.set_cons_zero, List.set_cons_succ]
    refine wpAnyX_pure (i := 2) (v := ?_) rfl (by kernel_rfl) (by kernel_rfl) (by kernel_rfl) (by kernel_rfl) (by kernel_rfl) (fun _ _ _ h => h) (Or.inl ⟨by rfl, ?_⟩) (fun _ => by exact trivial) ?_
    rotate_left
    · intro w hSw; (try dsimp only at hSw); go_simp; (try with_reducible rfl)
    try simp only [List.getElem_toArray, List.getElem_cons_zero, List.getElem_cons_succ, Act.put, List.setIfInBounds_toArray, List.set_cons_zero, List.set_cons_succ]
    refine wpAnyX_pure (i := 3) (v := ?_) rfl (by kernel_rfl) (by kernel_rfl) (by kernel_rfl) (by kernel_rfl) (by kernel_rfl) (fun _ _ _ h => h) (Or.inl ⟨by rfl, ?_⟩) (fun _ => by exact trivial) ?_
    rotate_left
    · intro w hSw; (try dsimp only at hSw); go_simp; (try with_reducible rfl)
    try simp only [List.getElem_toArray, List.getElem_cons_zero, List.getElem_cons_succ, Act.put, List.setIfInBounds_toArray, List.set_cons_zero, List.set_cons_succ]
    refine wpAnyX_pure (i := 4) (v := ?_) rfl (by kernel_rfl) (by kernel_rfl) (by kernel_rfl) (by kernel_rfl) (by kernel_rfl) (fun _ _ _ h => h) (Or.inl ⟨by rfl, ?_⟩) (fun _ => by exact trivial) ?_
    rotate_left
    · intro w hSw; (try dsimp only at hSw); go_simp; (try with_reducible rfl)
    try simp only [List.getElem_toArray, List.getElem_cons_zero, List.getElem_cons_succ, Act.put, List.setIfInBounds_toArray, List.set_cons_zero, List.set_cons_succ]
    refine wpAnyX_pure (i := 5) (v := ?_) rfl (by kernel_rfl) (by kernel_rfl) (by kernel_rfl) (by kernel_rfl) (by kernel_rfl) (fun _ _ _ h => h) (Or.inl ⟨by rfl, ?_⟩) (fun _ => by exact trivial) ?_
    rotate_left
    · intro w hSw; (try dsimp only at hSw); go_simp; (try with_reducible rfl)
    try simp only [List.getElem_toArray, List.getElem_cons_zero, List.getElem_cons_succ, Act.put, List.setIfInBounds_toArray, List.set_cons_zero, List.set_cons_succ]
    refine wpAnyX_pure (i := 6) (v := ?_) rfl (by kernel_rfl) (by kernel_rfl) (by kernel_rfl) (by kernel_rfl) (by kernel_rfl) (fun _ _ _ h => h) (Or.inl ⟨by rfl, ?_⟩) (fun _ => by exact trivial) ?_
    rotate_left
    · intro w hSw; (try dsimp only at hSw); go_simp; (try with_reducible rfl)
    try simp only [List.getElem_toArray, List.getElem_cons_zero, List.getElem_cons_succ, Act.put, List.setIfInBounds_toArray, List.set_cons_zero, List.set_cons_succ]
    refine wpAnyX_pure (i := 7) (v := ?_) rfl (by kernel_rfl) (by kernel_rfl) (by kernel_rfl) (by kernel_rfl) (by kernel_rfl) (fun _ _ _ h => h) (Or.inl ⟨by rfl, ?_⟩) (fun _ => by exact trivial) ?_
    rotate_left
    · intro w hSw; (try dsimp only at hSw); go_simp; (try with_reducible rfl)
    try simp only [List.getElem_toArray, List.getElem_cons_zero, List.getElem_cons_succ, Act.put, List.setIfInBounds_toArray, List.set_cons_zero, List.set_cons_succ]
    refine wpAnyX_pure (i := 8) (v := ?_) rfl (by kernel_rfl) (by kernel_rfl) (by kernel_rfl) (by kernel_rfl) (by kernel_rfl) (fun _ _ _ h => h) (Or.inl ⟨by rfl, ?_⟩) (fun _ => by exact trivial) ?_
    rotate_left
    · intro w hSw; (try dsimp only at hSw); go_simp; (try with_reducible rfl)
    try simp only [List.getElem_toArray, List.getElem_cons_zero, List.getElem_cons_succ, Act.put, List.setIfInBounds_toArray, List.set_cons_zero, List.set_cons_succ]
    refine wpAnyX_pure (i := 9) (v := ?_) rfl (by kernel_rfl) (by kernel_rfl) (by kernel_rfl) (by kernel_rfl) (by kernel_rfl) (fun _ _ _ h => h) (Or.inl ⟨by rfl, ?_⟩) (fun _ => by exact trivial) ?_
    rotate_left
    · intro w hSw; (try dsimp only at hSw); go_simp; (try with_reducible rfl)
    try simp only [List.getElem_toArray, List.getElem_cons_zero, List.getElem_cons_succ, Act.put, List.setIfInBounds_toArray, List.set_cons_zero, List.set_cons_succ]
    refine wpAnyX_pure (i := 10) (v := ?_) rfl (by kernel_rfl) (by kernel_rfl) (by kernel_rfl) (by kernel_rfl) (by kernel_rfl) (fun _ _ _ h => h) (Or.inl ⟨by rfl, ?_⟩) (fun _ => by exact trivial) ?_
    rotate_left
    · intro w hSw; (try dsimp only at hSw); go_simp; (try with_reducible rfl)
    try simp only [List.getElem_toArray, List.getElem_cons_zero, List.getElem_cons_succ, Act.put, List.setIfInBounds_toArray, List.set_cons_zero, List.set_cons_succ]
    refine wpAnyX_pure (i := 11) (v := ?_) rfl (by kernel_rfl) (by kernel_rfl) (by kernel_rfl) (by kernel_rfl) (by kernel_rfl) (fun _ _ _ h => h) (Or.inl ⟨by rfl, ?_⟩) (fun _ => by exact trivial) ?_
    rotate_left
    · intro w hSw; (try dsimp only at hSw); go_simp; (try with_reducible rfl)
    try simp only [List.getElem_toArray, List.getElem_cons_zero, List.getElem_cons_succ, Act.put, List.setIfInBounds_toArray, List.set_cons_zero, List.set_cons_succ]
    refine wpAnyX_pure (i := 13) (v := ?_) rfl (by kernel_rfl) (by kernel_rfl) (by kernel_rfl) (by kernel_rfl) (by kernel_rfl) (fun _ _ _ h => h) (Or.inl ⟨by rfl, ?_⟩) (fun _ => by exact trivial) ?_
    rotate_left
    · intro w hSw; (try dsimp only at hSw); go_simp; (try with_reducible rfl)
    try simp only [List.getElem_toArray, List.getElem_cons_zero, List.getElem_cons_succ, Act.put, List.setIfInBounds_toArray, List.set_cons_zero, List.set_cons_succ]
    refine wpAnyX_pure (i := 14) (v := ?_) rfl (by kernel_rfl) (by kernel_rfl) (by kernel_rfl) (by kernel_rfl) (by kernel_rfl) (fun _ _ _ h => h) (Or.inl ⟨by rfl, ?_⟩) (fun _ => by exact trivial) ?_
    rotate_left
    · intro w hSw; (try dsimp only at hSw); go_simp; (try with_reducible rfl)
    try simp only [List.getElem_toArray, List.getElem_cons_zero, List.getElem_cons_succ, Act.put, List.setIfInBounds_toArray, List.set_cons_zero, List.set_cons_succ]
    refine wpAnyX_two (i := 12) (j := 16) (by kernel_rfl) rfl rfl (fun K hK => ?_) (fun K hK => ?_)
    · go_simp
      have hT := Blk.new V0 35 #[.int .i64 ((Bs : Int) + (N : Int)), .string (code.extract N code.size), .int .i64 (Bs : Int), .string (code.extract 0 N)]
      have hX := HXd.out.alloc (.cells #[.int .i64 ((Bs : Int) + (N : Int)), .string (code.extract N code.size), .int .i64 (Bs : Int), .string (code.extract 0 N)] 35)
      have hB := HBd.out.alloc HBd.out.size (.cells #[.int .i64 ((Bs : Int) + (N : Int)), .string (code.extract N code.size), .int .i64 (Bs : Int), .string (code.extract 0 N)] 35)
      refine hK.out _ _ (fun _ => trivial) ?_
      clear hK K
      try simp only [List.getElem_toArray, List.getElem_cons_zero, List.getElem_cons_succ, Act.put, List.setIfInBounds_toArray, List.set_cons_zero, List.set_cons_succ]
      generalize V0.alloc (.cells #[.int .i64 ((Bs : Int) + (N : Int)), .string (code.extract N code.size), .int .i64 (Bs : Int), .string (code.extract 0 N)] 35) = V1 at hT hX hB ⊢
      generalize V0.heap.size = gT at hT ⊢
      have HTd := Lib.hid hT
      have HXd := Lib.hid hX
      have HBd := Lib.hid hB
      clear hT hX hB
      refine wpAnyX_two (i := 15) (j := 16) (by kernel_rfl) rfl rfl (fun K hK => ?_) (fun K hK => ?_)
      · go_simp
        refine (run_t2 HTd.out (by rw [ext_size code N code.size (Nat.le_refl _)]; omega) (by rw [ext_size code 0 N hNl]; omega) (by omega) (by omega) (by omega) (by omega) (HI.out.below HBd.out) HIW.out ((run_two Bs N code hBl hNl (by omega) input 2000).trans HR.out)).mono ?_
        rintro e V2 ⟨rfl, hb⟩
        have HXd := Lib.hid (HXd.out.below hb)
        have HBd := Lib.hid (HBd.out.trans (hb.mono HBd.out.size))
        clear hb HTd
        refine hK.out _ _ (fun _ => trivial) ?_
        clear hK K
        try simp only [List.getElem_toArray, List.getElem_cons_zero, List.getElem_cons_succ, Act.put, List.setIfInBounds_toArray, List.set_cons_zero, List.set_cons_succ]
        refine wpAnyX_one (i := 16) (by kernel_rfl) rfl (fun K hK => ?_)
        go_simp
        have hY := Oc.fresh HBd.out.size
        have hX := HXd.out.alloc (.cells #[.string ⟨#[]⟩, .int .i64 0, .int .i64 0] 29)
        have HD := Lib.hid (show gX ≠ V2.heap.size by have := HXd.out.2.lt; omega)
        have hB := HBd.out.alloc HBd.out.size (.cells #[.string ⟨#[]⟩, .int .i64 0, .int .i64 0] 29)
        refine hK.out _ _ (fun _ => trivial) ?_
        clear hK K
        try simp only [List.getElem_toArray, List.getElem_cons_zero, List.getElem_cons_succ, Act.put, List.setIfInBounds_toArray, List.set_cons_zero, List.set_cons_succ]
        generalize V2.alloc (.cells #[.string ⟨#[]⟩, .int .i64 0, .int .i64 0] 29) = V3 at hY hX hB ⊢
        generalize V2.heap.size = gY at hY HD ⊢
        have HYd := Lib.hid hY
        have HXd := Lib.hid hX
        have HBd := Lib.hid hB
        clear hX hB hY
        have HG := Lib.hid HYd.out.1
        refine wpAnyX_one (i := 17) (by kernel_rfl) rfl (fun K hK => ?_)
        have hB := HYd.out.2
        have hb0 := hB.cell 0
        have hb1 := hB.cell 1
        have hb2 := hB.cell 2
        simp only [List.getElem?_toArray, List.getElem?_cons_zero, List.getElem?_cons_succ] at hb0 hb1 hb2
        have hf0 := hB.frozen 0
        have hf1 := hB.frozen 1
        have hf2 := hB.frozen 2
        have hlt := hB.lt
        clear hB
        go_simp
        clear hb0 hb1 hb2 hf0 hf1 hf2 hlt
        refine hK.out _ _ (fun _ => trivial) ?_
        clear hK K
        try simp only [List.getElem_toArray, List.getElem_cons_zero, List.getElem_cons_succ, Act.put, List.setIfInBounds_toArray, List.set_cons_zero, List.set_cons_succ]
        refine wpAnyX_done (by kernel_rfl) ?_ _
        have HB5 := Lib.hid (below_set HBd.out HG.out (.string (ofL O)) (.int .i64 er) (.int .i64 k))
        have HX5 := Lib.hid (HXd.out.far HD.out (.string (ofL O)) (.int .i64 er) (.int .i64 k))
        have HY5 := Lib.hid (HYd.out.set (ofL O) er k)
        go_wp2_with fail
        go_meet
        exact ⟨gY, rfl, HY5.out, HX5.out, HB5.out⟩
      · go_simp
        have hY := Oc.fresh HBd.out.size
        have hX := HXd.out.alloc (.cells #[.string ⟨#[]⟩, .int .i64 0, .int .i64 0] 29)
        have HD := Lib.hid (show gX ≠ V1.heap.size by have := HXd.out.2.lt; omega)
        have hB := HBd.out.alloc HBd.out.size (.cells #[.string ⟨#[]⟩, .int .i64 0, .int .i64 0] 29)
        have hT := HTd.out.alloc (.cells #[.string ⟨#[]⟩, .int .i64 0, .int .i64 0] 29)
        refine hK.out _ _ (fun _ => trivial) ?_
        clear hK K
        try simp only [List.getElem_toArray, List.getElem_cons_zero, List.getElem_cons_succ, Act.put, List.setIfInBounds_toArray, List.set_cons_zero, List.set_cons_succ]
        generalize V1.alloc (.cells #[.string ⟨#[]⟩, .int .i64 0, .int .i64 0] 29) = V2 at hY hX hB hT ⊢
        generalize V1.heap.size = gY at hY HD ⊢
        have HYd := Lib.hid hY
        have HXd := Lib.hid hX
        have HBd := Lib.hid hB
        have HTd := Lib.hid hT
        clear hX hB hY hT
        refine wpAnyX_one (i := 15) (by kernel_rfl) rfl (fun K hK => ?_)
        go_simp
        refine (run_t2 HTd.out (by rw [ext_size code N code.size (Nat.le_refl _)]; omega) (by rw [ext_size code 0 N hNl]; omega) (by omega) (by omega) (by omega) (by omega) (HI.out.below HBd.out) HIW.out ((run_two Bs N code hBl hNl (by omega) input 2000).trans HR.out)).mono ?_
        rintro e V3 ⟨rfl, hb⟩
        have HXd := Lib.hid (HXd.out.below hb)
        have HYd := Lib.hid (HYd.out.below hb)
        have HBd := Lib.hid (HBd.out.trans (hb.mono HBd.out.size))
        clear hb HTd
        refine hK.out _ _ (fun _ => trivial) ?_
        clear hK K
        try simp only [List.getElem_toArray, List.getElem_cons_zero, List.getElem_cons_succ, Act.put, List.setIfInBounds_toArray, List.set_cons_zero, List.set_cons_succ]
        have HG := Lib.hid HYd.out.1
        refine wpAnyX_one (i := 17) (by kernel_rfl) rfl (fun K hK => ?_)
        have hB := HYd.out.2
        have hb0 := hB.cell 0
        have hb1 := hB.cell 1
        have hb2 := hB.cell 2
        simp only [List.getElem?_toArray, List.getElem?_cons_zero, List.getElem?_cons_succ] at hb0 hb1 hb2
        have hf0 := hB.frozen 0
        have hf1 := hB.frozen 1
        have hf2 := hB.frozen 2
        have hlt := hB.lt
        clear hB
        go_simp
        clear hb0 hb1 hb2 hf0 hf1 hf2 hlt
        refine hK.out _ _ (fun _ => trivial) ?_
        clear hK K
        try simp only [List.getElem_toArray, List.getElem_cons_zero, List.getElem_cons_succ, Act.put, List.setIfInBounds_toArray, List.set_cons_zero, List.set_cons_succ]
        refine wpAnyX_done (by kernel_rfl) ?_ _
        have HB5 := Lib.hid (below_set HBd.out HG.out (.string (ofL O)) (.int .i64 er) (.int .i64 k))
        have HX5 := Lib.hid (HXd.out.far HD.out (.string (ofL O)) (.int .i64 er) (.int .i64 k))
        have HY5 := Lib.hid (HYd.out.set (ofL O) er k)
        go_wp2_with fail
        go_meet
        exact ⟨gY, rfl, HY5.out, HX5.out, HB5.out⟩
    · go_simp
      have hY := Oc.fresh HBd.out.size
      have hX := HXd.out.alloc (.cells #[.string ⟨#[]⟩, .int .i64 0, .int .i64 0] 29)
      have HD := Lib.hid (show gX ≠ V0.heap.size by have := HXd.out.2.lt; omega)
      have hB := HBd.out.alloc HBd.out.size (.cells #[.string ⟨#[]⟩, .int .i64 0, .int .i64 0] 29)
      refine hK.out _ _ (fun _ => trivial) ?_
      clear hK K
      try simp only [List.getElem_toArray, List.getElem_cons_zero, List.getElem_cons_succ, Act.put, List.setIfInBounds_toArray, List.set_cons_zero, List.set_cons_succ]
      generalize V0.alloc (.cells #[.string ⟨#[]⟩, .int .i64 0, .int .i64 0] 29) = V1 at hY hX hB ⊢
      generalize V0.heap.size = gY at hY HD ⊢
      have HYd := Lib.hid hY
      have HXd := Lib.hid hX
      have HBd := Lib.hid hB
      clear hX hB hY
      refine wpAnyX_one (i := 12) (by kernel_rfl) rfl (fun K hK => ?_)
      go_simp
      have hT := Blk.new V1 35 #[.int .i64 ((Bs : Int) + (N : Int)), .string (code.extract N code.size), .int .i64 (Bs : Int), .string (code.extract 0 N)]
      have hX := HXd.out.alloc (.cells #[.int .i64 ((Bs : Int) + (N : Int)), .string (code.extract N code.size), .int .i64 (Bs : Int), .string (code.extract 0 N)] 35)
      have hB := HBd.out.alloc HBd.out.size (.cells #[.int .i64 ((Bs : Int) + (N : Int)), .string (code.extract N code.size), .int .i64 (Bs : Int), .string (code.extract 0 N)] 35)
      have hY := HYd.out.alloc (.cells #[.int .i64 ((Bs : Int) + (N : Int)), .string (code.extract N code.size), .int .i64 (Bs : Int), .string (code.extract 0 N)] 35)
      refine hK.out _ _ (fun _ => trivial) ?_
      clear hK K
      try simp only [List.getElem_toArray, List.getElem_cons_zero, List.getElem_cons_succ, Act.put, List.setIfInBounds_toArray, List.set_cons_zero, List.set_cons_succ]
      generalize V1.alloc (.cells #[.int .i64 ((Bs : Int) + (N : Int)), .string (code.extract N code.size), .int .i64 (Bs : Int), .string (code.extract 0 N)] 35) = V2 at hT hX hB hY ⊢
      generalize V1.heap.size = gT at hT ⊢
      have HTd := Lib.hid hT
      have HXd := Lib.hid hX
      have HBd := Lib.hid hB
      have HYd := Lib.hid hY
      clear hT hX hB hY
      refine wpAnyX_one (i := 15) (by kernel_rfl) rfl (fun K hK => ?_)
      go_simp
      refine (run_t2 HTd.out (by rw [ext_size code N code.size (Nat.le_refl _)]; omega) (by rw [ext_size code 0 N hNl]; omega) (by omega) (by omega) (by omega) (by omega) (HI.out.below HBd.out) HIW.out ((run_two Bs N code hBl hNl (by omega) input 2000).trans HR.out)).mono ?_
      rintro e V3 ⟨rfl, hb⟩
      have HXd := Lib.hid (HXd.out.below hb)
      have HYd := Lib.hid (HYd.out.below hb)
      have HBd := Lib.hid (HBd.out.trans (hb.mono HBd.out.size))
      clear hb HTd
      refine hK.out _ _ (fun _ => trivial) ?_
      clear hK K
      try simp only [List.getElem_toArray, List.getElem_cons_zero, List.getElem_cons_succ, Act.put, List.setIfInBounds_toArray, List.set_cons_zero, List.set_cons_succ]
      have HG := Lib.hid HYd.out.1
      refine wpAnyX_one (i := 17) (by kernel_rfl) rfl (fun K hK => ?_)
      have hB := HYd.out.2
      have hb0 := hB.cell 0
      have hb1 := hB.cell 1
      have hb2 := hB.cell 2
      simp only [List.getElem?_toArray, List.getElem?_cons_zero, List.getElem?_cons_succ] at hb0 hb1 hb2
      have hf0 := hB.frozen 0
      have hf1 := hB.frozen 1
      have hf2 := hB.frozen 2
      have hlt := hB.lt
      clear hB
      go_simp
      clear hb0 hb1 hb2 hf0 hf1 hf2 hlt
      refine hK.out _ _ (fun _ => trivial) ?_
      clear hK K
      try simp only [List.getElem_toArray, List.getElem_cons_zero, List.getElem_cons_succ, Act.put, List.setIfInBounds_toArray, List.set_cons_zero, List.set_cons_succ]
      refine wpAnyX_done (by kernel_rfl) ?_ _
      have HB5 := Lib.hid (below_set HBd.out HG.out (.string (ofL O)) (.int .i64 er) (.int .i64 k))
      have HX5 := Lib.hid (HXd.out.far HD.out (.string (ofL O)) (.int .i64 er) (.int .i64 k))
      have HY5 := Lib.hid (HYd.out.set (ofL O) er k)
      go_wp2_with fail
      go_meet
      exact ⟨gY, rfl, HY5.out, HX5.out, HB5.out⟩
  case rest =>
    obtain ⟨gY, rfl, hY, hX, hB⟩ := hcut
    have hx0 := hX.2.cell 0
    have hx1 := hX.2.cell 1
    have hx2 := hX.2.cell 2
    have hy0 := hY.2.cell 0
    have hy1 := hY.2.cell 1
    have hy2 := hY.2.cell 2
    simp only [List.getElem?_toArray, List.getElem?_cons_zero, List.getElem?_cons_succ] at hx0 hx1 hx2 hy0 hy1 hy2
    have HX := Lib.hid hX
    have HY := Lib.hid hY
    have HB := Lib.hid hB
    clear hX hY hB hx0 hx1 hx2 hy0 hy1 hy2
    go_wp2_with fail
    refine (Try.strings_Repeat _ code.size wc (by omega) (by show 1 * code.size ≤ _; omega)).mono ?_
    rintro e w5 ⟨rfl, hb⟩
    have hrs : (⟨(Lib.repeatL (⟨#[36]⟩ : ByteArray).data.toList code.size).toArray⟩ : ByteArray).size = code.size := rep_size code.size
    generalize (⟨(Lib.repeatL (⟨#[36]⟩ : ByteArray).data.toList code.size).toArray⟩ : ByteArray) = rs at hrs ⊢
    have HRS := Lib.hid hrs
    have HX := Lib.hid (HX.out.below hb)
    have HY := Lib.hid (HY.out.below hb)
    have HB := Lib.hid (HB.out.trans (hb.mono HB.out.size))
    clear hb hrs
    go_wp2_with fail
    refine (run_t2 (Blk.new w5 _ _) (by rw [HRS.out]; omega) (by omega) (by omega) (by omega) (by omega) (by omega) (HI.out.below (HB.out.alloc HB.out.size _)) HIW.out ((run_over Bs rs code hBl HRS.out (by omega) input 2000).trans HR.out)).mono ?_
    rintro e w6 ⟨rfl, hb⟩
    have hX := (HX.out.alloc (.cells #[.int .i64 (Bs : Int), .string rs, .int .i64 (Bs : Int), .string code] 35)).below hb
    have hY := (HY.out.alloc (.cells #[.int .i64 (Bs : Int), .string rs, .int .i64 (Bs : Int), .string code] 35)).below hb
    have hB := (HB.out.alloc HB.out.size (.cells #[.int .i64 (Bs : Int), .string rs, .int .i64 (Bs : Int), .string code] 35)).trans (hb.mono (HB.out.alloc HB.out.size (.cells #[.int .i64 (Bs : Int), .string rs, .int .i64 (Bs : Int), .string code] 35)).size)
    have hx0 := hX.2.cell 0
    have hx1 := hX.2.cell 1
    have hx2 := hX.2.cell 2
    have hy0 := hY.2.cell 0
    have hy1 := hY.2.cell 1
    have hy2 := hY.2.cell 2
    simp only [List.getElem?_toArray, List.getElem?_cons_zero, List.getElem?_cons_succ] at hx0 hx1 hx2 hy0 hy1 hy2
    have hxl := hX.2.lt
    have hyl := hY.2.lt
    have HB6 := Lib.hid hB
    clear hX hY hB hb
    go_wp2_with fail
    go_ret
    exact ⟨rfl, HB6.out.alloc HB6.out.size _⟩

end MachinePlacing
end Go.Proofs.Ytfjjdogjihpbnaa
