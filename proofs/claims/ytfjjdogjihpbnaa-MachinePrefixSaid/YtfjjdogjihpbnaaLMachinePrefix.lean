/- The law MachinePrefix of stelelaw17 returns true for every input, and each argument reads behind the call as it read before. No conditions. -/
import Derived.Test.YtfjjdogjihpbnaaMq
import Derived.Test.YtfjjdogjihpbnaaOx
import Derived.BigQuiet
import Derived.Deep.DeepCutAuto
namespace Go.Proofs.Ytfjjdogjihpbnaa
section
variable {P : Program} {md : Region.Mode} {ops : Array Oper} {Q : Exit → Act → World → Prop} {S : World → Prop} {st : Nat}
theorem wpAnyX_three {i j k : Nat} {o o' o'' : Oper} {fuel : Nat} {listed : Array Bool} {a : Act} {w : World} (hr : Region.ready md ops listed = [i, j, k]) (ho : ops[i]? = some o) (ho' : ops[j]? = some o') (ho'' : ops[k]? = some o'')
    (h : ∀ K : Act → World → Prop, Shut (∀ a w, ((listed.setIfInBounds i true).getD st false = false → S w) → wpAnyX P md ops Q S st fuel (listed.setIfInBounds i true) a w → K a w) → if Region.wanted o (yielded ops a.tmps) = true then Oper.wp P o a w K Q else K (a.put o.dst undef) w)
    (h' : ∀ K : Act → World → Prop, Shut (∀ a w, ((listed.setIfInBounds j true).getD st false = false → S w) → wpAnyX P md ops Q S st fuel (listed.setIfInBounds j true) a w → K a w) → if Region.wanted o' (yielded ops a.tmps) = true then Oper.wp P o' a w K Q else K (a.put o'.dst undef) w)
    (h'' : ∀ K : Act → World → Prop, Shut (∀ a w, ((listed.setIfInBounds k true).getD st false = false → S w) → wpAnyX P md ops Q S st fuel (listed.setIfInBounds k true) a w → K a w) → if Region.wanted o'' (yielded ops a.tmps) = true then Oper.wp P o'' a w K Q else K (a.put o''.dst undef) w) :
    wpAnyX P md ops Q S st (fuel + 1) listed a w :=
  ⟨fun h0 => (by rw [hr] at h0; cases h0), fun l hl => by
    rw [hr] at hl
    rcases List.mem_cons.1 hl with rfl | hl
    · exact wpOp_step ho (fun K hK => h K (fun a w hS hW => hK a w ⟨hS, hW⟩))
    rcases List.mem_cons.1 hl with rfl | hl
    · exact wpOp_step ho' (fun K hK => h' K (fun a w hS hW => hK a w ⟨hS, hW⟩))
    · rw [List.mem_singleton] at hl
      subst hl
      exact wpOp_step ho'' (fun K hK => h'' K (fun a w hS hW => hK a w ⟨hS, hW⟩))⟩
end
namespace MachinePrefix
open Go.RowKit Mc

theorem stp_len {s t : St} {c : Int} (h : stp s c = some t) : t.out.length ≤ s.out.length + 1 := by
  have key : t.out = s.out → t.out.length ≤ s.out.length + 1 := fun e => by rw [e]; omega
  unfold stp at h
  split at h
  · unfold stDig at h
    split at h
    · injection h with h; subst h; exact key rfl
    · cases h
    · exact key (psh_out h)
  split at h
  · injection h with h; subst h; exact key rfl
  split at h
  · unfold stBin at h
    split at h
    · split at h
      · injection h with h; subst h; exact key rfl
      · cases h
    · cases h
  split at h
  · unfold stLoad at h
    split at h
    · split at h
      · cases h
      · injection h with h; subst h; exact key rfl
    · cases h
  split at h
  · unfold stStore at h
    split at h
    · split at h
      · cases h
      · injection h with h; subst h; exact key rfl
    · cases h
  split at h
  · unfold stJump at h
    split at h
    · injection h with h; subst h; exact key rfl
    · cases h
  split at h
  · unfold stCall at h
    split at h
    · split at h
      · injection h with h; subst h; exact key rfl
      · cases h
    · cases h
  split at h
  · unfold stBack at h
    split at h
    · injection h with h; subst h; exact key rfl
    · cases h
  split at h
  · unfold stRead at h
    split at h
    · exact key (psh_out h)
    · have := psh_out h
      exact key this
  split at h
  · unfold stOut at h
    split at h
    · injection h with h; subst h; simp
    · cases h
  · cases h
theorem nxt_len {s t : St} {c : Int} (h : nxt s c = some t) : t.out.length ≤ s.out.length + 1 := by
  unfold nxt at h
  cases h1 : stp { s with pc := s.pc + 1 } c with
  | none => rw [h1] at h; cases h
  | some u =>
    rw [h1] at h
    injection h with h
    subst h
    have h5 : u.out.length ≤ ({ s with pc := s.pc + 1 } : St).out.length + 1 := stp_len h1
    exact h5
theorem runM_len : ∀ (b n : Nat) (s : St), (runM b n s).1.length ≤ s.out.length + b
  | 0, n, s => Nat.le_refl _
  | b + 1, n, s => by
    by_cases h1 : 262144 ≤ s.pc
    · rw [runM_far h1]; simp
    · by_cases h2 : s.mem s.pc.toNat = 36
      · rw [runM_halt h1 h2]; simp
      · cases h3 : nxt s (s.mem s.pc.toNat) with
        | none => rw [runM_trap h1 h2 h3]; simp
        | some t =>
          rw [runM_next h1 h2 h3]
          have h4 := runM_len b (n + 1) t
          have h5 := nxt_len h3
          omega
theorem runT_len (ts : List Txt) (at_ : Int) (input : List Int) {many : Int} (hm : many ≤ 100000000) : (Mc.runT ts at_ input many).1.length ≤ 100000000 := by
  unfold Mc.runT
  by_cases hb : at_ < 0 ∨ 262144 ≤ at_ ∨ ts.any badT = true
  · rw [if_pos hb]; simp
  · rw [if_neg hb, if_neg (by omega)]
    have h1 := runM_len many.toNat 0 (Mc.start ts at_ input)
    have h2 : (Mc.start ts at_ input).out.length = 0 := rfl
    omega

theorem ofL_small {l : List UInt8} (h : l.length ≤ 100000000) : (ofL l).size ≤ 9223372036854775807 := by
  have : (ofL l).size = l.length := by simp [ofL, ByteArray.size]
  omega
/-- a block of an outcome that a call of ours has made -/
def Oc (B : Nat) (V : World) (g : Nat) (O : ByteArray) (er n : Int) : Prop := B ≤ g ∧ Blk V g 29 #[.string O, .int .i64 er, .int .i64 n]
theorem Oc.fresh {B : Nat} {V : World} (h : B ≤ V.heap.size) : Oc B (V.alloc (.cells #[.string ⟨#[]⟩, .int .i64 0, .int .i64 0] 29)) V.heap.size ⟨#[]⟩ 0 0 := ⟨h, Blk.new _ _ _⟩
theorem Oc.alloc {B : Nat} {V : World} {g : Nat} {O : ByteArray} {er n : Int} (h : Oc B V g O er n) (o : Obj) : Oc B (V.alloc o) g O er n := ⟨h.1, h.2.alloc o⟩
theorem Oc.below {B : Nat} {V V' : World} {g : Nat} {O : ByteArray} {er n : Int} (h : Oc B V g O er n) (hb : Below V.heap.size V V') : Oc B V' g O er n := ⟨h.1, h.2.below hb⟩
theorem Oc.set {B : Nat} {V : World} {g : Nat} {O : ByteArray} {er n : Int} (h : Oc B V g O er n) (O' : ByteArray) (er' n' : Int) : Oc B (((V.setCell ⟨g, 0, none⟩ (.string O')).setCell ⟨g, 1, none⟩ (.int .i64 er')).setCell ⟨g, 2, none⟩ (.int .i64 n')) g O' er' n' :=
  ⟨h.1, ((h.2.set_ 0 _).set_ 1 _).set_ 2 _⟩
theorem Oc.far {B : Nat} {V : World} {g g' : Nat} {O : ByteArray} {er n : Int} (h : Oc B V g O er n) (hg : g ≠ g') (u1 u2 u3 : Value) : Oc B (((V.setCell ⟨g', 0, none⟩ u1).setCell ⟨g', 1, none⟩ u2).setCell ⟨g', 2, none⟩ u3) g O er n :=
  ⟨h.1, ((h.2.far hg _).far hg _).far hg _⟩
theorem below_set {B : Nat} {W V : World} {g : Nat} (h : Below B W V) (hg : B ≤ g) (u1 u2 u3 : Value) : Below B W (((V.setCell ⟨g, 0, none⟩ u1).setCell ⟨g, 1, none⟩ u2).setCell ⟨g, 2, none⟩ u3) :=
  ((h.setCell (by exact hg) _).setCell (by exact hg) _).setCell (by exact hg) _

set_option maxRecDepth 100000 in
set_option maxHeartbeats 4000000 in
theorem core (w : World) (A : Option Addr) (n c : Nat) (ts : List Txt) (h : Txs w A n c ts) (hts : ∀ t ∈ ts, (IntKind.i64.min ≤ t.1 ∧ t.1 ≤ IntKind.i64.max) ∧ t.2.size ≤ maxLen)
    (Ai : Option Addr) (ni ci : Nat) (input : List Int) (hi : Sl w 1 Ai ni ci (iv input)) (hiw : ∀ x ∈ input, W32 x) (a b d : Int) (ha : IntKind.i64.min ≤ a ∧ a ≤ IntKind.i64.max) (hb : IntKind.i64.min ≤ b ∧ b ≤ IntKind.i64.max) (hd : IntKind.i64.min ≤ d ∧ d ≤ IntKind.i64.max) :
    Calls Try.prog 5 #[.slice A n c, .slice Ai ni ci, .agg #[.int .i64 a, .int .i64 b, .int .i64 d]] w fun e w' => e = .returned (.bool true) ∧ Below w.heap.size w w' := by
  have HT := Lib.hid h
  have HI := Lib.hid hi
  have hni := hi.le_max
  have HNI := Lib.hid hni
  have HA := Lib.hid (Blk.new w 37 #[.int .i64 a, .int .i64 b, .int .i64 d])
  obtain ⟨w0, hw0⟩ : ∃ w0, w0 = w.alloc (.cells #[.int .i64 a, .int .i64 b, .int .i64 d] 37) := ⟨_, rfl⟩
  have HB0 := Lib.hid (show Below w.heap.size w w0 by rw [hw0]; exact (Below.refl _ w).alloc (Nat.le_refl _) _)
  rw [← hw0] at HA
  have HW0 := Lib.hid hw0
  have HTS := Lib.hid hts
  have HIW := Lib.hid hiw
  have HAA := Lib.hid ha
  have HBB := Lib.hid hb
  have HDD := Lib.hid hd
  clear h hi hni hw0 hts hiw ha hb hd
  go_enter Try.func5, Try.ntmps5
  go_wp2_with fail
  rw [← HW0.out]
  refine (alive_f _).mono ?_
  rintro e w1 ⟨rfl, hb1⟩
  have HA1 := Lib.hid (HA.out.below hb1)
  have HB1 := Lib.hid (HB0.out.trans (hb1.mono HB0.out.size))
  have hc1 := HA1.out.cell 1
  have hc2 := HA1.out.cell 2
  simp only [List.getElem?_toArray, List.getElem?_cons_zero, List.getElem?_cons_succ] at hc1 hc2
  clear hb1
  by_cases hlt : d < b
  · go_upto_region 3 with fail
    go_quiet (fail)
    go_wp2_with fail
    refine (great_f _ A n c ts (HT.out.below (below_drewN HB1.out _)) HTS.out Ai ni ci HNI.out b).mono ?_
    rintro e w2 ⟨r, hr, rfl, hb2⟩
    have HA2 := Lib.hid ((HA1.out.drewN _).below hb2)
    have HB2 := Lib.hid ((below_drewN HB1.out _).trans (hb2.mono (by exact HB1.out.size)))
    clear hb2 hc1 hc2
    rcases hr with rfl | rfl
    · by_cases hbig : 100000000 < b
      · go_wp2_with fail
        go_ret
        exact ⟨rfl, HB2.out⟩
      · obtain ⟨R1, hR1⟩ : ∃ R, R = Mc.runT ts a input d := ⟨_, rfl⟩
        obtain ⟨R2, hR2⟩ : ∃ R, R = Mc.runT ts a input b := ⟨_, rfl⟩
        have hP := runT_more ts a input (few := d) (many := b) (by omega) (by omega)
        have hL := runT_len ts a input (many := b) (by omega)
        rw [← hR1, ← hR2] at hP
        rw [← hR2] at hL
        obtain ⟨O1, er1, n1⟩ := R1
        obtain ⟨O2, er2, n2⟩ := R2
        have HC1 := Lib.hid (fun (V : World) (hV : Below w.heap.size w V) => outs_of (mrun_f V A n c ts (HT.out.below hV) HTS.out a HAA.out Ai ni ci input (HI.out.below hV) HIW.out d HDD.out) (O := ofL O1) (er := er1) (n := n1) (by rw [← hR1, bl_ofL]))
        have HC2 := Lib.hid (fun (V : World) (hV : Below w.heap.size w V) => outs_of (mrun_f V A n c ts (HT.out.below hV) HTS.out a HAA.out Ai ni ci input (HI.out.below hV) HIW.out b HBB.out) (O := ofL O2) (er := er2) (n := n2) (by rw [← hR2, bl_ofL]))
        have HP := Lib.hid hP
        have HL := Lib.hid hL
        clear hR1 hR2 hP hL
        go_upto_region 8 with fail
        go_cut [9, 10] (fun s9 s10 wx => ∃ gX gY : Nat, s9 = .pointer (some ⟨gX, 0, none⟩) ∧ s10 = .pointer (some ⟨gY, 0, none⟩) ∧ Oc w.heap.size wx gX (ofL O1) er1 n1 ∧ Oc w.heap.size wx gY (ofL O2) er2 n2 ∧ Below w.heap.size w wx)
        case first =>
          have HA := Lib.hid (HA2.out.drew)
          have HB := Lib.hid (HB2.out.drew)
          have hS := HA.out.cell 0
          refine wp_region_X (fun V => V.cell? ⟨w.heap.size, 0, none⟩ = some (.int .i64 a)) 14 (by kernel_rfl) ?_
          generalize w2.drew = V0 at HA HB hS ⊢
          refine wpAnyX_pure (i := 0) (v := ?_) rfl (by kernel_rfl) (by kernel_rfl) (by kernel_rfl) (by kernel_rfl) (by kernel_rfl) (fun _ _ _ h => h) (Or.inl ⟨by rfl, ?_⟩) (fun _ => by exact hS) ?_
          rotate_left
          · intro w hSw; (try dsimp only at hSw); go_simp; (try with_reducible rfl)
          try simp only [List.getElem_toArray, List.getElem_cons_zero, Act.put, List.setIfInBounds_toArray, List.set_cons_zero, List.set_cons_succ]
          refine wpAnyX_pure (i := 1) (v := ?_) rfl (by kernel_rfl) (by kernel_rfl) (by kernel_rfl) (by kernel_rfl) (by kernel_rfl) (fun _ _ _ h => h) (Or.inl ⟨by rfl, ?_⟩) (fun _ => by exact hS) ?_
          rotate_left
          · intro w hSw; (try dsimp only at hSw); go_simp; (try with_reducible rfl)
          try simp only [List.getElem_toArray, List.getElem_cons_zero, List.getElem_cons_succ, Act.put, List.setIfInBounds_toArray, List.set_cons_zero, List.set_cons_succ]
          refine wpAnyX_take (i := 2) (v := ?_) rfl (by kernel_rfl) (by kernel_rfl) (by kernel_rfl) (by kernel_rfl) (by kernel_rfl) (fun _ _ _ h => h) (Or.inl ⟨by rfl, ?_⟩) (by exact hS) ?_
          rotate_left
          · intro w hSw; (try dsimp only at hSw); go_simp; (try with_reducible rfl)
          try simp only [List.getElem_toArray, List.getElem_cons_zero, List.getElem_cons_succ, Act.put, List.setIfInBounds_toArray, List.set_cons_zero, List.set_cons_succ]
          refine wpAnyX_pure (i := 3) (v := ?_) rfl (by kernel_rfl) (by kernel_rfl) (by kernel_rfl) (by kernel_rfl) (by kernel_rfl) (fun _ _ _ h => h) (Or.inl ⟨by rfl, ?_⟩) (fun _ => by exact hS) ?_
          rotate_left
          · intro w hSw; (try dsimp only at hSw); go_simp; (try with_reducible rfl)
          try simp only [List.getElem_toArray, List.getElem_cons_zero, List.getElem_cons_succ, Act.put, List.setIfInBounds_toArray, List.set_cons_zero, List.set_cons_succ]
          refine wpAnyX_pure (i := 4) (v := ?_) rfl (by kernel_rfl) (by kernel_rfl) (by kernel_rfl) (by kernel_rfl) (by kernel_rfl) (fun _ _ _ h => h) (Or.inl ⟨by rfl, ?_⟩) (fun _ => by exact hS) ?_
          rotate_left
          · intro w hSw; (try dsimp only at hSw); go_simp; (try with_reducible rfl)
          try simp only [List.getElem_toArray, List.getElem_cons_zero, List.getElem_cons_succ, Act.put, List.setIfInBounds_toArray, List.set_cons_zero, List.set_cons_succ]
          refine wpAnyX_pure (i := 6) (v := ?_) rfl (by kernel_rfl) (by kernel_rfl) (by kernel_rfl) (by kernel_rfl) (by kernel_rfl) (fun _ _ _ h => h) (Or.inl ⟨by rfl, ?_⟩) (fun _ => by exact hS) ?_
          rotate_left
          · intro w hSw; (try dsimp only at hSw); go_simp; (try with_reducible rfl)
          try simp only [List.getElem_toArray, List.getElem_cons_zero, List.getElem_cons_succ, Act.put, List.setIfInBounds_toArray, List.set_cons_zero, List.set_cons_succ]
          refine wpAnyX_pure (i := 7) (v := ?_) rfl (by kernel_rfl) (by kernel_rfl) (by kernel_rfl) (by kernel_rfl) (by kernel_rfl) (fun _ _ _ h => h) (Or.inl ⟨by rfl, ?_⟩) (fun _ => by exact hS) ?_
          rotate_left
          · intro w hSw; (try dsimp only at hSw); go_simp; (try with_reducible rfl)
          try simp only [List.getElem_toArray, List.getElem_cons_zero, List.getElem_cons_succ, Act.put, List.setIfInBounds_toArray, List.set_cons_zero, List.set_cons_succ]
          refine wpAnyX_take (i := 8) (v := ?_) rfl (by kernel_rfl) (by kernel_rfl) (by kernel_rfl) (by kernel_rfl) (by kernel_rfl) (fun _ _ _ h => h) (Or.inl ⟨by rfl, ?_⟩) (by exact hS) ?_
          rotate_left
          · intro w hSw; (try dsimp only at hSw); go_simp; (try with_reducible rfl)
          try simp only [List.getElem_toArray, List.getElem_cons_zero, List.getElem_cons_succ, Act.put, List.setIfInBounds_toArray, List.set_cons_zero, List.set_cons_succ]
          refine wpAnyX_pure (i := 9) (v := ?_) rfl (by kernel_rfl) (by kernel_rfl) (by kernel_rfl) (by kernel_rfl) (by kernel_rfl) (fun _ _ _ h => h) (Or.inl ⟨by rfl, ?_⟩) (fun _ => by exact hS) ?_
          rotate_left
          · intro w hSw; (try dsimp only at hSw); go_simp; (try with_reducible rfl)
          try simp only [List.getElem_toArray, List.getElem_cons_zero, List.getElem_cons_succ, Act.put, List.setIfInBounds_toArray, List.set_cons_zero, List.set_cons_succ]
          refine wpAnyX_pure (i := 10) (v := ?_) rfl (by kernel_rfl) (by kernel_rfl) (by kernel_rfl) (by kernel_rfl) (by kernel_rfl) (fun _ _ _ h => h) (Or.inl ⟨by rfl, ?_⟩) (fun _ => by exact hS) ?_
          rotate_left
          · intro w hSw; (try dsimp only at hSw); go_simp; (try with_reducible rfl)
          try simp only [List.getElem_toArray, List.getElem_cons_zero, List.getElem_cons_succ, Act.put, List.setIfInBounds_toArray, List.set_cons_zero, List.set_cons_succ]
          refine wpAnyX_three (i := 5) (j := 12) (k := 13) (by kernel_rfl) rfl rfl rfl (fun K hK => ?_) (fun K hK => ?_) (fun K hK => ?_)
          · go_simp
            refine (HC1.out _ HB.out).mono ?_
            rintro e V1 ⟨rfl, hb⟩
            have HA := Lib.hid (HA.out.below hb)
            have HB := Lib.hid (HB.out.trans (hb.mono HB.out.size))
            have hS := HA.out.cell 0
            clear hb
            refine hK.out _ _ (fun _ => by exact hS) ?_
            clear hK K
            try simp only [List.getElem_toArray, List.getElem_cons_zero, List.getElem_cons_succ, Act.put, List.setIfInBounds_toArray, List.set_cons_zero, List.set_cons_succ]
            refine wpAnyX_three (i := 11) (j := 12) (k := 13) (by kernel_rfl) rfl rfl rfl (fun K hK => ?_) (fun K hK => ?_) (fun K hK => ?_)
            · go_simp
              refine (HC2.out _ HB.out).mono ?_
              rintro e V2 ⟨rfl, hb⟩
              have HA := Lib.hid (HA.out.below hb)
              have HB := Lib.hid (HB.out.trans (hb.mono HB.out.size))
              have hS := HA.out.cell 0
              clear hb
              refine hK.out _ _ (fun _ => by exact hS) ?_
              clear hK K
              try simp only [List.getElem_toArray, List.getElem_cons_zero, List.getElem_cons_succ, Act.put, List.setIfInBounds_toArray, List.set_cons_zero, List.set_cons_succ]
              refine wpAnyX_two (i := 12) (j := 13) (by kernel_rfl) rfl rfl (fun K hK => ?_) (fun K hK => ?_)
              · go_simp
                have hN := Oc.fresh HB.out.size
                have hA := HA.out.alloc (.cells #[.string ⟨#[]⟩, .int .i64 0, .int .i64 0] 29)
                have hB := HB.out.alloc HB.out.size (.cells #[.string ⟨#[]⟩, .int .i64 0, .int .i64 0] 29)
                have hS := hA.cell 0
                refine hK.out _ _ (fun _ => by exact hS) ?_
                clear hK K hS
                try simp only [List.getElem_toArray, List.getElem_cons_zero, List.getElem_cons_succ, Act.put, List.setIfInBounds_toArray, List.set_cons_zero, List.set_cons_succ]
                generalize V2.alloc (.cells #[.string ⟨#[]⟩, .int .i64 0, .int .i64 0] 29) = V3 at hN hA hB ⊢
                generalize V2.heap.size = gX at hN ⊢
                have HX := Lib.hid hN
                have HA := Lib.hid hA
                have HB := Lib.hid hB
                have hS := HA.out.cell 0
                clear hN hA hB
                refine wpAnyX_one (i := 13) (by kernel_rfl) rfl (fun K hK => ?_)
                go_simp
                have hN := Oc.fresh HB.out.size
                have hX := HX.out.alloc (.cells #[.string ⟨#[]⟩, .int .i64 0, .int .i64 0] 29)
                have HD := Lib.hid (show gX ≠ V3.heap.size by have := HX.out.2.lt; omega)
                have hA := HA.out.alloc (.cells #[.string ⟨#[]⟩, .int .i64 0, .int .i64 0] 29)
                have hB := HB.out.alloc HB.out.size (.cells #[.string ⟨#[]⟩, .int .i64 0, .int .i64 0] 29)
                have hS := hA.cell 0
                refine hK.out _ _ (fun _ => by exact hS) ?_
                clear hK K hS
                try simp only [List.getElem_toArray, List.getElem_cons_zero, List.getElem_cons_succ, Act.put, List.setIfInBounds_toArray, List.set_cons_zero, List.set_cons_succ]
                generalize V3.alloc (.cells #[.string ⟨#[]⟩, .int .i64 0, .int .i64 0] 29) = V4 at hN hA hB hX ⊢
                generalize V3.heap.size = gY at hN HD ⊢
                have HY := Lib.hid hN
                have HX := Lib.hid hX
                have HA := Lib.hid hA
                have HB := Lib.hid hB
                have hS := HA.out.cell 0
                clear hN hA hB hX
                have HG := Lib.hid HX.out.1
                have HH := Lib.hid HY.out.1
                refine wpAnyX_one (i := 14) (by kernel_rfl) rfl (fun K hK => ?_)
                have hB := HX.out.2
                have hb0 := hB.cell 0
                have hb1 := hB.cell 1
                have hb2 := hB.cell 2
                simp only [List.getElem?_toArray, List.getElem?_cons_zero, List.getElem?_cons_succ] at hb0 hb1 hb2
                have hf0 := hB.frozen 0
                have hf1 := hB.frozen 1
                have hf2 := hB.frozen 2
                have hlt := hB.lt
                clear hB
                go_simp
                clear hb0 hb1 hb2 hf0 hf1 hf2 hlt
                refine hK.out _ _ (fun h => absurd h (by decide)) ?_
                clear hK K
                try simp only [List.getElem_toArray, List.getElem_cons_zero, List.getElem_cons_succ, Act.put, List.setIfInBounds_toArray, List.set_cons_zero, List.set_cons_succ]
                have HB := Lib.hid (below_set HB.out HG.out (.string (ofL O1)) (.int .i64 er1) (.int .i64 n1))
                have HX := Lib.hid (HX.out.set (ofL O1) er1 n1)
                have HY := Lib.hid (HY.out.far (by have := HD.out; first | exact this | exact Ne.symm this) (.string (ofL O1)) (.int .i64 er1) (.int .i64 n1))
                refine wpAnyX_one (i := 15) (by kernel_rfl) rfl (fun K hK => ?_)
                have hB := HY.out.2
                have hb0 := hB.cell 0
                have hb1 := hB.cell 1
                have hb2 := hB.cell 2
                simp only [List.getElem?_toArray, List.getElem?_cons_zero, List.getElem?_cons_succ] at hb0 hb1 hb2
                have hf0 := hB.frozen 0
                have hf1 := hB.frozen 1
                have hf2 := hB.frozen 2
                have hlt := hB.lt
                clear hB
                go_simp
                clear hb0 hb1 hb2 hf0 hf1 hf2 hlt
                refine hK.out _ _ (fun h => absurd h (by decide)) ?_
                clear hK K
                try simp only [List.getElem_toArray, List.getElem_cons_zero, List.getElem_cons_succ, Act.put, List.setIfInBounds_toArray, List.set_cons_zero, List.set_cons_succ]
                refine wpAnyX_done (by kernel_rfl) ?_ _
                have HX := Lib.hid (HX.out.far (by have := HD.out; first | exact this | exact Ne.symm this) (.string (ofL O2)) (.int .i64 er2) (.int .i64 n2))
                have HY := Lib.hid (HY.out.set (ofL O2) er2 n2)
                have HB := Lib.hid (below_set HB.out HH.out (.string (ofL O2)) (.int .i64 er2) (.int .i64 n2))
                go_wp2_with fail
                go_meet
                exact ⟨gX, gY, rfl, rfl, HX.out, HY.out, HB.out⟩
              · go_simp
                have hN := Oc.fresh HB.out.size
                have hA := HA.out.alloc (.cells #[.string ⟨#[]⟩, .int .i64 0, .int .i64 0] 29)
                have hB := HB.out.alloc HB.out.size (.cells #[.string ⟨#[]⟩, .int .i64 0, .int .i64 0] 29)
                have hS := hA.cell 0
                refine hK.out _ _ (fun _ => by exact hS) ?_
                clear hK K hS
                try simp only [List.getElem_toArray, List.getElem_cons_zero, List.getElem_cons_succ, Act.put, List.setIfInBounds_toArray, List.set_cons_zero, List.set_cons_succ]
                generalize V2.alloc (.cells #[.string ⟨#[]⟩, .int .i64 0, .int .i64 0] 29) = V3 at hN hA hB ⊢
                generalize V2.heap.size = gY at hN ⊢
                have HY := Lib.hid hN
                have HA := Lib.hid hA
                have HB := Lib.hid hB
                have hS := HA.out.cell 0
                clear hN hA hB
                refine wpAnyX_one (i := 12) (by kernel_rfl) rfl (fun K hK => ?_)
                go_simp
                have hN := Oc.fresh HB.out.size
                have hY := HY.out.alloc (.cells #[.string ⟨#[]⟩, .int .i64 0, .int .i64 0] 29)
                have HD := Lib.hid (show gY ≠ V3.heap.size by have := HY.out.2.lt; omega)
                have hA := HA.out.alloc (.cells #[.string ⟨#[]⟩, .int .i64 0, .int .i64 0] 29)
                have hB := HB.out.alloc HB.out.size (.cells #[.string ⟨#[]⟩, .int .i64 0, .int .i64 0] 29)
                have hS := hA.cell 0
                refine hK.out _ _ (fun _ => by exact hS) ?_
                clear hK K hS
                try simp only [List.getElem_toArray, List.getElem_cons_zero, List.getElem_cons_succ, Act.put, List.setIfInBounds_toArray, List.set_cons_zero, List.set_cons_succ]
                generalize V3.alloc (.cells #[.string ⟨#[]⟩, .int .i64 0, .int .i64 0] 29) = V4 at hN hA hB hY ⊢
                generalize V3.heap.size = gX at hN HD ⊢
                have HX := Lib.hid hN
                have HY := Lib.hid hY
                have HA := Lib.hid hA
                have HB := Lib.hid hB
                have hS := HA.out.cell 0
                clear hN hA hB hY
                have HG := Lib.hid HX.out.1
                have HH := Lib.hid HY.out.1
                refine wpAnyX_one (i := 14) (by kernel_rfl) rfl (fun K hK => ?_)
                have hB := HX.out.2
                have hb0 := hB.cell 0
                have hb1 := hB.cell 1
                have hb2 := hB.cell 2
                simp only [List.getElem?_toArray, List.getElem?_cons_zero, List.getElem?_cons_succ] at hb0 hb1 hb2
                have hf0 := hB.frozen 0
                have hf1 := hB.frozen 1
                have hf2 := hB.frozen 2
                have hlt := hB.lt
                clear hB
                go_simp
                clear hb0 hb1 hb2 hf0 hf1 hf2 hlt
                refine hK.out _ _ (fun h => absurd h (by decide)) ?_
                clear hK K
                try simp only [List.getElem_toArray, List.getElem_cons_zero, List.getElem_cons_succ, Act.put, List.setIfInBounds_toArray, List.set_cons_zero, List.set_cons_succ]
                have HB := Lib.hid (below_set HB.out HG.out (.string (ofL O1)) (.int .i64 er1) (.int .i64 n1))
                have HX := Lib.hid (HX.out.set (ofL O1) er1 n1)
                have HY := Lib.hid (HY.out.far (by have := HD.out; first | exact this | exact Ne.symm this) (.string (ofL O1)) (.int .i64 er1) (.int .i64 n1))
                refine wpAnyX_one (i := 15) (by kernel_rfl) rfl (fun K hK => ?_)
                have hB := HY.out.2
                have hb0 := hB.cell 0
                have hb1 := hB.cell 1
                have hb2 := hB.cell 2
                simp only [List.getElem?_toArray, List.getElem?_cons_zero, List.getElem?_cons_succ] at hb0 hb1 hb2
                have hf0 := hB.frozen 0
                have hf1 := hB.frozen 1
                have hf2 := hB.frozen 2
                have hlt := hB.lt
                clear hB
                go_simp
                clear hb0 hb1 hb2 hf0 hf1 hf2 hlt
                refine hK.out _ _ (fun h => absurd h (by decide)) ?_
                clear hK K
                try simp only [List.getElem_toArray, List.getElem_cons_zero, List.getElem_cons_succ, Act.put, List.setIfInBounds_toArray, List.set_cons_zero, List.set_cons_succ]
                refine wpAnyX_done (by kernel_rfl) ?_ _
                have HX := Lib.hid (HX.out.far (by have := HD.out; first | exact this | exact Ne.symm this) (.string (ofL O2)) (.int .i64 er2) (.int .i64 n2))
                have HY := Lib.hid (HY.out.set (ofL O2) er2 n2)
                have HB := Lib.hid (below_set HB.out HH.out (.string (ofL O2)) (.int .i64 er2) (.int .i64 n2))
                go_wp2_with fail
                go_meet
                exact ⟨gX, gY, rfl, rfl, HX.out, HY.out, HB.out⟩
            · go_simp
              have hN := Oc.fresh HB.out.size
              have hA := HA.out.alloc (.cells #[.string ⟨#[]⟩, .int .i64 0, .int .i64 0] 29)
              have hB := HB.out.alloc HB.out.size (.cells #[.string ⟨#[]⟩, .int .i64 0, .int .i64 0] 29)
              have hS := hA.cell 0
              refine hK.out _ _ (fun _ => by exact hS) ?_
              clear hK K hS
              try simp only [List.getElem_toArray, List.getElem_cons_zero, List.getElem_cons_succ, Act.put, List.setIfInBounds_toArray, List.set_cons_zero, List.set_cons_succ]
              generalize V1.alloc (.cells #[.string ⟨#[]⟩, .int .i64 0, .int .i64 0] 29) = V2 at hN hA hB ⊢
              generalize V1.heap.size = gX at hN ⊢
              have HX := Lib.hid hN
              have HA := Lib.hid hA
              have HB := Lib.hid hB
              have hS := HA.out.cell 0
              clear hN hA hB
              refine wpAnyX_two (i := 11) (j := 13) (by kernel_rfl) rfl rfl (fun K hK => ?_) (fun K hK => ?_)
              · go_simp
                refine (HC2.out _ HB.out).mono ?_
                rintro e V3 ⟨rfl, hb⟩
                have HA := Lib.hid (HA.out.below hb)
                have HX := Lib.hid (HX.out.below hb)
                have HB := Lib.hid (HB.out.trans (hb.mono HB.out.size))
                have hS := HA.out.cell 0
                clear hb
                refine hK.out _ _ (fun _ => by exact hS) ?_
                clear hK K
                try simp only [List.getElem_toArray, List.getElem_cons_zero, List.getElem_cons_succ, Act.put, List.setIfInBounds_toArray, List.set_cons_zero, List.set_cons_succ]
                refine wpAnyX_one (i := 13) (by kernel_rfl) rfl (fun K hK => ?_)
                go_simp
                have hN := Oc.fresh HB.out.size
                have hX := HX.out.alloc (.cells #[.string ⟨#[]⟩, .int .i64 0, .int .i64 0] 29)
                have HD := Lib.hid (show gX ≠ V3.heap.size by have := HX.out.2.lt; omega)
                have hA := HA.out.alloc (.cells #[.string ⟨#[]⟩, .int .i64 0, .int .i64 0] 29)
                have hB := HB.out.alloc HB.out.size (.cells #[.string ⟨#[]⟩, .int .i64 0, .int .i64 0] 29)
                have hS := hA.cell 0
                refine hK.out _ _ (fun _ => by exact hS) ?_
                clear hK K hS
                try simp only [List.getElem_toArray, List.getElem_cons_zero, List.getElem_cons_succ, Act.put, List.setIfInBounds_toArray, List.set_cons_zero, List.set_cons_succ]
                generalize V3.alloc (.cells #[.string ⟨#[]⟩, .int .i64 0, .int .i64 0] 29) = V4 at hN hA hB hX ⊢
                generalize V3.heap.size = gY at hN HD ⊢
                have HY := Lib.hid hN
                have HX := Lib.hid hX
                have HA := Lib.hid hA
                have HB := Lib.hid hB
                have hS := HA.out.cell 0
                clear hN hA hB hX
                have HG := Lib.hid HX.out.1
                have HH := Lib.hid HY.out.1
                refine wpAnyX_one (i := 14) (by kernel_rfl) rfl (fun K hK => ?_)
                have hB := HX.out.2
                have hb0 := hB.cell 0
                have hb1 := hB.cell 1
                have hb2 := hB.cell 2
                simp only [List.getElem?_toArray, List.getElem?_cons_zero, List.getElem?_cons_succ] at hb0 hb1 hb2
                have hf0 := hB.frozen 0
                have hf1 := hB.frozen 1
                have hf2 := hB.frozen 2
                have hlt := hB.lt
                clear hB
                go_simp
                clear hb0 hb1 hb2 hf0 hf1 hf2 hlt
                refine hK.out _ _ (fun h => absurd h (by decide)) ?_
                clear hK K
                try simp only [List.getElem_toArray, List.getElem_cons_zero, List.getElem_cons_succ, Act.put, List.setIfInBounds_toArray, List.set_cons_zero, List.set_cons_succ]
                have HB := Lib.hid (below_set HB.out HG.out (.string (ofL O1)) (.int .i64 er1) (.int .i64 n1))
                have HX := Lib.hid (HX.out.set (ofL O1) er1 n1)
                have HY := Lib.hid (HY.out.far (by have := HD.out; first | exact this | exact Ne.symm this) (.string (ofL O1)) (.int .i64 er1) (.int .i64 n1))
                refine wpAnyX_one (i := 15) (by kernel_rfl) rfl (fun K hK => ?_)
                have hB := HY.out.2
                have hb0 := hB.cell 0
                have hb1 := hB.cell 1
                have hb2 := hB.cell 2
                simp only [List.getElem?_toArray, List.getElem?_cons_zero, List.getElem?_cons_succ] at hb0 hb1 hb2
                have hf0 := hB.frozen 0
                have hf1 := hB.frozen 1
                have hf2 := hB.frozen 2
                have hlt := hB.lt
                clear hB
                go_simp
                clear hb0 hb1 hb2 hf0 hf1 hf2 hlt
                refine hK.out _ _ (fun h => absurd h (by decide)) ?_
                clear hK K
                try simp only [List.getElem_toArray, List.getElem_cons_zero, List.getElem_cons_succ, Act.put, List.setIfInBounds_toArray, List.set_cons_zero, List.set_cons_succ]
                refine wpAnyX_done (by kernel_rfl) ?_ _
                have HX := Lib.hid (HX.out.far (by have := HD.out; first | exact this | exact Ne.symm this) (.string (ofL O2)) (.int .i64 er2) (.int .i64 n2))
                have HY := Lib.hid (HY.out.set (ofL O2) er2 n2)
                have HB := Lib.hid (below_set HB.out HH.out (.string (ofL O2)) (.int .i64 er2) (.int .i64 n2))
                go_wp2_with fail
                go_meet
                exact ⟨gX, gY, rfl, rfl, HX.out, HY.out, HB.out⟩
              · go_simp
                have hN := Oc.fresh HB.out.size
                have hX := HX.out.alloc (.cells #[.string ⟨#[]⟩, .int .i64 0, .int .i64 0] 29)
                have HD := Lib.hid (show gX ≠ V2.heap.size by have := HX.out.2.lt; omega)
                have hA := HA.out.alloc (.cells #[.string ⟨#[]⟩, .int .i64 0, .int .i64 0] 29)
                have hB := HB.out.alloc HB.out.size (.cells #[.string ⟨#[]⟩, .int .i64 0, .int .i64 0] 29)
                have hS := hA.cell 0
                refine hK.out _ _ (fun _ => by exact hS) ?_
                clear hK K hS
                try simp only [List.getElem_toArray, List.getElem_cons_zero, List.getElem_cons_succ, Act.put, List.setIfInBounds_toArray, List.set_cons_zero, List.set_cons_succ]
                generalize V2.alloc (.cells #[.string ⟨#[]⟩, .int .i64 0, .int .i64 0] 29) = V3 at hN hA hB hX ⊢
                generalize V2.heap.size = gY at hN HD ⊢
                have HY := Lib.hid hN
                have HX := Lib.hid hX
                have HA := Lib.hid hA
                have HB := Lib.hid hB
                have hS := HA.out.cell 0
                clear hN hA hB hX
                refine wpAnyX_one (i := 11) (by kernel_rfl) rfl (fun K hK => ?_)
                go_simp
                refine (HC2.out _ HB.out).mono ?_
                rintro e V4 ⟨rfl, hb⟩
                have HA := Lib.hid (HA.out.below hb)
                have HX := Lib.hid (HX.out.below hb)
                have HY := Lib.hid (HY.out.below hb)
                have HB := Lib.hid (HB.out.trans (hb.mono HB.out.size))
                have hS := HA.out.cell 0
                clear hb
                refine hK.out _ _ (fun _ => by exact hS) ?_
                clear hK K
                try simp only [List.getElem_toArray, List.getElem_cons_zero, List.getElem_cons_succ, Act.put, List.setIfInBounds_toArray, List.set_cons_zero, List.set_cons_succ]
                have HG := Lib.hid HX.out.1
                have HH := Lib.hid HY.out.1
                refine wpAnyX_one (i := 14) (by kernel_rfl) rfl (fun K hK => ?_)
                have hB := HX.out.2
                have hb0 := hB.cell 0
                have hb1 := hB.cell 1
                have hb2 := hB.cell 2
                simp only [List.getElem?_toArray, List.getElem?_cons_zero, List.getElem?_cons_succ] at hb0 hb1 hb2
                have hf0 := hB.frozen 0
                have hf1 := hB.frozen 1
                have hf2 := hB.frozen 2
                have hlt := hB.lt
                clear hB
                go_simp
                clear hb0 hb1 hb2 hf0 hf1 hf2 hlt
                refine hK.out _ _ (fun h => absurd h (by decide)) ?_
                clear hK K
                try simp only [List.getElem_toArray, List.getElem_cons_zero, List.getElem_cons_succ, Act.put, List.setIfInBounds_toArray, List.set_cons_zero, List.set_cons_succ]
                have HB := Lib.hid (below_set HB.out HG.out (.string (ofL O1)) (.int .i64 er1) (.int .i64 n1))
                have HX := Lib.hid (HX.out.set (ofL O1) er1 n1)
                have HY := Lib.hid (HY.out.far (by have := HD.out; first | exact this | exact Ne.symm this) (.string (ofL O1)) (.int .i64 er1) (.int .i64 n1))
                refine wpAnyX_one (i := 15) (by kernel_rfl) rfl (fun K hK => ?_)
                have hB := HY.out.2
                have hb0 := hB.cell 0
                have hb1 := hB.cell 1
                have hb2 := hB.cell 2
                simp only [List.getElem?_toArray, List.getElem?_cons_zero, List.getElem?_cons_succ] at hb0 hb1 hb2
                have hf0 := hB.frozen 0
                have hf1 := hB.frozen 1
                have hf2 := hB.frozen 2
                have hlt := hB.lt
                clear hB
                go_simp
                clear hb0 hb1 hb2 hf0 hf1 hf2 hlt
                refine hK.out _ _ (fun h => absurd h (by decide)) ?_
                clear hK K
                try simp only [List.getElem_toArray, List.getElem_cons_zero, List.getElem_cons_succ, Act.put, List.setIfInBounds_toArray, List.set_cons_zero, List.set_cons_succ]
                refine wpAnyX_done (by kernel_rfl) ?_ _
                have HX := Lib.hid (HX.out.far (by have := HD.out; first | exact this | exact Ne.symm this) (.string (ofL O2)) (.int .i64 er2) (.int .i64 n2))
                have HY := Lib.hid (HY.out.set (ofL O2) er2 n2)
                have HB := Lib.hid (below_set HB.out HH.out (.string (ofL O2)) (.int .i64 er2) (.int .i64 n2))
                go_wp2_with fail
                go_meet
                exact ⟨gX, gY, rfl, rfl, HX.out, HY.out, HB.out⟩
            · go_simp
              have hN := Oc.fresh HB.out.size
              have hA := HA.out.alloc (.cells #[.string ⟨#[]⟩, .int .i64 0, .int .i64 0] 29)
              have hB := HB.out.alloc HB.out.size (.cells #[.string ⟨#[]⟩, .int .i64 0, .int .i64 0] 29)
              have hS := hA.cell 0
              refine hK.out _ _ (fun _ => by exact hS) ?_
              clear hK K hS
              try simp only [List.getElem_toArray, List.getElem_cons_zero, List.getElem_cons_succ, Act.put, List.setIfInBounds_toArray, List.set_cons_zero, List.set_cons_succ]
              generalize V1.alloc (.cells #[.string ⟨#[]⟩, .int .i64 0, .int .i64 0] 29) = V2 at hN hA hB ⊢
              generalize V1.heap.size = gY at hN ⊢
              have HY := Lib.hid hN
              have HA := Lib.hid hA
              have HB := Lib.hid hB
              have hS := HA.out.cell 0
              clear hN hA hB
              refine wpAnyX_two (i := 11) (j := 12) (by kernel_rfl) rfl rfl (fun K hK => ?_) (fun K hK => ?_)
              · go_simp
                refine (HC2.out _ HB.out).mono ?_
                rintro e V3 ⟨rfl, hb⟩
                have HA := Lib.hid (HA.out.below hb)
                have HY := Lib.hid (HY.out.below hb)
                have HB := Lib.hid (HB.out.trans (hb.mono HB.out.size))
                have hS := HA.out.cell 0
                clear hb
                refine hK.out _ _ (fun _ => by exact hS) ?_
                clear hK K
                try simp only [List.getElem_toArray, List.getElem_cons_zero, List.getElem_cons_succ, Act.put, List.setIfInBounds_toArray, List.set_cons_zero, List.set_cons_succ]
                refine wpAnyX_one (i := 12) (by kernel_rfl) rfl (fun K hK => ?_)
                go_simp
                have hN := Oc.fresh HB.out.size
                have hY := HY.out.alloc (.cells #[.string ⟨#[]⟩, .int .i64 0, .int .i64 0] 29)
                have HD := Lib.hid (show gY ≠ V3.heap.size by have := HY.out.2.lt; omega)
                have hA := HA.out.alloc (.cells #[.string ⟨#[]⟩, .int .i64 0, .int .i64 0] 29)
                have hB := HB.out.alloc HB.out.size (.cells #[.string ⟨#[]⟩, .int .i64 0, .int .i64 0] 29)
                have hS := hA.cell 0
                refine hK.out _ _ (fun _ => by exact hS) ?_
                clear hK K hS
                try simp only [List.getElem_toArray, List.getElem_cons_zero, List.getElem_cons_succ, Act.put, List.setIfInBounds_toArray, List.set_cons_zero, List.set_cons_succ]
                generalize V3.alloc (.cells #[.string ⟨#[]⟩, .int .i64 0, .int .i64 0] 29) = V4 at hN hA hB hY ⊢
                generalize V3.heap.size = gX at hN HD ⊢
                have HX := Lib.hid hN
                have HY := Lib.hid hY
                have HA := Lib.hid hA
                have HB := Lib.hid hB
                have hS := HA.out.cell 0
                clear hN hA hB hY
                have HG := Lib.hid HX.out.1
                have HH := Lib.hid HY.out.1
                refine wpAnyX_one (i := 14) (by kernel_rfl) rfl (fun K hK => ?_)
                have hB := HX.out.2
                have hb0 := hB.cell 0
                have hb1 := hB.cell 1
                have hb2 := hB.cell 2
                simp only [List.getElem?_toArray, List.getElem?_cons_zero, List.getElem?_cons_succ] at hb0 hb1 hb2
                have hf0 := hB.frozen 0
                have hf1 := hB.frozen 1
                have hf2 := hB.frozen 2
                have hlt := hB.lt
                clear hB
                go_simp
                clear hb0 hb1 hb2 hf0 hf1 hf2 hlt
                refine hK.out _ _ (fun h => absurd h (by decide)) ?_
                clear hK K
                try simp only [List.getElem_toArray, List.getElem_cons_zero, List.getElem_cons_succ, Act.put, List.setIfInBounds_toArray, List.set_cons_zero, List.set_cons_succ]
                have HB := Lib.hid (below_set HB.out HG.out (.string (ofL O1)) (.int .i64 er1) (.int .i64 n1))
                have HX := Lib.hid (HX.out.set (ofL O1) er1 n1)
                have HY := Lib.hid (HY.out.far (by have := HD.out; first | exact this | exact Ne.symm this) (.string (ofL O1)) (.int .i64 er1) (.int .i64 n1))
                refine wpAnyX_one (i := 15) (by kernel_rfl) rfl (fun K hK => ?_)
                have hB := HY.out.2
                have hb0 := hB.cell 0
                have hb1 := hB.cell 1
                have hb2 := hB.cell 2
                simp only [List.getElem?_toArray, List.getElem?_cons_zero, List.getElem?_cons_succ] at hb0 hb1 hb2
                have hf0 := hB.frozen 0
                have hf1 := hB.frozen 1
                have hf2 := hB.frozen 2
                have hlt := hB.lt
                clear hB
                go_simp
                clear hb0 hb1 hb2 hf0 hf1 hf2 hlt
                refine hK.out _ _ (fun h => absurd h (by decide)) ?_
                clear hK K
                try simp only [List.getElem_toArray, List.getElem_cons_zero, List.getElem_cons_succ, Act.put, List.setIfInBounds_toArray, List.set_cons_zero, List.set_cons_succ]
                refine wpAnyX_done (by kernel_rfl) ?_ _
                have HX := Lib.hid (HX.out.far (by have := HD.out; first | exact this | exact Ne.symm this) (.string (ofL O2)) (.int .i64 er2) (.int .i64 n2))
                have HY := Lib.hid (HY.out.set (ofL O2) er2 n2)
                have HB := Lib.hid (below_set HB.out HH.out (.string (ofL O2)) (.int .i64 er2) (.int .i64 n2))
                go_wp2_with fail
                go_meet
                exact ⟨gX, gY, rfl, rfl, HX.out, HY.out, HB.out⟩
              · go_simp
                have hN := Oc.fresh HB.out.size
                have hY := HY.out.alloc (.cells #[.string ⟨#[]⟩, .int .i64 0, .int .i64 0] 29)
                have HD := Lib.hid (show gY ≠ V2.heap.size by have := HY.out.2.lt; omega)
                have hA := HA.out.alloc (.cells #[.string ⟨#[]⟩, .int .i64 0, .int .i64 0] 29)
                have hB := HB.out.alloc HB.out.size (.cells #[.string ⟨#[]⟩, .int .i64 0, .int .i64 0] 29)
                have hS := hA.cell 0
                refine hK.out _ _ (fun _ => by exact hS) ?_
                clear hK K hS
                try simp only [List.getElem_toArray, List.getElem_cons_zero, List.getElem_cons_succ, Act.put, List.setIfInBounds_toArray, List.set_cons_zero, List.set_cons_succ]
                generalize V2.alloc (.cells #[.string ⟨#[]⟩, .int .i64 0, .int .i64 0] 29) = V3 at hN hA hB hY ⊢
                generalize V2.heap.size = gX at hN HD ⊢
                have HX := Lib.hid hN
                have HY := Lib.hid hY
                have HA := Lib.hid hA
                have HB := Lib.hid hB
                have hS := HA.out.cell 0
                clear hN hA hB hY
                refine wpAnyX_one (i := 11) (by kernel_rfl) rfl (fun K hK => ?_)
                go_simp
                refine (HC2.out _ HB.out).mono ?_
                rintro e V4 ⟨rfl, hb⟩
                have HA := Lib.hid (HA.out.below hb)
                have HX := Lib.hid (HX.out.below hb)
                have HY := Lib.hid (HY.out.below hb)
                have HB := Lib.hid (HB.out.trans (hb.mono HB.out.size))
                have hS := HA.out.cell 0
                clear hb
                refine hK.out _ _ (fun _ => by exact hS) ?_
                clear hK K
                try simp only [List.getElem_toArray, List.getElem_cons_zero, List.getElem_cons_succ, Act.put, List.setIfInBounds_toArray, List.set_cons_zero, List.set_cons_succ]
                have HG := Lib.hid HX.out.1
                have HH := Lib.hid HY.out.1
                refine wpAnyX_one (i := 14) (by kernel_rfl) rfl (fun K hK => ?_)
                have hB := HX.out.2
                have hb0 := hB.cell 0
                have hb1 := hB.cell 1
                have hb2 := hB.cell 2
                simp only [List.getElem?_toArray, List.getElem?_cons_zero, List.getElem?_cons_succ] at hb0 hb1 hb2
                have hf0 := hB.frozen 0
                have hf1 := hB.frozen 1
                have hf2 := hB.frozen 2
                have hlt := hB.lt
                clear hB
                go_simp
                clear hb0 hb1 hb2 hf0 hf1 hf2 hlt
                refine hK.out _ _ (fun h => absurd h (by decide)) ?_
                clear hK K
                try simp only [List.getElem_toArray, List.getElem_cons_zero, List.getElem_cons_succ, Act.put, List.setIfInBounds_toArray, List.set_cons_zero, List.set_cons_succ]
                have HB := Lib.hid (below_set HB.out HG.out (.string (ofL O1)) (.int .i64 er1) (.int .i64 n1))
                have HX := Lib.hid (HX.out.set (ofL O1) er1 n1)
                have HY := Lib.hid (HY.out.far (by have := HD.out; first | exact this | exact Ne.symm this) (.string (ofL O1)) (.int .i64 er1) (.int .i64 n1))
                refine wpAnyX_one (i := 15) (by kernel_rfl) rfl (fun K hK => ?_)
                have hB := HY.out.2
                have hb0 := hB.cell 0
                have hb1 := hB.cell 1
                have hb2 := hB.cell 2
                simp only [List.getElem?_toArray, List.getElem?_cons_zero, List.getElem?_cons_succ] at hb0 hb1 hb2
                have hf0 := hB.frozen 0
                have hf1 := hB.frozen 1
                have hf2 := hB.frozen 2
                have hlt := hB.lt
                clear hB
                go_simp
                clear hb0 hb1 hb2 hf0 hf1 hf2 hlt
                refine hK.out _ _ (fun h => absurd h (by decide)) ?_
                clear hK K
                try simp only [List.getElem_toArray, List.getElem_cons_zero, List.getElem_cons_succ, Act.put, List.setIfInBounds_toArray, List.set_cons_zero, List.set_cons_succ]
                refine wpAnyX_done (by kernel_rfl) ?_ _
                have HX := Lib.hid (HX.out.far (by have := HD.out; first | exact this | exact Ne.symm this) (.string (ofL O2)) (.int .i64 er2) (.int .i64 n2))
                have HY := Lib.hid (HY.out.set (ofL O2) er2 n2)
                have HB := Lib.hid (below_set HB.out HH.out (.string (ofL O2)) (.int .i64 er2) (.int .i64 n2))
                go_wp2_with fail
                go_meet
                exact ⟨gX, gY, rfl, rfl, HX.out, HY.out, HB.out⟩
          · go_simp
            have hN := Oc.fresh HB.out.size
            have hA := HA.out.alloc (.cells #[.string ⟨#[]⟩, .int .i64 0, .int .i64 0] 29)
            have hB := HB.out.alloc HB.out.size (.cells #[.string ⟨#[]⟩, .int .i64 0, .int .i64 0] 29)
            have hS := hA.cell 0
            refine hK.out _ _ (fun _ => by exact hS) ?_
            clear hK K hS
            try simp only [List.getElem_toArray, List.getElem_cons_zero, List.getElem_cons_succ, Act.put, List.setIfInBounds_toArray, List.set_cons_zero, List.set_cons_succ]
            generalize V0.alloc (.cells #[.string ⟨#[]⟩, .int .i64 0, .int .i64 0] 29) = V1 at hN hA hB ⊢
            generalize V0.heap.size = gX at hN ⊢
            have HX := Lib.hid hN
            have HA := Lib.hid hA
            have HB := Lib.hid hB
            have hS := HA.out.cell 0
            clear hN hA hB
            refine wpAnyX_two (i := 5) (j := 13) (by kernel_rfl) rfl rfl (fun K hK => ?_) (fun K hK => ?_)
            · go_simp
              refine (HC1.out _ HB.out).mono ?_
              rintro e V2 ⟨rfl, hb⟩
              have HA := Lib.hid (HA.out.below hb)
              have HX := Lib.hid (HX.out.below hb)
              have HB := Lib.hid (HB.out.trans (hb.mono HB.out.size))
              have hS := HA.out.cell 0
              clear hb
              refine hK.out _ _ (fun _ => by exact hS) ?_
              clear hK K
              try simp only [List.getElem_toArray, List.getElem_cons_zero, List.getElem_cons_succ, Act.put, List.setIfInBounds_toArray, List.set_cons_zero, List.set_cons_succ]
              refine wpAnyX_two (i := 11) (j := 13) (by kernel_rfl) rfl rfl (fun K hK => ?_) (fun K hK => ?_)
              · go_simp
                refine (HC2.out _ HB.out).mono ?_
                rintro e V3 ⟨rfl, hb⟩
                have HA := Lib.hid (HA.out.below hb)
                have HX := Lib.hid (HX.out.below hb)
                have HB := Lib.hid (HB.out.trans (hb.mono HB.out.size))
                have hS := HA.out.cell 0
                clear hb
                refine hK.out _ _ (fun _ => by exact hS) ?_
                clear hK K
                try simp only [List.getElem_toArray, List.getElem_cons_zero, List.getElem_cons_succ, Act.put, List.setIfInBounds_toArray, List.set_cons_zero, List.set_cons_succ]
                refine wpAnyX_one (i := 13) (by kernel_rfl) rfl (fun K hK => ?_)
                go_simp
                have hN := Oc.fresh HB.out.size
                have hX := HX.out.alloc (.cells #[.string ⟨#[]⟩, .int .i64 0, .int .i64 0] 29)
                have HD := Lib.hid (show gX ≠ V3.heap.size by have := HX.out.2.lt; omega)
                have hA := HA.out.alloc (.cells #[.string ⟨#[]⟩, .int .i64 0, .int .i64 0] 29)
                have hB := HB.out.alloc HB.out.size (.cells #[.string ⟨#[]⟩, .int .i64 0, .int .i64 0] 29)
                have hS := hA.cell 0
                refine hK.out _ _ (fun _ => by exact hS) ?_
                clear hK K hS
                try simp only [List.getElem_toArray, List.getElem_cons_zero, List.getElem_cons_succ, Act.put, List.setIfInBounds_toArray, List.set_cons_zero, List.set_cons_succ]
                generalize V3.alloc (.cells #[.string ⟨#[]⟩, .int .i64 0, .int .i64 0] 29) = V4 at hN hA hB hX ⊢
                generalize V3.heap.size = gY at hN HD ⊢
                have HY := Lib.hid hN
                have HX := Lib.hid hX
                have HA := Lib.hid hA
                have HB := Lib.hid hB
                have hS := HA.out.cell 0
                clear hN hA hB hX
                have HG := Lib.hid HX.out.1
                have HH := Lib.hid HY.out.1
                refine wpAnyX_one (i := 14) (by kernel_rfl) rfl (fun K hK => ?_)
                have hB := HX.out.2
                have hb0 := hB.cell 0
                have hb1 := hB.cell 1
                have hb2 := hB.cell 2
                simp only [List.getElem?_toArray, List.getElem?_cons_zero, List.getElem?_cons_succ] at hb0 hb1 hb2
                have hf0 := hB.frozen 0
                have hf1 := hB.frozen 1
                have hf2 := hB.frozen 2
                have hlt := hB.lt
                clear hB
                go_simp
                clear hb0 hb1 hb2 hf0 hf1 hf2 hlt
                refine hK.out _ _ (fun h => absurd h (by decide)) ?_
                clear hK K
                try simp only [List.getElem_toArray, List.getElem_cons_zero, List.getElem_cons_succ, Act.put, List.setIfInBounds_toArray, List.set_cons_zero, List.set_cons_succ]
                have HB := Lib.hid (below_set HB.out HG.out (.string (ofL O1)) (.int .i64 er1) (.int .i64 n1))
                have HX := Lib.hid (HX.out.set (ofL O1) er1 n1)
                have HY := Lib.hid (HY.out.far (by have := HD.out; first | exact this | exact Ne.symm this) (.string (ofL O1)) (.int .i64 er1) (.int .i64 n1))
                refine wpAnyX_one (i := 15) (by kernel_rfl) rfl (fun K hK => ?_)
                have hB := HY.out.2
                have hb0 := hB.cell 0
                have hb1 := hB.cell 1
                have hb2 := hB.cell 2
                simp only [List.getElem?_toArray, List.getElem?_cons_zero, List.getElem?_cons_succ] at hb0 hb1 hb2
                have hf0 := hB.frozen 0
                have hf1 := hB.frozen 1
                have hf2 := hB.frozen 2
                have hlt := hB.lt
                clear hB
                go_simp
                clear hb0 hb1 hb2 hf0 hf1 hf2 hlt
                refine hK.out _ _ (fun h => absurd h (by decide)) ?_
                clear hK K
                try simp only [List.getElem_toArray, List.getElem_cons_zero, List.getElem_cons_succ, Act.put, List.setIfInBounds_toArray, List.set_cons_zero, List.set_cons_succ]
                refine wpAnyX_done (by kernel_rfl) ?_ _
                have HX := Lib.hid (HX.out.far (by have := HD.out; first | exact this | exact Ne.symm this) (.string (ofL O2)) (.int .i64 er2) (.int .i64 n2))
                have HY := Lib.hid (HY.out.set (ofL O2) er2 n2)
                have HB := Lib.hid (below_set HB.out HH.out (.string (ofL O2)) (.int .i64 er2) (.int .i64 n2))
                go_wp2_with fail
                go_meet
                exact ⟨gX, gY, rfl, rfl, HX.out, HY.out, HB.out⟩
              · go_simp
                have hN := Oc.fresh HB.out.size
                have hX := HX.out.alloc (.cells #[.string ⟨#[]⟩, .int .i64 0, .int .i64 0] 29)
                have HD := Lib.hid (show gX ≠ V2.heap.size by have := HX.out.2.lt; omega)
                have hA := HA.out.alloc (.cells #[.string ⟨#[]⟩, .int .i64 0, .int .i64 0] 29)
                have hB := HB.out.alloc HB.out.size (.cells #[.string ⟨#[]⟩, .int .i64 0, .int .i64 0] 29)
                have hS := hA.cell 0
                refine hK.out _ _ (fun _ => by exact hS) ?_
                clear hK K hS
                try simp only [List.getElem_toArray, List.getElem_cons_zero, List.getElem_cons_succ, Act.put, List.setIfInBounds_toArray, List.set_cons_zero, List.set_cons_succ]
                generalize V2.alloc (.cells #[.string ⟨#[]⟩, .int .i64 0, .int .i64 0] 29) = V3 at hN hA hB hX ⊢
                generalize V2.heap.size = gY at hN HD ⊢
                have HY := Lib.hid hN
                have HX := Lib.hid hX
                have HA := Lib.hid hA
                have HB := Lib.hid hB
                have hS := HA.out.cell 0
                clear hN hA hB hX
                refine wpAnyX_one (i := 11) (by kernel_rfl) rfl (fun K hK => ?_)
                go_simp
                refine (HC2.out _ HB.out).mono ?_
                rintro e V4 ⟨rfl, hb⟩
                have HA := Lib.hid (HA.out.below hb)
                have HX := Lib.hid (HX.out.below hb)
                have HY := Lib.hid (HY.out.below hb)
                have HB := Lib.hid (HB.out.trans (hb.mono HB.out.size))
                have hS := HA.out.cell 0
                clear hb
                refine hK.out _ _ (fun _ => by exact hS) ?_
                clear hK K
                try simp only [List.getElem_toArray, List.getElem_cons_zero, List.getElem_cons_succ, Act.put, List.setIfInBounds_toArray, List.set_cons_zero, List.set_cons_succ]
                have HG := Lib.hid HX.out.1
                have HH := Lib.hid HY.out.1
                refine wpAnyX_one (i := 14) (by kernel_rfl) rfl (fun K hK => ?_)
                have hB := HX.out.2
                have hb0 := hB.cell 0
                have hb1 := hB.cell 1
                have hb2 := hB.cell 2
                simp only [List.getElem?_toArray, List.getElem?_cons_zero, List.getElem?_cons_succ] at hb0 hb1 hb2
                have hf0 := hB.frozen 0
                have hf1 := hB.frozen 1
                have hf2 := hB.frozen 2
                have hlt := hB.lt
                clear hB
                go_simp
                clear hb0 hb1 hb2 hf0 hf1 hf2 hlt
                refine hK.out _ _ (fun h => absurd h (by decide)) ?_
                clear hK K
                try simp only [List.getElem_toArray, List.getElem_cons_zero, List.getElem_cons_succ, Act.put, List.setIfInBounds_toArray, List.set_cons_zero, List.set_cons_succ]
                have HB := Lib.hid (below_set HB.out HG.out (.string (ofL O1)) (.int .i64 er1) (.int .i64 n1))
                have HX := Lib.hid (HX.out.set (ofL O1) er1 n1)
                have HY := Lib.hid (HY.out.far (by have := HD.out; first | exact this | exact Ne.symm this) (.string (ofL O1)) (.int .i64 er1) (.int .i64 n1))
                refine wpAnyX_one (i := 15) (by kernel_rfl) rfl (fun K hK => ?_)
                have hB := HY.out.2
                have hb0 := hB.cell 0
                have hb1 := hB.cell 1
                have hb2 := hB.cell 2
                simp only [List.getElem?_toArray, List.getElem?_cons_zero, List.getElem?_cons_succ] at hb0 hb1 hb2
                have hf0 := hB.frozen 0
                have hf1 := hB.frozen 1
                have hf2 := hB.frozen 2
                have hlt := hB.lt
                clear hB
                go_simp
                clear hb0 hb1 hb2 hf0 hf1 hf2 hlt
                refine hK.out _ _ (fun h => absurd h (by decide)) ?_
                clear hK K
                try simp only [List.getElem_toArray, List.getElem_cons_zero, List.getElem_cons_succ, Act.put, List.setIfInBounds_toArray, List.set_cons_zero, List.set_cons_succ]
                refine wpAnyX_done (by kernel_rfl) ?_ _
                have HX := Lib.hid (HX.out.far (by have := HD.out; first | exact this | exact Ne.symm this) (.string (ofL O2)) (.int .i64 er2) (.int .i64 n2))
                have HY := Lib.hid (HY.out.set (ofL O2) er2 n2)
                have HB := Lib.hid (below_set HB.out HH.out (.string (ofL O2)) (.int .i64 er2) (.int .i64 n2))
                go_wp2_with fail
                go_meet
                exact ⟨gX, gY, rfl, rfl, HX.out, HY.out, HB.out⟩
            · go_simp
              have hN := Oc.fresh HB.out.size
              have hX := HX.out.alloc (.cells #[.string ⟨#[]⟩, .int .i64 0, .int .i64 0] 29)
              have HD := Lib.hid (show gX ≠ V1.heap.size by have := HX.out.2.lt; omega)
              have hA := HA.out.alloc (.cells #[.string ⟨#[]⟩, .int .i64 0, .int .i64 0] 29)
              have hB := HB.out.alloc HB.out.size (.cells #[.string ⟨#[]⟩, .int .i64 0, .int .i64 0] 29)
              have hS := hA.cell 0
              refine hK.out _ _ (fun _ => by exact hS) ?_
              clear hK K hS
              try simp only [List.getElem_toArray, List.getElem_cons_zero, List.getElem_cons_succ, Act.put, List.setIfInBounds_toArray, List.set_cons_zero, List.set_cons_succ]
              generalize V1.alloc (.cells #[.string ⟨#[]⟩, .int .i64 0, .int .i64 0] 29) = V2 at hN hA hB hX ⊢
              generalize V1.heap.size = gY at hN HD ⊢
              have HY := Lib.hid hN
              have HX := Lib.hid hX
              have HA := Lib.hid hA
              have HB := Lib.hid hB
              have hS := HA.out.cell 0
              clear hN hA hB hX
              refine wpAnyX_one (i := 5) (by kernel_rfl) rfl (fun K hK => ?_)
              go_simp
              refine (HC1.out _ HB.out).mono ?_
              rintro e V3 ⟨rfl, hb⟩
              have HA := Lib.hid (HA.out.below hb)
              have HX := Lib.hid (HX.out.below hb)
              have HY := Lib.hid (HY.out.below hb)
              have HB := Lib.hid (HB.out.trans (hb.mono HB.out.size))
              have hS := HA.out.cell 0
              clear hb
              refine hK.out _ _ (fun _ => by exact hS) ?_
              clear hK K
              try simp only [List.getElem_toArray, List.getElem_cons_zero, List.getElem_cons_succ, Act.put, List.setIfInBounds_toArray, List.set_cons_zero, List.set_cons_succ]
              refine wpAnyX_one (i := 11) (by kernel_rfl) rfl (fun K hK => ?_)
              go_simp
              refine (HC2.out _ HB.out).mono ?_
              rintro e V4 ⟨rfl, hb⟩
              have HA := Lib.hid (HA.out.below hb)
              have HX := Lib.hid (HX.out.below hb)
              have HY := Lib.hid (HY.out.below hb)
              have HB := Lib.hid (HB.out.trans (hb.mono HB.out.size))
              have hS := HA.out.cell 0
              clear hb
              refine hK.out _ _ (fun _ => by exact hS) ?_
              clear hK K
              try simp only [List.getElem_toArray, List.getElem_cons_zero, List.getElem_cons_succ, Act.put, List.setIfInBounds_toArray, List.set_cons_zero, List.set_cons_succ]
              have HG := Lib.hid HX.out.1
              have HH := Lib.hid HY.out.1
              refine wpAnyX_one (i := 14) (by kernel_rfl) rfl (fun K hK => ?_)
              have hB := HX.out.2
              have hb0 := hB.cell 0
              have hb1 := hB.cell 1
              have hb2 := hB.cell 2
              simp only [List.getElem?_toArray, List.getElem?_cons_zero, List.getElem?_cons_succ] at hb0 hb1 hb2
              have hf0 := hB.frozen 0
              have hf1 := hB.frozen 1
              have hf2 := hB.frozen 2
              have hlt := hB.lt
              clear hB
              go_simp
              clear hb0 hb1 hb2 hf0 hf1 hf2 hlt
              refine hK.out _ _ (fun h => absurd h (by decide)) ?_
              clear hK K
              try simp only [List.getElem_toArray, List.getElem_cons_zero, List.getElem_cons_succ, Act.put, List.setIfInBounds_toArray, List.set_cons_zero, List.set_cons_succ]
              have HB := Lib.hid (below_set HB.out HG.out (.string (ofL O1)) (.int .i64 er1) (.int .i64 n1))
              have HX := Lib.hid (HX.out.set (ofL O1) er1 n1)
              have HY := Lib.hid (HY.out.far (by have := HD.out; first | exact this | exact Ne.symm this) (.string (ofL O1)) (.int .i64 er1) (.int .i64 n1))
              refine wpAnyX_one (i := 15) (by kernel_rfl) rfl (fun K hK => ?_)
              have hB := HY.out.2
              have hb0 := hB.cell 0
              have hb1 := hB.cell 1
              have hb2 := hB.cell 2
              simp only [List.getElem?_toArray, List.getElem?_cons_zero, List.getElem?_cons_succ] at hb0 hb1 hb2
              have hf0 := hB.frozen 0
              have hf1 := hB.frozen 1
              have hf2 := hB.frozen 2
              have hlt := hB.lt
              clear hB
              go_simp
              clear hb0 hb1 hb2 hf0 hf1 hf2 hlt
              refine hK.out _ _ (fun h => absurd h (by decide)) ?_
              clear hK K
              try simp only [List.getElem_toArray, List.getElem_cons_zero, List.getElem_cons_succ, Act.put, List.setIfInBounds_toArray, List.set_cons_zero, List.set_cons_succ]
              refine wpAnyX_done (by kernel_rfl) ?_ _
              have HX := Lib.hid (HX.out.far (by have := HD.out; first | exact this | exact Ne.symm this) (.string (ofL O2)) (.int .i64 er2) (.int .i64 n2))
              have HY := Lib.hid (HY.out.set (ofL O2) er2 n2)
              have HB := Lib.hid (below_set HB.out HH.out (.string (ofL O2)) (.int .i64 er2) (.int .i64 n2))
              go_wp2_with fail
              go_meet
              exact ⟨gX, gY, rfl, rfl, HX.out, HY.out, HB.out⟩
          · go_simp
            have hN := Oc.fresh HB.out.size
            have hA := HA.out.alloc (.cells #[.string ⟨#[]⟩, .int .i64 0, .int .i64 0] 29)
            have hB := HB.out.alloc HB.out.size (.cells #[.string ⟨#[]⟩, .int .i64 0, .int .i64 0] 29)
            have hS := hA.cell 0
            refine hK.out _ _ (fun _ => by exact hS) ?_
            clear hK K hS
            try simp only [List.getElem_toArray, List.getElem_cons_zero, List.getElem_cons_succ, Act.put, List.setIfInBounds_toArray, List.set_cons_zero, List.set_cons_succ]
            generalize V0.alloc (.cells #[.string ⟨#[]⟩, .int .i64 0, .int .i64 0] 29) = V1 at hN hA hB ⊢
            generalize V0.heap.size = gY at hN ⊢
            have HY := Lib.hid hN
            have HA := Lib.hid hA
            have HB := Lib.hid hB
            have hS := HA.out.cell 0
            clear hN hA hB
            refine wpAnyX_two (i := 5) (j := 12) (by kernel_rfl) rfl rfl (fun K hK => ?_) (fun K hK => ?_)
            · go_simp
              refine (HC1.out _ HB.out).mono ?_
              rintro e V2 ⟨rfl, hb⟩
              have HA := Lib.hid (HA.out.below hb)
              have HY := Lib.hid (HY.out.below hb)
              have HB := Lib.hid (HB.out.trans (hb.mono HB.out.size))
              have hS := HA.out.cell 0
              clear hb
              refine hK.out _ _ (fun _ => by exact hS) ?_
              clear hK K
              try simp only [List.getElem_toArray, List.getElem_cons_zero, List.getElem_cons_succ, Act.put, List.setIfInBounds_toArray, List.set_cons_zero, List.set_cons_succ]
              refine wpAnyX_two (i := 11) (j := 12) (by kernel_rfl) rfl rfl (fun K hK => ?_) (fun K hK => ?_)
              · go_simp
                refine (HC2.out _ HB.out).mono ?_
                rintro e V3 ⟨rfl, hb⟩
                have HA := Lib.hid (HA.out.below hb)
                have HY := Lib.hid (HY.out.below hb)
                have HB := Lib.hid (HB.out.trans (hb.mono HB.out.size))
                have hS := HA.out.cell 0
                clear hb
                refine hK.out _ _ (fun _ => by exact hS) ?_
                clear hK K
                try simp only [List.getElem_toArray, List.getElem_cons_zero, List.getElem_cons_succ, Act.put, List.setIfInBounds_toArray, List.set_cons_zero, List.set_cons_succ]
                refine wpAnyX_one (i := 12) (by kernel_rfl) rfl (fun K hK => ?_)
                go_simp
                have hN := Oc.fresh HB.out.size
                have hY := HY.out.alloc (.cells #[.string ⟨#[]⟩, .int .i64 0, .int .i64 0] 29)
                have HD := Lib.hid (show gY ≠ V3.heap.size by have := HY.out.2.lt; omega)
                have hA := HA.out.alloc (.cells #[.string ⟨#[]⟩, .int .i64 0, .int .i64 0] 29)
                have hB := HB.out.alloc HB.out.size (.cells #[.string ⟨#[]⟩, .int .i64 0, .int .i64 0] 29)
                have hS := hA.cell 0
                refine hK.out _ _ (fun _ => by exact hS) ?_
                clear hK K hS
                try simp only [List.getElem_toArray, List.getElem_cons_zero, List.getElem_cons_succ, Act.put, List.setIfInBounds_toArray, List.set_cons_zero, List.set_cons_succ]
                generalize V3.alloc (.cells #[.string ⟨#[]⟩, .int .i64 0, .int .i64 0] 29) = V4 at hN hA hB hY ⊢
                generalize V3.heap.size = gX at hN HD ⊢
                have HX := Lib.hid hN
                have HY := Lib.hid hY
                have HA := Lib.hid hA
                have HB := Lib.hid hB
                have hS := HA.out.cell 0
                clear hN hA hB hY
                have HG := Lib.hid HX.out.1
                have HH := Lib.hid HY.out.1
                refine wpAnyX_one (i := 14) (by kernel_rfl) rfl (fun K hK => ?_)
                have hB := HX.out.2
                have hb0 := hB.cell 0
                have hb1 := hB.cell 1
                have hb2 := hB.cell 2
                simp only [List.getElem?_toArray, List.getElem?_cons_zero, List.getElem?_cons_succ] at hb0 hb1 hb2
                have hf0 := hB.frozen 0
                have hf1 := hB.frozen 1
                have hf2 := hB.frozen 2
                have hlt := hB.lt
                clear hB
                go_simp
                clear hb0 hb1 hb2 hf0 hf1 hf2 hlt
                refine hK.out _ _ (fun h => absurd h (by decide)) ?_
                clear hK K
                try simp only [List.getElem_toArray, List.getElem_cons_zero, List.getElem_cons_succ, Act.put, List.setIfInBounds_toArray, List.set_cons_zero, List.set_cons_succ]
                have HB := Lib.hid (below_set HB.out HG.out (.string (ofL O1)) (.int .i64 er1) (.int .i64 n1))
                have HX := Lib.hid (HX.out.set (ofL O1) er1 n1)
                have HY := Lib.hid (HY.out.far (by have := HD.out; first | exact this | exact Ne.symm this) (.string (ofL O1)) (.int .i64 er1) (.int .i64 n1))
                refine wpAnyX_one (i := 15) (by kernel_rfl) rfl (fun K hK => ?_)
                have hB := HY.out.2
                have hb0 := hB.cell 0
                have hb1 := hB.cell 1
                have hb2 := hB.cell 2
                simp only [List.getElem?_toArray, List.getElem?_cons_zero, List.getElem?_cons_succ] at hb0 hb1 hb2
                have hf0 := hB.frozen 0
                have hf1 := hB.frozen 1
                have hf2 := hB.frozen 2
                have hlt := hB.lt
                clear hB
                go_simp
                clear hb0 hb1 hb2 hf0 hf1 hf2 hlt
                refine hK.out _ _ (fun h => absurd h (by decide)) ?_
                clear hK K
                try simp only [List.getElem_toArray, List.getElem_cons_zero, List.getElem_cons_succ, Act.put, List.setIfInBounds_toArray, List.set_cons_zero, List.set_cons_succ]
                refine wpAnyX_done (by kernel_rfl) ?_ _
                have HX := Lib.hid (HX.out.far (by have := HD.out; first | exact this | exact Ne.symm this) (.string (ofL O2)) (.int .i64 er2) (.int .i64 n2))
                have HY := Lib.hid (HY.out.set (ofL O2) er2 n2)
                have HB := Lib.hid (below_set HB.out HH.out (.string (ofL O2)) (.int .i64 er2) (.int .i64 n2))
                go_wp2_with fail
                go_meet
                exact ⟨gX, gY, rfl, rfl, HX.out, HY.out, HB.out⟩
              · go_simp
                have hN := Oc.fresh HB.out.size
                have hY := HY.out.alloc (.cells #[.string ⟨#[]⟩, .int .i64 0, .int .i64 0] 29)
                have HD := Lib.hid (show gY ≠ V2.heap.size by have := HY.out.2.lt; omega)
                have hA := HA.out.alloc (.cells #[.string ⟨#[]⟩, .int .i64 0, .int .i64 0] 29)
                have hB := HB.out.alloc HB.out.size (.cells #[.string ⟨#[]⟩, .int .i64 0, .int .i64 0] 29)
                have hS := hA.cell 0
                refine hK.out _ _ (fun _ => by exact hS) ?_
                clear hK K hS
                try simp only [List.getElem_toArray, List.getElem_cons_zero, List.getElem_cons_succ, Act.put, List.setIfInBounds_toArray, List.set_cons_zero, List.set_cons_succ]
                generalize V2.alloc (.cells #[.string ⟨#[]⟩, .int .i64 0, .int .i64 0] 29) = V3 at hN hA hB hY ⊢
                generalize V2.heap.size = gX at hN HD ⊢
                have HX := Lib.hid hN
                have HY := Lib.hid hY
                have HA := Lib.hid hA
                have HB := Lib.hid hB
                have hS := HA.out.cell 0
                clear hN hA hB hY
                refine wpAnyX_one (i := 11) (by kernel_rfl) rfl (fun K hK => ?_)
                go_simp
                refine (HC2.out _ HB.out).mono ?_
                rintro e V4 ⟨rfl, hb⟩
                have HA := Lib.hid (HA.out.below hb)
                have HX := Lib.hid (HX.out.below hb)
                have HY := Lib.hid (HY.out.below hb)
                have HB := Lib.hid (HB.out.trans (hb.mono HB.out.size))
                have hS := HA.out.cell 0
                clear hb
                refine hK.out _ _ (fun _ => by exact hS) ?_
                clear hK K
                try simp only [List.getElem_toArray, List.getElem_cons_zero, List.getElem_cons_succ, Act.put, List.setIfInBounds_toArray, List.set_cons_zero, List.set_cons_succ]
                have HG := Lib.hid HX.out.1
                have HH := Lib.hid HY.out.1
                refine wpAnyX_one (i := 14) (by kernel_rfl) rfl (fun K hK => ?_)
                have hB := HX.out.2
                have hb0 := hB.cell 0
                have hb1 := hB.cell 1
                have hb2 := hB.cell 2
                simp only [List.getElem?_toArray, List.getElem?_cons_zero, List.getElem?_cons_succ] at hb0 hb1 hb2
                have hf0 := hB.frozen 0
                have hf1 := hB.frozen 1
                have hf2 := hB.frozen 2
                have hlt := hB.lt
                clear hB
                go_simp
                clear hb0 hb1 hb2 hf0 hf1 hf2 hlt
                refine hK.out _ _ (fun h => absurd h (by decide)) ?_
                clear hK K
                try simp only [List.getElem_toArray, List.getElem_cons_zero, List.getElem_cons_succ, Act.put, List.setIfInBounds_toArray, List.set_cons_zero, List.set_cons_succ]
                have HB := Lib.hid (below_set HB.out HG.out (.string (ofL O1)) (.int .i64 er1) (.int .i64 n1))
                have HX := Lib.hid (HX.out.set (ofL O1) er1 n1)
                have HY := Lib.hid (HY.out.far (by have := HD.out; first | exact this | exact Ne.symm this) (.string (ofL O1)) (.int .i64 er1) (.int .i64 n1))
                refine wpAnyX_one (i := 15) (by kernel_rfl) rfl (fun K hK => ?_)
                have hB := HY.out.2
                have hb0 := hB.cell 0
                have hb1 := hB.cell 1
                have hb2 := hB.cell 2
                simp only [List.getElem?_toArray, List.getElem?_cons_zero, List.getElem?_cons_succ] at hb0 hb1 hb2
                have hf0 := hB.frozen 0
                have hf1 := hB.frozen 1
                have hf2 := hB.frozen 2
                have hlt := hB.lt
                clear hB
                go_simp
                clear hb0 hb1 hb2 hf0 hf1 hf2 hlt
                refine hK.out _ _ (fun h => absurd h (by decide)) ?_
                clear hK K
                try simp only [List.getElem_toArray, List.getElem_cons_zero, List.getElem_cons_succ, Act.put, List.setIfInBounds_toArray, List.set_cons_zero, List.set_cons_succ]
                refine wpAnyX_done (by kernel_rfl) ?_ _
                have HX := Lib.hid (HX.out.far (by have := HD.out; first | exact this | exact Ne.symm this) (.string (ofL O2)) (.int .i64 er2) (.int .i64 n2))
                have HY := Lib.hid (HY.out.set (ofL O2) er2 n2)
                have HB := Lib.hid (below_set HB.out HH.out (.string (ofL O2)) (.int .i64 er2) (.int .i64 n2))
                go_wp2_with fail
                go_meet
                exact ⟨gX, gY, rfl, rfl, HX.out, HY.out, HB.out⟩
            · go_simp
              have hN := Oc.fresh HB.out.size
              have hY := HY.out.alloc (.cells #[.string ⟨#[]⟩, .int .i64 0, .int .i64 0] 29)
              have HD := Lib.hid (show gY ≠ V1.heap.size by have := HY.out.2.lt; omega)
              have hA := HA.out.alloc (.cells #[.string ⟨#[]⟩, .int .i64 0, .int .i64 0] 29)
              have hB := HB.out.alloc HB.out.size (.cells #[.string ⟨#[]⟩, .int .i64 0, .int .i64 0] 29)
              have hS := hA.cell 0
              refine hK.out _ _ (fun _ => by exact hS) ?_
              clear hK K hS
              try simp only [List.getElem_toArray, List.getElem_cons_zero, List.getElem_cons_succ, Act.put, List.setIfInBounds_toArray, List.set_cons_zero, List.set_cons_succ]
              generalize V1.alloc (.cells #[.string ⟨#[]⟩, .int .i64 0, .int .i64 0] 29) = V2 at hN hA hB hY ⊢
              generalize V1.heap.size = gX at hN HD ⊢
              have HX := Lib.hid hN
              have HY := Lib.hid hY
              have HA := Lib.hid hA
              have HB := Lib.hid hB
              have hS := HA.out.cell 0
              clear hN hA hB hY
              refine wpAnyX_one (i := 5) (by kernel_rfl) rfl (fun K hK => ?_)
              go_simp
              refine (HC1.out _ HB.out).mono ?_
              rintro e V3 ⟨rfl, hb⟩
              have HA := Lib.hid (HA.out.below hb)
              have HX := Lib.hid (HX.out.below hb)
              have HY := Lib.hid (HY.out.below hb)
              have HB := Lib.hid (HB.out.trans (hb.mono HB.out.size))
              have hS := HA.out.cell 0
              clear hb
              refine hK.out _ _ (fun _ => by exact hS) ?_
              clear hK K
              try simp only [List.getElem_toArray, List.getElem_cons_zero, List.getElem_cons_succ, Act.put, List.setIfInBounds_toArray, List.set_cons_zero, List.set_cons_succ]
              refine wpAnyX_one (i := 11) (by kernel_rfl) rfl (fun K hK => ?_)
              go_simp
              refine (HC2.out _ HB.out).mono ?_
              rintro e V4 ⟨rfl, hb⟩
              have HA := Lib.hid (HA.out.below hb)
              have HX := Lib.hid (HX.out.below hb)
              have HY := Lib.hid (HY.out.below hb)
              have HB := Lib.hid (HB.out.trans (hb.mono HB.out.size))
              have hS := HA.out.cell 0
              clear hb
              refine hK.out _ _ (fun _ => by exact hS) ?_
              clear hK K
              try simp only [List.getElem_toArray, List.getElem_cons_zero, List.getElem_cons_succ, Act.put, List.setIfInBounds_toArray, List.set_cons_zero, List.set_cons_succ]
              have HG := Lib.hid HX.out.1
              have HH := Lib.hid HY.out.1
              refine wpAnyX_one (i := 14) (by kernel_rfl) rfl (fun K hK => ?_)
              have hB := HX.out.2
              have hb0 := hB.cell 0
              have hb1 := hB.cell 1
              have hb2 := hB.cell 2
              simp only [List.getElem?_toArray, List.getElem?_cons_zero, List.getElem?_cons_succ] at hb0 hb1 hb2
              have hf0 := hB.frozen 0
              have hf1 := hB.frozen 1
              have hf2 := hB.frozen 2
              have hlt := hB.lt
              clear hB
              go_simp
              clear hb0 hb1 hb2 hf0 hf1 hf2 hlt
              refine hK.out _ _ (fun h => absurd h (by decide)) ?_
              clear hK K
              try simp only [List.getElem_toArray, List.getElem_cons_zero, List.getElem_cons_succ, Act.put, List.setIfInBounds_toArray, List.set_cons_zero, List.set_cons_succ]
              have HB := Lib.hid (below_set HB.out HG.out (.string (ofL O1)) (.int .i64 er1) (.int .i64 n1))
              have HX := Lib.hid (HX.out.set (ofL O1) er1 n1)
              have HY := Lib.hid (HY.out.far (by have := HD.out; first | exact this | exact Ne.symm this) (.string (ofL O1)) (.int .i64 er1) (.int .i64 n1))
              refine wpAnyX_one (i := 15) (by kernel_rfl) rfl (fun K hK => ?_)
              have hB := HY.out.2
              have hb0 := hB.cell 0
              have hb1 := hB.cell 1
              have hb2 := hB.cell 2
              simp only [List.getElem?_toArray, List.getElem?_cons_zero, List.getElem?_cons_succ] at hb0 hb1 hb2
              have hf0 := hB.frozen 0
              have hf1 := hB.frozen 1
              have hf2 := hB.frozen 2
              have hlt := hB.lt
              clear hB
              go_simp
              clear hb0 hb1 hb2 hf0 hf1 hf2 hlt
              refine hK.out _ _ (fun h => absurd h (by decide)) ?_
              clear hK K
              try simp only [List.getElem_toArray, List.getElem_cons_zero, List.getElem_cons_succ, Act.put, List.setIfInBounds_toArray, List.set_cons_zero, List.set_cons_succ]
              refine wpAnyX_done (by kernel_rfl) ?_ _
              have HX := Lib.hid (HX.out.far (by have := HD.out; first | exact this | exact Ne.symm this) (.string (ofL O2)) (.int .i64 er2) (.int .i64 n2))
              have HY := Lib.hid (HY.out.set (ofL O2) er2 n2)
              have HB := Lib.hid (below_set HB.out HH.out (.string (ofL O2)) (.int .i64 er2) (.int .i64 n2))
              go_wp2_with fail
              go_meet
              exact ⟨gX, gY, rfl, rfl, HX.out, HY.out, HB.out⟩
        case rest =>
          obtain ⟨gX, gY, rfl, rfl, hX, hY, hB⟩ := hcut
          have hx := hX.2
          have hy := hY.2
          have hx0 := hx.cell 0
          have hx1 := hx.cell 1
          have hx2 := hx.cell 2
          have hy0 := hy.cell 0
          have hy1 := hy.cell 1
          have hy2 := hy.cell 2
          simp only [List.getElem?_toArray, List.getElem?_cons_zero, List.getElem?_cons_succ] at hx0 hx1 hx2 hy0 hy1 hy2
          have HB := Lib.hid hB
          have HH := Lib.hid (hp_yes wc (ofL O2) (ofL O1) (ofL_small HL.out) (by rw [bl_ofL, bl_ofL]; exact HP.out.1))
          have hle : n1 ≤ n2 := HP.out.2.1
          have hng : ¬ n2 < n1 := by omega
          clear hX hY hx hy hB
          by_cases he : er1 = 13
          · go_wp2_with fail
            refine HH.out.mono ?_
            rintro e w5 ⟨rfl, rfl⟩
            go_wp2_with fail
            go_ret
            exact ⟨rfl, HB.out⟩
          · have heq := HP.out.2.2.resolve_left he
            injection heq with e1 e2
            injection e2 with e2 e3
            subst e1 e2 e3
            go_wp2_with fail
            refine HH.out.mono ?_
            rintro e w5 ⟨rfl, rfl⟩
            go_wp2_with fail
            go_ret
            exact ⟨rfl, HB.out⟩
    · go_wp2_with fail
      go_ret
      exact ⟨rfl, HB2.out⟩
  · go_upto_region 3 with fail
    go_quiet (fail)
    go_wp2_with fail
    refine (great_f _ A n c ts (HT.out.below (below_drewN HB1.out _)) HTS.out Ai ni ci HNI.out d).mono ?_
    rintro e w2 ⟨r, hr, rfl, hb2⟩
    have HA2 := Lib.hid ((HA1.out.drewN _).below hb2)
    have HB2 := Lib.hid ((below_drewN HB1.out _).trans (hb2.mono (by exact HB1.out.size)))
    clear hb2 hc1 hc2
    rcases hr with rfl | rfl
    · by_cases hbig : 100000000 < d
      · go_wp2_with fail
        go_ret
        exact ⟨rfl, HB2.out⟩
      · obtain ⟨R1, hR1⟩ : ∃ R, R = Mc.runT ts a input b := ⟨_, rfl⟩
        obtain ⟨R2, hR2⟩ : ∃ R, R = Mc.runT ts a input d := ⟨_, rfl⟩
        have hP := runT_more ts a input (few := b) (many := d) (by omega) (by omega)
        have hL := runT_len ts a input (many := d) (by omega)
        rw [← hR1, ← hR2] at hP
        rw [← hR2] at hL
        obtain ⟨O1, er1, n1⟩ := R1
        obtain ⟨O2, er2, n2⟩ := R2
        have HC1 := Lib.hid (fun (V : World) (hV : Below w.heap.size w V) => outs_of (mrun_f V A n c ts (HT.out.below hV) HTS.out a HAA.out Ai ni ci input (HI.out.below hV) HIW.out b HBB.out) (O := ofL O1) (er := er1) (n := n1) (by rw [← hR1, bl_ofL]))
        have HC2 := Lib.hid (fun (V : World) (hV : Below w.heap.size w V) => outs_of (mrun_f V A n c ts (HT.out.below hV) HTS.out a HAA.out Ai ni ci input (HI.out.below hV) HIW.out d HDD.out) (O := ofL O2) (er := er2) (n := n2) (by rw [← hR2, bl_ofL]))
        have HP := Lib.hid hP
        have HL := Lib.hid hL
        clear hR1 hR2 hP hL
        go_upto_region 8 with fail
        go_cut [9, 10] (fun s9 s10 wx => ∃ gX gY : Nat, s9 = .pointer (some ⟨gX, 0, none⟩) ∧ s10 = .pointer (some ⟨gY, 0, none⟩) ∧ Oc w.heap.size wx gX (ofL O1) er1 n1 ∧ Oc w.heap.size wx gY (ofL O2) er2 n2 ∧ Below w.heap.size w wx)
        case first =>
          have HA := Lib.hid (HA2.out.drew)
          have HB := Lib.hid (HB2.out.drew)
          have hS := HA.out.cell 0
          refine wp_region_X (fun V => V.cell? ⟨w.heap.size, 0, none⟩ = some (.int .i64 a)) 14 (by kernel_rfl) ?_
          generalize w2.drew = V0 at HA HB hS ⊢
          refine wpAnyX_pure (i := 0) (v := ?_) rfl (by kernel_rfl) (by kernel_rfl) (by kernel_rfl) (by kernel_rfl) (by kernel_rfl) (fun _ _ _ h => h) (Or.inl ⟨by rfl, ?_⟩) (fun _ => by exact hS) ?_
          rotate_left
          · intro w hSw; (try dsimp only at hSw); go_simp; (try with_reducible rfl)
          try simp only [List.getElem_toArray, List.getElem_cons_zero, Act.put, List.setIfInBounds_toArray, List.set_cons_zero, List.set_cons_succ]
          refine wpAnyX_pure (i := 1) (v := ?_) rfl (by kernel_rfl) (by kernel_rfl) (by kernel_rfl) (by kernel_rfl) (by kernel_rfl) (fun _ _ _ h => h) (Or.inl ⟨by rfl, ?_⟩) (fun _ => by exact hS) ?_
          rotate_left
          · intro w hSw; (try dsimp only at hSw); go_simp; (try with_reducible rfl)
          try simp only [List.getElem_toArray, List.getElem_cons_zero, List.getElem_cons_succ, Act.put, List.setIfInBounds_toArray, List.set_cons_zero, List.set_cons_succ]
          refine wpAnyX_take (i := 2) (v := ?_) rfl (by kernel_rfl) (by kernel_rfl) (by kernel_rfl) (by kernel_rfl) (by kernel_rfl) (fun _ _ _ h => h) (Or.inl ⟨by rfl, ?_⟩) (by exact hS) ?_
          rotate_left
          · intro w hSw; (try dsimp only at hSw); go_simp; (try with_reducible rfl)
          try simp only [List.getElem_toArray, List.getElem_cons_zero, List.getElem_cons_succ, Act.put, List.setIfInBounds_toArray, List.set_cons_zero, List.set_cons_succ]
          refine wpAnyX_pure (i := 3) (v := ?_) rfl (by kernel_rfl) (by kernel_rfl) (by kernel_rfl) (by kernel_rfl) (by kernel_rfl) (fun _ _ _ h => h) (Or.inl ⟨by rfl, ?_⟩) (fun _ => by exact hS) ?_
          rotate_left
          · intro w hSw; (try dsimp only at hSw); go_simp; (try with_reducible rfl)
          try simp only [List.getElem_toArray, List.getElem_cons_zero, List.getElem_cons_succ, Act.put, List.setIfInBounds_toArray, List.set_cons_zero, List.set_cons_succ]
          refine wpAnyX_pure (i := 4) (v := ?_) rfl (by kernel_rfl) (by kernel_rfl) (by kernel_rfl) (by kernel_rfl) (by kernel_rfl) (fun _ _ _ h => h) (Or.inl ⟨by rfl, ?_⟩) (fun _ => by exact hS) ?_
          rotate_left
          · intro w hSw; (try dsimp only at hSw); go_simp; (try with_reducible rfl)
          try simp only [List.getElem_toArray, List.getElem_cons_zero, List.getElem_cons_succ, Act.put, List.setIfInBounds_toArray, List.set_cons_zero, List.set_cons_succ]
          refine wpAnyX_pure (i := 6) (v := ?_) rfl (by kernel_rfl) (by kernel_rfl) (by kernel_rfl) (by kernel_rfl) (by kernel_rfl) (fun _ _ _ h => h) (Or.inl ⟨by rfl, ?_⟩) (fun _ => by exact hS) ?_
          rotate_left
          · intro w hSw; (try dsimp only at hSw); go_simp; (try with_reducible rfl)
          try simp only [List.getElem_toArray, List.getElem_cons_zero, List.getElem_cons_succ, Act.put, List.setIfInBounds_toArray, List.set_cons_zero, List.set_cons_succ]
          refine wpAnyX_pure (i := 7) (v := ?_) rfl (by kernel_rfl) (by kernel_rfl) (by kernel_rfl) (by kernel_rfl) (by kernel_rfl) (fun _ _ _ h => h) (Or.inl ⟨by rfl, ?_⟩) (fun _ => by exact hS) ?_
          rotate_left
          · intro w hSw; (try dsimp only at hSw); go_simp; (try with_reducible rfl)
          try simp only [List.getElem_toArray, List.getElem_cons_zero, List.getElem_cons_succ, Act.put, List.setIfInBounds_toArray, List.set_cons_zero, List.set_cons_succ]
          refine wpAnyX_take (i := 8) (v := ?_) rfl (by kernel_rfl) (by kernel_rfl) (by kernel_rfl) (by kernel_rfl) (by kernel_rfl) (fun _ _ _ h => h) (Or.inl ⟨by rfl, ?_⟩) (by exact hS) ?_
          rotate_left
          · intro w hSw; (try dsimp only at hSw); go_simp; (try with_reducible rfl)
          try simp only [List.getElem_toArray, List.getElem_cons_zero, List.getElem_cons_succ, Act.put, List.setIfInBounds_toArray, List.set_cons_zero, List.set_cons_succ]
          refine wpAnyX_pure (i := 9) (v := ?_) rfl (by kernel_rfl) (by kernel_rfl) (by kernel_rfl) (by kernel_rfl) (by kernel_rfl) (fun _ _ _ h => h) (Or.inl ⟨by rfl, ?_⟩) (fun _ => by exact hS) ?_
          rotate_left
          · intro w hSw; (try dsimp only at hSw); go_simp; (try with_reducible rfl)
          try simp only [List.getElem_toArray, List.getElem_cons_zero, List.getElem_cons_succ, Act.put, List.setIfInBounds_toArray, List.set_cons_zero, List.set_cons_succ]
          refine wpAnyX_pure (i := 10) (v := ?_) rfl (by kernel_rfl) (by kernel_rfl) (by kernel_rfl) (by kernel_rfl) (by kernel_rfl) (fun _ _ _ h => h) (Or.inl ⟨by rfl, ?_⟩) (fun _ => by exact hS) ?_
          rotate_left
          · intro w hSw; (try dsimp only at hSw); go_simp; (try with_reducible rfl)
          try simp only [List.getElem_toArray, List.getElem_cons_zero, List.getElem_cons_succ, Act.put, List.setIfInBounds_toArray, List.set_cons_zero, List.set_cons_succ]
          refine wpAnyX_three (i := 5) (j := 12) (k := 13) (by kernel_rfl) rfl rfl rfl (fun K hK => ?_) (fun K hK => ?_) (fun K hK => ?_)
          · go_simp
            refine (HC1.out _ HB.out).mono ?_
            rintro e V1 ⟨rfl, hb⟩
            have HA := Lib.hid (HA.out.below hb)
            have HB := Lib.hid (HB.out.trans (hb.mono HB.out.size))
            have hS := HA.out.cell 0
            clear hb
            refine hK.out _ _ (fun _ => by exact hS) ?_
            clear hK K
            try simp only [List.getElem_toArray, List.getElem_cons_zero, List.getElem_cons_succ, Act.put, List.setIfInBounds_toArray, List.set_cons_zero, List.set_cons_succ]
            refine wpAnyX_three (i := 11) (j := 12) (k := 13) (by kernel_rfl) rfl rfl rfl (fun K hK => ?_) (fun K hK => ?_) (fun K hK => ?_)
            · go_simp
              refine (HC2.out _ HB.out).mono ?_
              rintro e V2 ⟨rfl, hb⟩
              have HA := Lib.hid (HA.out.below hb)
              have HB := Lib.hid (HB.out.trans (hb.mono HB.out.size))
              have hS := HA.out.cell 0
              clear hb
              refine hK.out _ _ (fun _ => by exact hS) ?_
              clear hK K
              try simp only [List.getElem_toArray, List.getElem_cons_zero, List.getElem_cons_succ, Act.put, List.setIfInBounds_toArray, List.set_cons_zero, List.set_cons_succ]
              refine wpAnyX_two (i := 12) (j := 13) (by kernel_rfl) rfl rfl (fun K hK => ?_) (fun K hK => ?_)
              · go_simp
                have hN := Oc.fresh HB.out.size
                have hA := HA.out.alloc (.cells #[.string ⟨#[]⟩, .int .i64 0, .int .i64 0] 29)
                have hB := HB.out.alloc HB.out.size (.cells #[.string ⟨#[]⟩, .int .i64 0, .int .i64 0] 29)
                have hS := hA.cell 0
                refine hK.out _ _ (fun _ => by exact hS) ?_
                clear hK K hS
                try simp only [List.getElem_toArray, List.getElem_cons_zero, List.getElem_cons_succ, Act.put, List.setIfInBounds_toArray, List.set_cons_zero, List.set_cons_succ]
                generalize V2.alloc (.cells #[.string ⟨#[]⟩, .int .i64 0, .int .i64 0] 29) = V3 at hN hA hB ⊢
                generalize V2.heap.size = gX at hN ⊢
                have HX := Lib.hid hN
                have HA := Lib.hid hA
                have HB := Lib.hid hB
                have hS := HA.out.cell 0
                clear hN hA hB
                refine wpAnyX_one (i := 13) (by kernel_rfl) rfl (fun K hK => ?_)
                go_simp
                have hN := Oc.fresh HB.out.size
                have hX := HX.out.alloc (.cells #[.string ⟨#[]⟩, .int .i64 0, .int .i64 0] 29)
                have HD := Lib.hid (show gX ≠ V3.heap.size by have := HX.out.2.lt; omega)
                have hA := HA.out.alloc (.cells #[.string ⟨#[]⟩, .int .i64 0, .int .i64 0] 29)
                have hB := HB.out.alloc HB.out.size (.cells #[.string ⟨#[]⟩, .int .i64 0, .int .i64 0] 29)
                have hS := hA.cell 0
                refine hK.out _ _ (fun _ => by exact hS) ?_
                clear hK K hS
                try simp only [List.getElem_toArray, List.getElem_cons_zero, List.getElem_cons_succ, Act.put, List.setIfInBounds_toArray, List.set_cons_zero, List.set_cons_succ]
                generalize V3.alloc (.cells #[.string ⟨#[]⟩, .int .i64 0, .int .i64 0] 29) = V4 at hN hA hB hX ⊢
                generalize V3.heap.size = gY at hN HD ⊢
                have HY := Lib.hid hN
                have HX := Lib.hid hX
                have HA := Lib.hid hA
                have HB := Lib.hid hB
                have hS := HA.out.cell 0
                clear hN hA hB hX
                have HG := Lib.hid HX.out.1
                have HH := Lib.hid HY.out.1
                refine wpAnyX_one (i := 14) (by kernel_rfl) rfl (fun K hK => ?_)
                have hB := HX.out.2
                have hb0 := hB.cell 0
                have hb1 := hB.cell 1
                have hb2 := hB.cell 2
                simp only [List.getElem?_toArray, List.getElem?_cons_zero, List.getElem?_cons_succ] at hb0 hb1 hb2
                have hf0 := hB.frozen 0
                have hf1 := hB.frozen 1
                have hf2 := hB.frozen 2
                have hlt := hB.lt
                clear hB
                go_simp
                clear hb0 hb1 hb2 hf0 hf1 hf2 hlt
                refine hK.out _ _ (fun h => absurd h (by decide)) ?_
                clear hK K
                try simp only [List.getElem_toArray, List.getElem_cons_zero, List.getElem_cons_succ, Act.put, List.setIfInBounds_toArray, List.set_cons_zero, List.set_cons_succ]
                have HB := Lib.hid (below_set HB.out HG.out (.string (ofL O1)) (.int .i64 er1) (.int .i64 n1))
                have HX := Lib.hid (HX.out.set (ofL O1) er1 n1)
                have HY := Lib.hid (HY.out.far (by have := HD.out; first | exact this | exact Ne.symm this) (.string (ofL O1)) (.int .i64 er1) (.int .i64 n1))
                refine wpAnyX_one (i := 15) (by kernel_rfl) rfl (fun K hK => ?_)
                have hB := HY.out.2
                have hb0 := hB.cell 0
                have hb1 := hB.cell 1
                have hb2 := hB.cell 2
                simp only [List.getElem?_toArray, List.getElem?_cons_zero, List.getElem?_cons_succ] at hb0 hb1 hb2
                have hf0 := hB.frozen 0
                have hf1 := hB.frozen 1
                have hf2 := hB.frozen 2
                have hlt := hB.lt
                clear hB
                go_simp
                clear hb0 hb1 hb2 hf0 hf1 hf2 hlt
                refine hK.out _ _ (fun h => absurd h (by decide)) ?_
                clear hK K
                try simp only [List.getElem_toArray, List.getElem_cons_zero, List.getElem_cons_succ, Act.put, List.setIfInBounds_toArray, List.set_cons_zero, List.set_cons_succ]
                refine wpAnyX_done (by kernel_rfl) ?_ _
                have HX := Lib.hid (HX.out.far (by have := HD.out; first | exact this | exact Ne.symm this) (.string (ofL O2)) (.int .i64 er2) (.int .i64 n2))
                have HY := Lib.hid (HY.out.set (ofL O2) er2 n2)
                have HB := Lib.hid (below_set HB.out HH.out (.string (ofL O2)) (.int .i64 er2) (.int .i64 n2))
                go_wp2_with fail
                go_meet
                exact ⟨gX, gY, rfl, rfl, HX.out, HY.out, HB.out⟩
              · go_simp
                have hN := Oc.fresh HB.out.size
                have hA := HA.out.alloc (.cells #[.string ⟨#[]⟩, .int .i64 0, .int .i64 0] 29)
                have hB := HB.out.alloc HB.out.size (.cells #[.string ⟨#[]⟩, .int .i64 0, .int .i64 0] 29)
                have hS := hA.cell 0
                refine hK.out _ _ (fun _ => by exact hS) ?_
                clear hK K hS
                try simp only [List.getElem_toArray, List.getElem_cons_zero, List.getElem_cons_succ, Act.put, List.setIfInBounds_toArray, List.set_cons_zero, List.set_cons_succ]
                generalize V2.alloc (.cells #[.string ⟨#[]⟩, .int .i64 0, .int .i64 0] 29) = V3 at hN hA hB ⊢
                generalize V2.heap.size = gY at hN ⊢
                have HY := Lib.hid hN
                have HA := Lib.hid hA
                have HB := Lib.hid hB
                have hS := HA.out.cell 0
                clear hN hA hB
                refine wpAnyX_one (i := 12) (by kernel_rfl) rfl (fun K hK => ?_)
                go_simp
                have hN := Oc.fresh HB.out.size
                have hY := HY.out.alloc (.cells #[.string ⟨#[]⟩, .int .i64 0, .int .i64 0] 29)
                have HD := Lib.hid (show gY ≠ V3.heap.size by have := HY.out.2.lt; omega)
                have hA := HA.out.alloc (.cells #[.string ⟨#[]⟩, .int .i64 0, .int .i64 0] 29)
                have hB := HB.out.alloc HB.out.size (.cells #[.string ⟨#[]⟩, .int .i64 0, .int .i64 0] 29)
                have hS := hA.cell 0
                refine hK.out _ _ (fun _ => by exact hS) ?_
                clear hK K hS
                try simp only [List.getElem_toArray, List.getElem_cons_zero, List.getElem_cons_succ, Act.put, List.setIfInBounds_toArray, List.set_cons_zero, List.set_cons_succ]
                generalize V3.alloc (.cells #[.string ⟨#[]⟩, .int .i64 0, .int .i64 0] 29) = V4 at hN hA hB hY ⊢
                generalize V3.heap.size = gX at hN HD ⊢
                have HX := Lib.hid hN
                have HY := Lib.hid hY
                have HA := Lib.hid hA
                have HB := Lib.hid hB
                have hS := HA.out.cell 0
                clear hN hA hB hY
                have HG := Lib.hid HX.out.1
                have HH := Lib.hid HY.out.1
                refine wpAnyX_one (i := 14) (by kernel_rfl) rfl (fun K hK => ?_)
                have hB := HX.out.2
                have hb0 := hB.cell 0
                have hb1 := hB.cell 1
                have hb2 := hB.cell 2
                simp only [List.getElem?_toArray, List.getElem?_cons_zero, List.getElem?_cons_succ] at hb0 hb1 hb2
                have hf0 := hB.frozen 0
                have hf1 := hB.frozen 1
                have hf2 := hB.frozen 2
                have hlt := hB.lt
                clear hB
                go_simp
                clear hb0 hb1 hb2 hf0 hf1 hf2 hlt
                refine hK.out _ _ (fun h => absurd h (by decide)) ?_
                clear hK K
                try simp only [List.getElem_toArray, List.getElem_cons_zero, List.getElem_cons_succ, Act.put, List.setIfInBounds_toArray, List.set_cons_zero, List.set_cons_succ]
                have HB := Lib.hid (below_set HB.out HG.out (.string (ofL O1)) (.int .i64 er1) (.int .i64 n1))
                have HX := Lib.hid (HX.out.set (ofL O1) er1 n1)
                have HY := Lib.hid (HY.out.far (by have := HD.out; first | exact this | exact Ne.symm this) (.string (ofL O1)) (.int .i64 er1) (.int .i64 n1))
                refine wpAnyX_one (i := 15) (by kernel_rfl) rfl (fun K hK => ?_)
                have hB := HY.out.2
                have hb0 := hB.cell 0
                have hb1 := hB.cell 1
                have hb2 := hB.cell 2
                simp only [List.getElem?_toArray, List.getElem?_cons_zero, List.getElem?_cons_succ] at hb0 hb1 hb2
                have hf0 := hB.frozen 0
                have hf1 := hB.frozen 1
                have hf2 := hB.frozen 2
                have hlt := hB.lt
                clear hB
                go_simp
                clear hb0 hb1 hb2 hf0 hf1 hf2 hlt
                refine hK.out _ _ (fun h => absurd h (by decide)) ?_
                clear hK K
                try simp only [List.getElem_toArray, List.getElem_cons_zero, List.getElem_cons_succ, Act.put, List.setIfInBounds_toArray, List.set_cons_zero, List.set_cons_succ]
                refine wpAnyX_done (by kernel_rfl) ?_ _
                have HX := Lib.hid (HX.out.far (by have := HD.out; first | exact this | exact Ne.symm this) (.string (ofL O2)) (.int .i64 er2) (.int .i64 n2))
                have HY := Lib.hid (HY.out.set (ofL O2) er2 n2)
                have HB := Lib.hid (below_set HB.out HH.out (.string (ofL O2)) (.int .i64 er2) (.int .i64 n2))
                go_wp2_with fail
                go_meet
                exact ⟨gX, gY, rfl, rfl, HX.out, HY.out, HB.out⟩
            · go_simp
              have hN := Oc.fresh HB.out.size
              have hA := HA.out.alloc (.cells #[.string ⟨#[]⟩, .int .i64 0, .int .i64 0] 29)
              have hB := HB.out.alloc HB.out.size (.cells #[.string ⟨#[]⟩, .int .i64 0, .int .i64 0] 29)
              have hS := hA.cell 0
              refine hK.out _ _ (fun _ => by exact hS) ?_
              clear hK K hS
              try simp only [List.getElem_toArray, List.getElem_cons_zero, List.getElem_cons_succ, Act.put, List.setIfInBounds_toArray, List.set_cons_zero, List.set_cons_succ]
              generalize V1.alloc (.cells #[.string ⟨#[]⟩, .int .i64 0, .int .i64 0] 29) = V2 at hN hA hB ⊢
              generalize V1.heap.size = gX at hN ⊢
              have HX := Lib.hid hN
              have HA := Lib.hid hA
              have HB := Lib.hid hB
              have hS := HA.out.cell 0
              clear hN hA hB
              refine wpAnyX_two (i := 11) (j := 13) (by kernel_rfl) rfl rfl (fun K hK => ?_) (fun K hK => ?_)
              · go_simp
                refine (HC2.out _ HB.out).mono ?_
                rintro e V3 ⟨rfl, hb⟩
                have HA := Lib.hid (HA.out.below hb)
                have HX := Lib.hid (HX.out.below hb)
                have HB := Lib.hid (HB.out.trans (hb.mono HB.out.size))
                have hS := HA.out.cell 0
                clear hb
                refine hK.out _ _ (fun _ => by exact hS) ?_
                clear hK K
                try simp only [List.getElem_toArray, List.getElem_cons_zero, List.getElem_cons_succ, Act.put, List.setIfInBounds_toArray, List.set_cons_zero, List.set_cons_succ]
                refine wpAnyX_one (i := 13) (by kernel_rfl) rfl (fun K hK => ?_)
                go_simp
                have hN := Oc.fresh HB.out.size
                have hX := HX.out.alloc (.cells #[.string ⟨#[]⟩, .int .i64 0, .int .i64 0] 29)
                have HD := Lib.hid (show gX ≠ V3.heap.size by have := HX.out.2.lt; omega)
                have hA := HA.out.alloc (.cells #[.string ⟨#[]⟩, .int .i64 0, .int .i64 0] 29)
                have hB := HB.out.alloc HB.out.size (.cells #[.string ⟨#[]⟩, .int .i64 0, .int .i64 0] 29)
                have hS := hA.cell 0
                refine hK.out _ _ (fun _ => by exact hS) ?_
                clear hK K hS
                try simp only [List.getElem_toArray, List.getElem_cons_zero, List.getElem_cons_succ, Act.put, List.setIfInBounds_toArray, List.set_cons_zero, List.set_cons_succ]
                generalize V3.alloc (.cells #[.string ⟨#[]⟩, .int .i64 0, .int .i64 0] 29) = V4 at hN hA hB hX ⊢
                generalize V3.heap.size = gY at hN HD ⊢
                have HY := Lib.hid hN
                have HX := Lib.hid hX
                have HA := Lib.hid hA
                have HB := Lib.hid hB
                have hS := HA.out.cell 0
                clear hN hA hB hX
                have HG := Lib.hid HX.out.1
                have HH := Lib.hid HY.out.1
                refine wpAnyX_one (i := 14) (by kernel_rfl) rfl (fun K hK => ?_)
                have hB := HX.out.2
                have hb0 := hB.cell 0
                have hb1 := hB.cell 1
                have hb2 := hB.cell 2
                simp only [List.getElem?_toArray, List.getElem?_cons_zero, List.getElem?_cons_succ] at hb0 hb1 hb2
                have hf0 := hB.frozen 0
                have hf1 := hB.frozen 1
                have hf2 := hB.frozen 2
                have hlt := hB.lt
                clear hB
                go_simp
                clear hb0 hb1 hb2 hf0 hf1 hf2 hlt
                refine hK.out _ _ (fun h => absurd h (by decide)) ?_
                clear hK K
                try simp only [List.getElem_toArray, List.getElem_cons_zero, List.getElem_cons_succ, Act.put, List.setIfInBounds_toArray, List.set_cons_zero, List.set_cons_succ]
                have HB := Lib.hid (below_set HB.out HG.out (.string (ofL O1)) (.int .i64 er1) (.int .i64 n1))
                have HX := Lib.hid (HX.out.set (ofL O1) er1 n1)
                have HY := Lib.hid (HY.out.far (by have := HD.out; first | exact this | exact Ne.symm this) (.string (ofL O1)) (.int .i64 er1) (.int .i64 n1))
                refine wpAnyX_one (i := 15) (by kernel_rfl) rfl (fun K hK => ?_)
                have hB := HY.out.2
                have hb0 := hB.cell 0
                have hb1 := hB.cell 1
                have hb2 := hB.cell 2
                simp only [List.getElem?_toArray, List.getElem?_cons_zero, List.getElem?_cons_succ] at hb0 hb1 hb2
                have hf0 := hB.frozen 0
                have hf1 := hB.frozen 1
                have hf2 := hB.frozen 2
                have hlt := hB.lt
                clear hB
                go_simp
                clear hb0 hb1 hb2 hf0 hf1 hf2 hlt
                refine hK.out _ _ (fun h => absurd h (by decide)) ?_
                clear hK K
                try simp only [List.getElem_toArray, List.getElem_cons_zero, List.getElem_cons_succ, Act.put, List.setIfInBounds_toArray, List.set_cons_zero, List.set_cons_succ]
                refine wpAnyX_done (by kernel_rfl) ?_ _
                have HX := Lib.hid (HX.out.far (by have := HD.out; first | exact this | exact Ne.symm this) (.string (ofL O2)) (.int .i64 er2) (.int .i64 n2))
                have HY := Lib.hid (HY.out.set (ofL O2) er2 n2)
                have HB := Lib.hid (below_set HB.out HH.out (.string (ofL O2)) (.int .i64 er2) (.int .i64 n2))
                go_wp2_with fail
                go_meet
                exact ⟨gX, gY, rfl, rfl, HX.out, HY.out, HB.out⟩
              · go_simp
                have hN := Oc.fresh HB.out.size
                have hX := HX.out.alloc (.cells #[.string ⟨#[]⟩, .int .i64 0, .int .i64 0] 29)
                have HD := Lib.hid (show gX ≠ V2.heap.size by have := HX.out.2.lt; omega)
                have hA := HA.out.alloc (.cells #[.string ⟨#[]⟩, .int .i64 0, .int .i64 0] 29)
                have hB := HB.out.alloc HB.out.size (.cells #[.string ⟨#[]⟩, .int .i64 0, .int .i64 0] 29)
                have hS := hA.cell 0
                refine hK.out _ _ (fun _ => by exact hS) ?_
                clear hK K hS
                try simp only [List.getElem_toArray, List.getElem_cons_zero, List.getElem_cons_succ, Act.put, List.setIfInBounds_toArray, List.set_cons_zero, List.set_cons_succ]
                generalize V2.alloc (.cells #[.string ⟨#[]⟩, .int .i64 0, .int .i64 0] 29) = V3 at hN hA hB hX ⊢
                generalize V2.heap.size = gY at hN HD ⊢
                have HY := Lib.hid hN
                have HX := Lib.hid hX
                have HA := Lib.hid hA
                have HB := Lib.hid hB
                have hS := HA.out.cell 0
                clear hN hA hB hX
                refine wpAnyX_one (i := 11) (by kernel_rfl) rfl (fun K hK => ?_)
                go_simp
                refine (HC2.out _ HB.out).mono ?_
                rintro e V4 ⟨rfl, hb⟩
                have HA := Lib.hid (HA.out.below hb)
                have HX := Lib.hid (HX.out.below hb)
                have HY := Lib.hid (HY.out.below hb)
                have HB := Lib.hid (HB.out.trans (hb.mono HB.out.size))
                have hS := HA.out.cell 0
                clear hb
                refine hK.out _ _ (fun _ => by exact hS) ?_
                clear hK K
                try simp only [List.getElem_toArray, List.getElem_cons_zero, List.getElem_cons_succ, Act.put, List.setIfInBounds_toArray, List.set_cons_zero, List.set_cons_succ]
                have HG := Lib.hid HX.out.1
                have HH := Lib.hid HY.out.1
                refine wpAnyX_one (i := 14) (by kernel_rfl) rfl (fun K hK => ?_)
                have hB := HX.out.2
                have hb0 := hB.cell 0
                have hb1 := hB.cell 1
                have hb2 := hB.cell 2
                simp only [List.getElem?_toArray, List.getElem?_cons_zero, List.getElem?_cons_succ] at hb0 hb1 hb2
                have hf0 := hB.frozen 0
                have hf1 := hB.frozen 1
                have hf2 := hB.frozen 2
                have hlt := hB.lt
                clear hB
                go_simp
                clear hb0 hb1 hb2 hf0 hf1 hf2 hlt
                refine hK.out _ _ (fun h => absurd h (by decide)) ?_
                clear hK K
                try simp only [List.getElem_toArray, List.getElem_cons_zero, List.getElem_cons_succ, Act.put, List.setIfInBounds_toArray, List.set_cons_zero, List.set_cons_succ]
                have HB := Lib.hid (below_set HB.out HG.out (.string (ofL O1)) (.int .i64 er1) (.int .i64 n1))
                have HX := Lib.hid (HX.out.set (ofL O1) er1 n1)
                have HY := Lib.hid (HY.out.far (by have := HD.out; first | exact this | exact Ne.symm this) (.string (ofL O1)) (.int .i64 er1) (.int .i64 n1))
                refine wpAnyX_one (i := 15) (by kernel_rfl) rfl (fun K hK => ?_)
                have hB := HY.out.2
                have hb0 := hB.cell 0
                have hb1 := hB.cell 1
                have hb2 := hB.cell 2
                simp only [List.getElem?_toArray, List.getElem?_cons_zero, List.getElem?_cons_succ] at hb0 hb1 hb2
                have hf0 := hB.frozen 0
                have hf1 := hB.frozen 1
                have hf2 := hB.frozen 2
                have hlt := hB.lt
                clear hB
                go_simp
                clear hb0 hb1 hb2 hf0 hf1 hf2 hlt
                refine hK.out _ _ (fun h => absurd h (by decide)) ?_
                clear hK K
                try simp only [List.getElem_toArray, List.getElem_cons_zero, List.getElem_cons_succ, Act.put, List.setIfInBounds_toArray, List.set_cons_zero, List.set_cons_succ]
                refine wpAnyX_done (by kernel_rfl) ?_ _
                have HX := Lib.hid (HX.out.far (by have := HD.out; first | exact this | exact Ne.symm this) (.string (ofL O2)) (.int .i64 er2) (.int .i64 n2))
                have HY := Lib.hid (HY.out.set (ofL O2) er2 n2)
                have HB := Lib.hid (below_set HB.out HH.out (.string (ofL O2)) (.int .i64 er2) (.int .i64 n2))
                go_wp2_with fail
                go_meet
                exact ⟨gX, gY, rfl, rfl, HX.out, HY.out, HB.out⟩
            · go_simp
              have hN := Oc.fresh HB.out.size
              have hA := HA.out.alloc (.cells #[.string ⟨#[]⟩, .int .i64 0, .int .i64 0] 29)
              have hB := HB.out.alloc HB.out.size (.cells #[.string ⟨#[]⟩, .int .i64 0, .int .i64 0] 29)
              have hS := hA.cell 0
              refine hK.out _ _ (fun _ => by exact hS) ?_
              clear hK K hS
              try simp only [List.getElem_toArray, List.getElem_cons_zero, List.getElem_cons_succ, Act.put, List.setIfInBounds_toArray, List.set_cons_zero, List.set_cons_succ]
              generalize V1.alloc (.cells #[.string ⟨#[]⟩, .int .i64 0, .int .i64 0] 29) = V2 at hN hA hB ⊢
              generalize V1.heap.size = gY at hN ⊢
              have HY := Lib.hid hN
              have HA := Lib.hid hA
              have HB := Lib.hid hB
              have hS := HA.out.cell 0
              clear hN hA hB
              refine wpAnyX_two (i := 11) (j := 12) (by kernel_rfl) rfl rfl (fun K hK => ?_) (fun K hK => ?_)
              · go_simp
                refine (HC2.out _ HB.out).mono ?_
                rintro e V3 ⟨rfl, hb⟩
                have HA := Lib.hid (HA.out.below hb)
                have HY := Lib.hid (HY.out.below hb)
                have HB := Lib.hid (HB.out.trans (hb.mono HB.out.size))
                have hS := HA.out.cell 0
                clear hb
                refine hK.out _ _ (fun _ => by exact hS) ?_
                clear hK K
                try simp only [List.getElem_toArray, List.getElem_cons_zero, List.getElem_cons_succ, Act.put, List.setIfInBounds_toArray, List.set_cons_zero, List.set_cons_succ]
                refine wpAnyX_one (i := 12) (by kernel_rfl) rfl (fun K hK => ?_)
                go_simp
                have hN := Oc.fresh HB.out.size
                have hY := HY.out.alloc (.cells #[.string ⟨#[]⟩, .int .i64 0, .int .i64 0] 29)
                have HD := Lib.hid (show gY ≠ V3.heap.size by have := HY.out.2.lt; omega)
                have hA := HA.out.alloc (.cells #[.string ⟨#[]⟩, .int .i64 0, .int .i64 0] 29)
                have hB := HB.out.alloc HB.out.size (.cells #[.string ⟨#[]⟩, .int .i64 0, .int .i64 0] 29)
                have hS := hA.cell 0
                refine hK.out _ _ (fun _ => by exact hS) ?_
                clear hK K hS
                try simp only [List.getElem_toArray, List.getElem_cons_zero, List.getElem_cons_succ, Act.put, List.setIfInBounds_toArray, List.set_cons_zero, List.set_cons_succ]
                generalize V3.alloc (.cells #[.string ⟨#[]⟩, .int .i64 0, .int .i64 0] 29) = V4 at hN hA hB hY ⊢
                generalize V3.heap.size = gX at hN HD ⊢
                have HX := Lib.hid hN
                have HY := Lib.hid hY
                have HA := Lib.hid hA
                have HB := Lib.hid hB
                have hS := HA.out.cell 0
                clear hN hA hB hY
                have HG := Lib.hid HX.out.1
                have HH := Lib.hid HY.out.1
                refine wpAnyX_one (i := 14) (by kernel_rfl) rfl (fun K hK => ?_)
                have hB := HX.out.2
                have hb0 := hB.cell 0
                have hb1 := hB.cell 1
                have hb2 := hB.cell 2
                simp only [List.getElem?_toArray, List.getElem?_cons_zero, List.getElem?_cons_succ] at hb0 hb1 hb2
                have hf0 := hB.frozen 0
                have hf1 := hB.frozen 1
                have hf2 := hB.frozen 2
                have hlt := hB.lt
                clear hB
                go_simp
                clear hb0 hb1 hb2 hf0 hf1 hf2 hlt
                refine hK.out _ _ (fun h => absurd h (by decide)) ?_
                clear hK K
                try simp only [List.getElem_toArray, List.getElem_cons_zero, List.getElem_cons_succ, Act.put, List.setIfInBounds_toArray, List.set_cons_zero, List.set_cons_succ]
                have HB := Lib.hid (below_set HB.out HG.out (.string (ofL O1)) (.int .i64 er1) (.int .i64 n1))
                have HX := Lib.hid (HX.out.set (ofL O1) er1 n1)
                have HY := Lib.hid (HY.out.far (by have := HD.out; first | exact this | exact Ne.symm this) (.string (ofL O1)) (.int .i64 er1) (.int .i64 n1))
                refine wpAnyX_one (i := 15) (by kernel_rfl) rfl (fun K hK => ?_)
                have hB := HY.out.2
                have hb0 := hB.cell 0
                have hb1 := hB.cell 1
                have hb2 := hB.cell 2
                simp only [List.getElem?_toArray, List.getElem?_cons_zero, List.getElem?_cons_succ] at hb0 hb1 hb2
                have hf0 := hB.frozen 0
                have hf1 := hB.frozen 1
                have hf2 := hB.frozen 2
                have hlt := hB.lt
                clear hB
                go_simp
                clear hb0 hb1 hb2 hf0 hf1 hf2 hlt
                refine hK.out _ _ (fun h => absurd h (by decide)) ?_
                clear hK K
                try simp only [List.getElem_toArray, List.getElem_cons_zero, List.getElem_cons_succ, Act.put, List.setIfInBounds_toArray, List.set_cons_zero, List.set_cons_succ]
                refine wpAnyX_done (by kernel_rfl) ?_ _
                have HX := Lib.hid (HX.out.far (by have := HD.out; first | exact this | exact Ne.symm this) (.string (ofL O2)) (.int .i64 er2) (.int .i64 n2))
                have HY := Lib.hid (HY.out.set (ofL O2) er2 n2)
                have HB := Lib.hid (below_set HB.out HH.out (.string (ofL O2)) (.int .i64 er2) (.int .i64 n2))
                go_wp2_with fail
                go_meet
                exact ⟨gX, gY, rfl, rfl, HX.out, HY.out, HB.out⟩
              · go_simp
                have hN := Oc.fresh HB.out.size
                have hY := HY.out.alloc (.cells #[.string ⟨#[]⟩, .int .i64 0, .int .i64 0] 29)
                have HD := Lib.hid (show gY ≠ V2.heap.size by have := HY.out.2.lt; omega)
                have hA := HA.out.alloc (.cells #[.string ⟨#[]⟩, .int .i64 0, .int .i64 0] 29)
                have hB := HB.out.alloc HB.out.size (.cells #[.string ⟨#[]⟩, .int .i64 0, .int .i64 0] 29)
                have hS := hA.cell 0
                refine hK.out _ _ (fun _ => by exact hS) ?_
                clear hK K hS
                try simp only [List.getElem_toArray, List.getElem_cons_zero, List.getElem_cons_succ, Act.put, List.setIfInBounds_toArray, List.set_cons_zero, List.set_cons_succ]
                generalize V2.alloc (.cells #[.string ⟨#[]⟩, .int .i64 0, .int .i64 0] 29) = V3 at hN hA hB hY ⊢
                generalize V2.heap.size = gX at hN HD ⊢
                have HX := Lib.hid hN
                have HY := Lib.hid hY
                have HA := Lib.hid hA
                have HB := Lib.hid hB
                have hS := HA.out.cell 0
                clear hN hA hB hY
                refine wpAnyX_one (i := 11) (by kernel_rfl) rfl (fun K hK => ?_)
                go_simp
                refine (HC2.out _ HB.out).mono ?_
                rintro e V4 ⟨rfl, hb⟩
                have HA := Lib.hid (HA.out.below hb)
                have HX := Lib.hid (HX.out.below hb)
                have HY := Lib.hid (HY.out.below hb)
                have HB := Lib.hid (HB.out.trans (hb.mono HB.out.size))
                have hS := HA.out.cell 0
                clear hb
                refine hK.out _ _ (fun _ => by exact hS) ?_
                clear hK K
                try simp only [List.getElem_toArray, List.getElem_cons_zero, List.getElem_cons_succ, Act.put, List.setIfInBounds_toArray, List.set_cons_zero, List.set_cons_succ]
                have HG := Lib.hid HX.out.1
                have HH := Lib.hid HY.out.1
                refine wpAnyX_one (i := 14) (by kernel_rfl) rfl (fun K hK => ?_)
                have hB := HX.out.2
                have hb0 := hB.cell 0
                have hb1 := hB.cell 1
                have hb2 := hB.cell 2
                simp only [List.getElem?_toArray, List.getElem?_cons_zero, List.getElem?_cons_succ] at hb0 hb1 hb2
                have hf0 := hB.frozen 0
                have hf1 := hB.frozen 1
                have hf2 := hB.frozen 2
                have hlt := hB.lt
                clear hB
                go_simp
                clear hb0 hb1 hb2 hf0 hf1 hf2 hlt
                refine hK.out _ _ (fun h => absurd h (by decide)) ?_
                clear hK K
                try simp only [List.getElem_toArray, List.getElem_cons_zero, List.getElem_cons_succ, Act.put, List.setIfInBounds_toArray, List.set_cons_zero, List.set_cons_succ]
                have HB := Lib.hid (below_set HB.out HG.out (.string (ofL O1)) (.int .i64 er1) (.int .i64 n1))
                have HX := Lib.hid (HX.out.set (ofL O1) er1 n1)
                have HY := Lib.hid (HY.out.far (by have := HD.out; first | exact this | exact Ne.symm this) (.string (ofL O1)) (.int .i64 er1) (.int .i64 n1))
                refine wpAnyX_one (i := 15) (by kernel_rfl) rfl (fun K hK => ?_)
                have hB := HY.out.2
                have hb0 := hB.cell 0
                have hb1 := hB.cell 1
                have hb2 := hB.cell 2
                simp only [List.getElem?_toArray, List.getElem?_cons_zero, List.getElem?_cons_succ] at hb0 hb1 hb2
                have hf0 := hB.frozen 0
                have hf1 := hB.frozen 1
                have hf2 := hB.frozen 2
                have hlt := hB.lt
                clear hB
                go_simp
                clear hb0 hb1 hb2 hf0 hf1 hf2 hlt
                refine hK.out _ _ (fun h => absurd h (by decide)) ?_
                clear hK K
                try simp only [List.getElem_toArray, List.getElem_cons_zero, List.getElem_cons_succ, Act.put, List.setIfInBounds_toArray, List.set_cons_zero, List.set_cons_succ]
                refine wpAnyX_done (by kernel_rfl) ?_ _
                have HX := Lib.hid (HX.out.far (by have := HD.out; first | exact this | exact Ne.symm this) (.string (ofL O2)) (.int .i64 er2) (.int .i64 n2))
                have HY := Lib.hid (HY.out.set (ofL O2) er2 n2)
                have HB := Lib.hid (below_set HB.out HH.out (.string (ofL O2)) (.int .i64 er2) (.int .i64 n2))
                go_wp2_with fail
                go_meet
                exact ⟨gX, gY, rfl, rfl, HX.out, HY.out, HB.out⟩
          · go_simp
            have hN := Oc.fresh HB.out.size
            have hA := HA.out.alloc (.cells #[.string ⟨#[]⟩, .int .i64 0, .int .i64 0] 29)
            have hB := HB.out.alloc HB.out.size (.cells #[.string ⟨#[]⟩, .int .i64 0, .int .i64 0] 29)
            have hS := hA.cell 0
            refine hK.out _ _ (fun _ => by exact hS) ?_
            clear hK K hS
            try simp only [List.getElem_toArray, List.getElem_cons_zero, List.getElem_cons_succ, Act.put, List.setIfInBounds_toArray, List.set_cons_zero, List.set_cons_succ]
            generalize V0.alloc (.cells #[.string ⟨#[]⟩, .int .i64 0, .int .i64 0] 29) = V1 at hN hA hB ⊢
            generalize V0.heap.size = gX at hN ⊢
            have HX := Lib.hid hN
            have HA := Lib.hid hA
            have HB := Lib.hid hB
            have hS := HA.out.cell 0
            clear hN hA hB
            refine wpAnyX_two (i := 5) (j := 13) (by kernel_rfl) rfl rfl (fun K hK => ?_) (fun K hK => ?_)
            · go_simp
              refine (HC1.out _ HB.out).mono ?_
              rintro e V2 ⟨rfl, hb⟩
              have HA := Lib.hid (HA.out.below hb)
              have HX := Lib.hid (HX.out.below hb)
              have HB := Lib.hid (HB.out.trans (hb.mono HB.out.size))
              have hS := HA.out.cell 0
              clear hb
              refine hK.out _ _ (fun _ => by exact hS) ?_
              clear hK K
              try simp only [List.getElem_toArray, List.getElem_cons_zero, List.getElem_cons_succ, Act.put, List.setIfInBounds_toArray, List.set_cons_zero, List.set_cons_succ]
              refine wpAnyX_two (i := 11) (j := 13) (by kernel_rfl) rfl rfl (fun K hK => ?_) (fun K hK => ?_)
              · go_simp
                refine (HC2.out _ HB.out).mono ?_
                rintro e V3 ⟨rfl, hb⟩
                have HA := Lib.hid (HA.out.below hb)
                have HX := Lib.hid (HX.out.below hb)
                have HB := Lib.hid (HB.out.trans (hb.mono HB.out.size))
                have hS := HA.out.cell 0
                clear hb
                refine hK.out _ _ (fun _ => by exact hS) ?_
                clear hK K
                try simp only [List.getElem_toArray, List.getElem_cons_zero, List.getElem_cons_succ, Act.put, List.setIfInBounds_toArray, List.set_cons_zero, List.set_cons_succ]
                refine wpAnyX_one (i := 13) (by kernel_rfl) rfl (fun K hK => ?_)
                go_simp
                have hN := Oc.fresh HB.out.size
                have hX := HX.out.alloc (.cells #[.string ⟨#[]⟩, .int .i64 0, .int .i64 0] 29)
                have HD := Lib.hid (show gX ≠ V3.heap.size by have := HX.out.2.lt; omega)
                have hA := HA.out.alloc (.cells #[.string ⟨#[]⟩, .int .i64 0, .int .i64 0] 29)
                have hB := HB.out.alloc HB.out.size (.cells #[.string ⟨#[]⟩, .int .i64 0, .int .i64 0] 29)
                have hS := hA.cell 0
                refine hK.out _ _ (fun _ => by exact hS) ?_
                clear hK K hS
                try simp only [List.getElem_toArray, List.getElem_cons_zero, List.getElem_cons_succ, Act.put, List.setIfInBounds_toArray, List.set_cons_zero, List.set_cons_succ]
                generalize V3.alloc (.cells #[.string ⟨#[]⟩, .int .i64 0, .int .i64 0] 29) = V4 at hN hA hB hX ⊢
                generalize V3.heap.size = gY at hN HD ⊢
                have HY := Lib.hid hN
                have HX := Lib.hid hX
                have HA := Lib.hid hA
                have HB := Lib.hid hB
                have hS := HA.out.cell 0
                clear hN hA hB hX
                have HG := Lib.hid HX.out.1
                have HH := Lib.hid HY.out.1
                refine wpAnyX_one (i := 14) (by kernel_rfl) rfl (fun K hK => ?_)
                have hB := HX.out.2
                have hb0 := hB.cell 0
                have hb1 := hB.cell 1
                have hb2 := hB.cell 2
                simp only [List.getElem?_toArray, List.getElem?_cons_zero, List.getElem?_cons_succ] at hb0 hb1 hb2
                have hf0 := hB.frozen 0
                have hf1 := hB.frozen 1
                have hf2 := hB.frozen 2
                have hlt := hB.lt
                clear hB
                go_simp
                clear hb0 hb1 hb2 hf0 hf1 hf2 hlt
                refine hK.out _ _ (fun h => absurd h (by decide)) ?_
                clear hK K
                try simp only [List.getElem_toArray, List.getElem_cons_zero, List.getElem_cons_succ, Act.put, List.setIfInBounds_toArray, List.set_cons_zero, List.set_cons_succ]
                have HB := Lib.hid (below_set HB.out HG.out (.string (ofL O1)) (.int .i64 er1) (.int .i64 n1))
                have HX := Lib.hid (HX.out.set (ofL O1) er1 n1)
                have HY := Lib.hid (HY.out.far (by have := HD.out; first | exact this | exact Ne.symm this) (.string (ofL O1)) (.int .i64 er1) (.int .i64 n1))
                refine wpAnyX_one (i := 15) (by kernel_rfl) rfl (fun K hK => ?_)
                have hB := HY.out.2
                have hb0 := hB.cell 0
                have hb1 := hB.cell 1
                have hb2 := hB.cell 2
                simp only [List.getElem?_toArray, List.getElem?_cons_zero, List.getElem?_cons_succ] at hb0 hb1 hb2
                have hf0 := hB.frozen 0
                have hf1 := hB.frozen 1
                have hf2 := hB.frozen 2
                have hlt := hB.lt
                clear hB
                go_simp
                clear hb0 hb1 hb2 hf0 hf1 hf2 hlt
                refine hK.out _ _ (fun h => absurd h (by decide)) ?_
                clear hK K
                try simp only [List.getElem_toArray, List.getElem_cons_zero, List.getElem_cons_succ, Act.put, List.setIfInBounds_toArray, List.set_cons_zero, List.set_cons_succ]
                refine wpAnyX_done (by kernel_rfl) ?_ _
                have HX := Lib.hid (HX.out.far (by have := HD.out; first | exact this | exact Ne.symm this) (.string (ofL O2)) (.int .i64 er2) (.int .i64 n2))
                have HY := Lib.hid (HY.out.set (ofL O2) er2 n2)
                have HB := Lib.hid (below_set HB.out HH.out (.string (ofL O2)) (.int .i64 er2) (.int .i64 n2))
                go_wp2_with fail
                go_meet
                exact ⟨gX, gY, rfl, rfl, HX.out, HY.out, HB.out⟩
              · go_simp
                have hN := Oc.fresh HB.out.size
                have hX := HX.out.alloc (.cells #[.string ⟨#[]⟩, .int .i64 0, .int .i64 0] 29)
                have HD := Lib.hid (show gX ≠ V2.heap.size by have := HX.out.2.lt; omega)
                have hA := HA.out.alloc (.cells #[.string ⟨#[]⟩, .int .i64 0, .int .i64 0] 29)
                have hB := HB.out.alloc HB.out.size (.cells #[.string ⟨#[]⟩, .int .i64 0, .int .i64 0] 29)
                have hS := hA.cell 0
                refine hK.out _ _ (fun _ => by exact hS) ?_
                clear hK K hS
                try simp only [List.getElem_toArray, List.getElem_cons_zero, List.getElem_cons_succ, Act.put, List.setIfInBounds_toArray, List.set_cons_zero, List.set_cons_succ]
                generalize V2.alloc (.cells #[.string ⟨#[]⟩, .int .i64 0, .int .i64 0] 29) = V3 at hN hA hB hX ⊢
                generalize V2.heap.size = gY at hN HD ⊢
                have HY := Lib.hid hN
                have HX := Lib.hid hX
                have HA := Lib.hid hA
                have HB := Lib.hid hB
                have hS := HA.out.cell 0
                clear hN hA hB hX
                refine wpAnyX_one (i := 11) (by kernel_rfl) rfl (fun K hK => ?_)
                go_simp
                refine (HC2.out _ HB.out).mono ?_
                rintro e V4 ⟨rfl, hb⟩
                have HA := Lib.hid (HA.out.below hb)
                have HX := Lib.hid (HX.out.below hb)
                have HY := Lib.hid (HY.out.below hb)
                have HB := Lib.hid (HB.out.trans (hb.mono HB.out.size))
                have hS := HA.out.cell 0
                clear hb
                refine hK.out _ _ (fun _ => by exact hS) ?_
                clear hK K
                try simp only [List.getElem_toArray, List.getElem_cons_zero, List.getElem_cons_succ, Act.put, List.setIfInBounds_toArray, List.set_cons_zero, List.set_cons_succ]
                have HG := Lib.hid HX.out.1
                have HH := Lib.hid HY.out.1
                refine wpAnyX_one (i := 14) (by kernel_rfl) rfl (fun K hK => ?_)
                have hB := HX.out.2
                have hb0 := hB.cell 0
                have hb1 := hB.cell 1
                have hb2 := hB.cell 2
                simp only [List.getElem?_toArray, List.getElem?_cons_zero, List.getElem?_cons_succ] at hb0 hb1 hb2
                have hf0 := hB.frozen 0
                have hf1 := hB.frozen 1
                have hf2 := hB.frozen 2
                have hlt := hB.lt
                clear hB
                go_simp
                clear hb0 hb1 hb2 hf0 hf1 hf2 hlt
                refine hK.out _ _ (fun h => absurd h (by decide)) ?_
                clear hK K
                try simp only [List.getElem_toArray, List.getElem_cons_zero, List.getElem_cons_succ, Act.put, List.setIfInBounds_toArray, List.set_cons_zero, List.set_cons_succ]
                have HB := Lib.hid (below_set HB.out HG.out (.string (ofL O1)) (.int .i64 er1) (.int .i64 n1))
                have HX := Lib.hid (HX.out.set (ofL O1) er1 n1)
                have HY := Lib.hid (HY.out.far (by have := HD.out; first | exact this | exact Ne.symm this) (.string (ofL O1)) (.int .i64 er1) (.int .i64 n1))
                refine wpAnyX_one (i := 15) (by kernel_rfl) rfl (fun K hK => ?_)
                have hB := HY.out.2
                have hb0 := hB.cell 0
                have hb1 := hB.cell 1
                have hb2 := hB.cell 2
                simp only [List.getElem?_toArray, List.getElem?_cons_zero, List.getElem?_cons_succ] at hb0 hb1 hb2
                have hf0 := hB.frozen 0
                have hf1 := hB.frozen 1
                have hf2 := hB.frozen 2
                have hlt := hB.lt
                clear hB
                go_simp
                clear hb0 hb1 hb2 hf0 hf1 hf2 hlt
                refine hK.out _ _ (fun h => absurd h (by decide)) ?_
                clear hK K
                try simp only [List.getElem_toArray, List.getElem_cons_zero, List.getElem_cons_succ, Act.put, List.setIfInBounds_toArray, List.set_cons_zero, List.set_cons_succ]
                refine wpAnyX_done (by kernel_rfl) ?_ _
                have HX := Lib.hid (HX.out.far (by have := HD.out; first | exact this | exact Ne.symm this) (.string (ofL O2)) (.int .i64 er2) (.int .i64 n2))
                have HY := Lib.hid (HY.out.set (ofL O2) er2 n2)
                have HB := Lib.hid (below_set HB.out HH.out (.string (ofL O2)) (.int .i64 er2) (.int .i64 n2))
                go_wp2_with fail
                go_meet
                exact ⟨gX, gY, rfl, rfl, HX.out, HY.out, HB.out⟩
            · go_simp
              have hN := Oc.fresh HB.out.size
              have hX := HX.out.alloc (.cells #[.string ⟨#[]⟩, .int .i64 0, .int .i64 0] 29)
              have HD := Lib.hid (show gX ≠ V1.heap.size by have := HX.out.2.lt; omega)
              have hA := HA.out.alloc (.cells #[.string ⟨#[]⟩, .int .i64 0, .int .i64 0] 29)
              have hB := HB.out.alloc HB.out.size (.cells #[.string ⟨#[]⟩, .int .i64 0, .int .i64 0] 29)
              have hS := hA.cell 0
              refine hK.out _ _ (fun _ => by exact hS) ?_
              clear hK K hS
              try simp only [List.getElem_toArray, List.getElem_cons_zero, List.getElem_cons_succ, Act.put, List.setIfInBounds_toArray, List.set_cons_zero, List.set_cons_succ]
              generalize V1.alloc (.cells #[.string ⟨#[]⟩, .int .i64 0, .int .i64 0] 29) = V2 at hN hA hB hX ⊢
              generalize V1.heap.size = gY at hN HD ⊢
              have HY := Lib.hid hN
              have HX := Lib.hid hX
              have HA := Lib.hid hA
              have HB := Lib.hid hB
              have hS := HA.out.cell 0
              clear hN hA hB hX
              refine wpAnyX_one (i := 5) (by kernel_rfl) rfl (fun K hK => ?_)
              go_simp
              refine (HC1.out _ HB.out).mono ?_
              rintro e V3 ⟨rfl, hb⟩
              have HA := Lib.hid (HA.out.below hb)
              have HX := Lib.hid (HX.out.below hb)
              have HY := Lib.hid (HY.out.below hb)
              have HB := Lib.hid (HB.out.trans (hb.mono HB.out.size))
              have hS := HA.out.cell 0
              clear hb
              refine hK.out _ _ (fun _ => by exact hS) ?_
              clear hK K
              try simp only [List.getElem_toArray, List.getElem_cons_zero, List.getElem_cons_succ, Act.put, List.setIfInBounds_toArray, List.set_cons_zero, List.set_cons_succ]
              refine wpAnyX_one (i := 11) (by kernel_rfl) rfl (fun K hK => ?_)
              go_simp
              refine (HC2.out _ HB.out).mono ?_
              rintro e V4 ⟨rfl, hb⟩
              have HA := Lib.hid (HA.out.below hb)
              have HX := Lib.hid (HX.out.below hb)
              have HY := Lib.hid (HY.out.below hb)
              have HB := Lib.hid (HB.out.trans (hb.mono HB.out.size))
              have hS := HA.out.cell 0
              clear hb
              refine hK.out _ _ (fun _ => by exact hS) ?_
              clear hK K
              try simp only [List.getElem_toArray, List.getElem_cons_zero, List.getElem_cons_succ, Act.put, List.setIfInBounds_toArray, List.set_cons_zero, List.set_cons_succ]
              have HG := Lib.hid HX.out.1
              have HH := Lib.hid HY.out.1
              refine wpAnyX_one (i := 14) (by kernel_rfl) rfl (fun K hK => ?_)
              have hB := HX.out.2
              have hb0 := hB.cell 0
              have hb1 := hB.cell 1
              have hb2 := hB.cell 2
              simp only [List.getElem?_toArray, List.getElem?_cons_zero, List.getElem?_cons_succ] at hb0 hb1 hb2
              have hf0 := hB.frozen 0
              have hf1 := hB.frozen 1
              have hf2 := hB.frozen 2
              have hlt := hB.lt
              clear hB
              go_simp
              clear hb0 hb1 hb2 hf0 hf1 hf2 hlt
              refine hK.out _ _ (fun h => absurd h (by decide)) ?_
              clear hK K
              try simp only [List.getElem_toArray, List.getElem_cons_zero, List.getElem_cons_succ, Act.put, List.setIfInBounds_toArray, List.set_cons_zero, List.set_cons_succ]
              have HB := Lib.hid (below_set HB.out HG.out (.string (ofL O1)) (.int .i64 er1) (.int .i64 n1))
              have HX := Lib.hid (HX.out.set (ofL O1) er1 n1)
              have HY := Lib.hid (HY.out.far (by have := HD.out; first | exact this | exact Ne.symm this) (.string (ofL O1)) (.int .i64 er1) (.int .i64 n1))
              refine wpAnyX_one (i := 15) (by kernel_rfl) rfl (fun K hK => ?_)
              have hB := HY.out.2
              have hb0 := hB.cell 0
              have hb1 := hB.cell 1
              have hb2 := hB.cell 2
              simp only [List.getElem?_toArray, List.getElem?_cons_zero, List.getElem?_cons_succ] at hb0 hb1 hb2
              have hf0 := hB.frozen 0
              have hf1 := hB.frozen 1
              have hf2 := hB.frozen 2
              have hlt := hB.lt
              clear hB
              go_simp
              clear hb0 hb1 hb2 hf0 hf1 hf2 hlt
              refine hK.out _ _ (fun h => absurd h (by decide)) ?_
              clear hK K
              try simp only [List.getElem_toArray, List.getElem_cons_zero, List.getElem_cons_succ, Act.put, List.setIfInBounds_toArray, List.set_cons_zero, List.set_cons_succ]
              refine wpAnyX_done (by kernel_rfl) ?_ _
              have HX := Lib.hid (HX.out.far (by have := HD.out; first | exact this | exact Ne.symm this) (.string (ofL O2)) (.int .i64 er2) (.int .i64 n2))
              have HY := Lib.hid (HY.out.set (ofL O2) er2 n2)
              have HB := Lib.hid (below_set HB.out HH.out (.string (ofL O2)) (.int .i64 er2) (.int .i64 n2))
              go_wp2_with fail
              go_meet
              exact ⟨gX, gY, rfl, rfl, HX.out, HY.out, HB.out⟩
          · go_simp
            have hN := Oc.fresh HB.out.size
            have hA := HA.out.alloc (.cells #[.string ⟨#[]⟩, .int .i64 0, .int .i64 0] 29)
            have hB := HB.out.alloc HB.out.size (.cells #[.string ⟨#[]⟩, .int .i64 0, .int .i64 0] 29)
            have hS := hA.cell 0
            refine hK.out _ _ (fun _ => by exact hS) ?_
            clear hK K hS
            try simp only [List.getElem_toArray, List.getElem_cons_zero, List.getElem_cons_succ, Act.put, List.setIfInBounds_toArray, List.set_cons_zero, List.set_cons_succ]
            generalize V0.alloc (.cells #[.string ⟨#[]⟩, .int .i64 0, .int .i64 0] 29) = V1 at hN hA hB ⊢
            generalize V0.heap.size = gY at hN ⊢
            have HY := Lib.hid hN
            have HA := Lib.hid hA
            have HB := Lib.hid hB
            have hS := HA.out.cell 0
            clear hN hA hB
            refine wpAnyX_two (i := 5) (j := 12) (by kernel_rfl) rfl rfl (fun K hK => ?_) (fun K hK => ?_)
            · go_simp
              refine (HC1.out _ HB.out).mono ?_
              rintro e V2 ⟨rfl, hb⟩
              have HA := Lib.hid (HA.out.below hb)
              have HY := Lib.hid (HY.out.below hb)
              have HB := Lib.hid (HB.out.trans (hb.mono HB.out.size))
              have hS := HA.out.cell 0
              clear hb
              refine hK.out _ _ (fun _ => by exact hS) ?_
              clear hK K
              try simp only [List.getElem_toArray, List.getElem_cons_zero, List.getElem_cons_succ, Act.put, List.setIfInBounds_toArray, List.set_cons_zero, List.set_cons_succ]
              refine wpAnyX_two (i := 11) (j := 12) (by kernel_rfl) rfl rfl (fun K hK => ?_) (fun K hK => ?_)
              · go_simp
                refine (HC2.out _ HB.out).mono ?_
                rintro e V3 ⟨rfl, hb⟩
                have HA := Lib.hid (HA.out.below hb)
                have HY := Lib.hid (HY.out.below hb)
                have HB := Lib.hid (HB.out.trans (hb.mono HB.out.size))
                have hS := HA.out.cell 0
                clear hb
                refine hK.out _ _ (fun _ => by exact hS) ?_
                clear hK K
                try simp only [List.getElem_toArray, List.getElem_cons_zero, List.getElem_cons_succ, Act.put, List.setIfInBounds_toArray, List.set_cons_zero, List.set_cons_succ]
                refine wpAnyX_one (i := 12) (by kernel_rfl) rfl (fun K hK => ?_)
                go_simp
                have hN := Oc.fresh HB.out.size
                have hY := HY.out.alloc (.cells #[.string ⟨#[]⟩, .int .i64 0, .int .i64 0] 29)
                have HD := Lib.hid (show gY ≠ V3.heap.size by have := HY.out.2.lt; omega)
                have hA := HA.out.alloc (.cells #[.string ⟨#[]⟩, .int .i64 0, .int .i64 0] 29)
                have hB := HB.out.alloc HB.out.size (.cells #[.string ⟨#[]⟩, .int .i64 0, .int .i64 0] 29)
                have hS := hA.cell 0
                refine hK.out _ _ (fun _ => by exact hS) ?_
                clear hK K hS
                try simp only [List.getElem_toArray, List.getElem_cons_zero, List.getElem_cons_succ, Act.put, List.setIfInBounds_toArray, List.set_cons_zero, List.set_cons_succ]
                generalize V3.alloc (.cells #[.string ⟨#[]⟩, .int .i64 0, .int .i64 0] 29) = V4 at hN hA hB hY ⊢
                generalize V3.heap.size = gX at hN HD ⊢
                have HX := Lib.hid hN
                have HY := Lib.hid hY
                have HA := Lib.hid hA
                have HB := Lib.hid hB
                have hS := HA.out.cell 0
                clear hN hA hB hY
                have HG := Lib.hid HX.out.1
                have HH := Lib.hid HY.out.1
                refine wpAnyX_one (i := 14) (by kernel_rfl) rfl (fun K hK => ?_)
                have hB := HX.out.2
                have hb0 := hB.cell 0
                have hb1 := hB.cell 1
                have hb2 := hB.cell 2
                simp only [List.getElem?_toArray, List.getElem?_cons_zero, List.getElem?_cons_succ] at hb0 hb1 hb2
                have hf0 := hB.frozen 0
                have hf1 := hB.frozen 1
                have hf2 := hB.frozen 2
                have hlt := hB.lt
                clear hB
                go_simp
                clear hb0 hb1 hb2 hf0 hf1 hf2 hlt
                refine hK.out _ _ (fun h => absurd h (by decide)) ?_
                clear hK K
                try simp only [List.getElem_toArray, List.getElem_cons_zero, List.getElem_cons_succ, Act.put, List.setIfInBounds_toArray, List.set_cons_zero, List.set_cons_succ]
                have HB := Lib.hid (below_set HB.out HG.out (.string (ofL O1)) (.int .i64 er1) (.int .i64 n1))
                have HX := Lib.hid (HX.out.set (ofL O1) er1 n1)
                have HY := Lib.hid (HY.out.far (by have := HD.out; first | exact this | exact Ne.symm this) (.string (ofL O1)) (.int .i64 er1) (.int .i64 n1))
                refine wpAnyX_one (i := 15) (by kernel_rfl) rfl (fun K hK => ?_)
                have hB := HY.out.2
                have hb0 := hB.cell 0
                have hb1 := hB.cell 1
                have hb2 := hB.cell 2
                simp only [List.getElem?_toArray, List.getElem?_cons_zero, List.getElem?_cons_succ] at hb0 hb1 hb2
                have hf0 := hB.frozen 0
                have hf1 := hB.frozen 1
                have hf2 := hB.frozen 2
                have hlt := hB.lt
                clear hB
                go_simp
                clear hb0 hb1 hb2 hf0 hf1 hf2 hlt
                refine hK.out _ _ (fun h => absurd h (by decide)) ?_
                clear hK K
                try simp only [List.getElem_toArray, List.getElem_cons_zero, List.getElem_cons_succ, Act.put, List.setIfInBounds_toArray, List.set_cons_zero, List.set_cons_succ]
                refine wpAnyX_done (by kernel_rfl) ?_ _
                have HX := Lib.hid (HX.out.far (by have := HD.out; first | exact this | exact Ne.symm this) (.string (ofL O2)) (.int .i64 er2) (.int .i64 n2))
                have HY := Lib.hid (HY.out.set (ofL O2) er2 n2)
                have HB := Lib.hid (below_set HB.out HH.out (.string (ofL O2)) (.int .i64 er2) (.int .i64 n2))
                go_wp2_with fail
                go_meet
                exact ⟨gX, gY, rfl, rfl, HX.out, HY.out, HB.out⟩
              · go_simp
                have hN := Oc.fresh HB.out.size
                have hY := HY.out.alloc (.cells #[.string ⟨#[]⟩, .int .i64 0, .int .i64 0] 29)
                have HD := Lib.hid (show gY ≠ V2.heap.size by have := HY.out.2.lt; omega)
                have hA := HA.out.alloc (.cells #[.string ⟨#[]⟩, .int .i64 0, .int .i64 0] 29)
                have hB := HB.out.alloc HB.out.size (.cells #[.string ⟨#[]⟩, .int .i64 0, .int .i64 0] 29)
                have hS := hA.cell 0
                refine hK.out _ _ (fun _ => by exact hS) ?_
                clear hK K hS
                try simp only [List.getElem_toArray, List.getElem_cons_zero, List.getElem_cons_succ, Act.put, List.setIfInBounds_toArray, List.set_cons_zero, List.set_cons_succ]
                generalize V2.alloc (.cells #[.string ⟨#[]⟩, .int .i64 0, .int .i64 0] 29) = V3 at hN hA hB hY ⊢
                generalize V2.heap.size = gX at hN HD ⊢
                have HX := Lib.hid hN
                have HY := Lib.hid hY
                have HA := Lib.hid hA
                have HB := Lib.hid hB
                have hS := HA.out.cell 0
                clear hN hA hB hY
                refine wpAnyX_one (i := 11) (by kernel_rfl) rfl (fun K hK => ?_)
                go_simp
                refine (HC2.out _ HB.out).mono ?_
                rintro e V4 ⟨rfl, hb⟩
                have HA := Lib.hid (HA.out.below hb)
                have HX := Lib.hid (HX.out.below hb)
                have HY := Lib.hid (HY.out.below hb)
                have HB := Lib.hid (HB.out.trans (hb.mono HB.out.size))
                have hS := HA.out.cell 0
                clear hb
                refine hK.out _ _ (fun _ => by exact hS) ?_
                clear hK K
                try simp only [List.getElem_toArray, List.getElem_cons_zero, List.getElem_cons_succ, Act.put, List.setIfInBounds_toArray, List.set_cons_zero, List.set_cons_succ]
                have HG := Lib.hid HX.out.1
                have HH := Lib.hid HY.out.1
                refine wpAnyX_one (i := 14) (by kernel_rfl) rfl (fun K hK => ?_)
                have hB := HX.out.2
                have hb0 := hB.cell 0
                have hb1 := hB.cell 1
                have hb2 := hB.cell 2
                simp only [List.getElem?_toArray, List.getElem?_cons_zero, List.getElem?_cons_succ] at hb0 hb1 hb2
                have hf0 := hB.frozen 0
                have hf1 := hB.frozen 1
                have hf2 := hB.frozen 2
                have hlt := hB.lt
                clear hB
                go_simp
                clear hb0 hb1 hb2 hf0 hf1 hf2 hlt
                refine hK.out _ _ (fun h => absurd h (by decide)) ?_
                clear hK K
                try simp only [List.getElem_toArray, List.getElem_cons_zero, List.getElem_cons_succ, Act.put, List.setIfInBounds_toArray, List.set_cons_zero, List.set_cons_succ]
                have HB := Lib.hid (below_set HB.out HG.out (.string (ofL O1)) (.int .i64 er1) (.int .i64 n1))
                have HX := Lib.hid (HX.out.set (ofL O1) er1 n1)
                have HY := Lib.hid (HY.out.far (by have := HD.out; first | exact this | exact Ne.symm this) (.string (ofL O1)) (.int .i64 er1) (.int .i64 n1))
                refine wpAnyX_one (i := 15) (by kernel_rfl) rfl (fun K hK => ?_)
                have hB := HY.out.2
                have hb0 := hB.cell 0
                have hb1 := hB.cell 1
                have hb2 := hB.cell 2
                simp only [List.getElem?_toArray, List.getElem?_cons_zero, List.getElem?_cons_succ] at hb0 hb1 hb2
                have hf0 := hB.frozen 0
                have hf1 := hB.frozen 1
                have hf2 := hB.frozen 2
                have hlt := hB.lt
                clear hB
                go_simp
                clear hb0 hb1 hb2 hf0 hf1 hf2 hlt
                refine hK.out _ _ (fun h => absurd h (by decide)) ?_
                clear hK K
                try simp only [List.getElem_toArray, List.getElem_cons_zero, List.getElem_cons_succ, Act.put, List.setIfInBounds_toArray, List.set_cons_zero, List.set_cons_succ]
                refine wpAnyX_done (by kernel_rfl) ?_ _
                have HX := Lib.hid (HX.out.far (by have := HD.out; first | exact this | exact Ne.symm this) (.string (ofL O2)) (.int .i64 er2) (.int .i64 n2))
                have HY := Lib.hid (HY.out.set (ofL O2) er2 n2)
                have HB := Lib.hid (below_set HB.out HH.out (.string (ofL O2)) (.int .i64 er2) (.int .i64 n2))
                go_wp2_with fail
                go_meet
                exact ⟨gX, gY, rfl, rfl, HX.out, HY.out, HB.out⟩
            · go_simp
              have hN := Oc.fresh HB.out.size
              have hY := HY.out.alloc (.cells #[.string ⟨#[]⟩, .int .i64 0, .int .i64 0] 29)
              have HD := Lib.hid (show gY ≠ V1.heap.size by have := HY.out.2.lt; omega)
              have hA := HA.out.alloc (.cells #[.string ⟨#[]⟩, .int .i64 0, .int .i64 0] 29)
              have hB := HB.out.alloc HB.out.size (.cells #[.string ⟨#[]⟩, .int .i64 0, .int .i64 0] 29)
              have hS := hA.cell 0
              refine hK.out _ _ (fun _ => by exact hS) ?_
              clear hK K hS
              try simp only [List.getElem_toArray, List.getElem_cons_zero, List.getElem_cons_succ, Act.put, List.setIfInBounds_toArray, List.set_cons_zero, List.set_cons_succ]
              generalize V1.alloc (.cells #[.string ⟨#[]⟩, .int .i64 0, .int .i64 0] 29) = V2 at hN hA hB hY ⊢
              generalize V1.heap.size = gX at hN HD ⊢
              have HX := Lib.hid hN
              have HY := Lib.hid hY
              have HA := Lib.hid hA
              have HB := Lib.hid hB
              have hS := HA.out.cell 0
              clear hN hA hB hY
              refine wpAnyX_one (i := 5) (by kernel_rfl) rfl (fun K hK => ?_)
              go_simp
              refine (HC1.out _ HB.out).mono ?_
              rintro e V3 ⟨rfl, hb⟩
              have HA := Lib.hid (HA.out.below hb)
              have HX := Lib.hid (HX.out.below hb)
              have HY := Lib.hid (HY.out.below hb)
              have HB := Lib.hid (HB.out.trans (hb.mono HB.out.size))
              have hS := HA.out.cell 0
              clear hb
              refine hK.out _ _ (fun _ => by exact hS) ?_
              clear hK K
              try simp only [List.getElem_toArray, List.getElem_cons_zero, List.getElem_cons_succ, Act.put, List.setIfInBounds_toArray, List.set_cons_zero, List.set_cons_succ]
              refine wpAnyX_one (i := 11) (by kernel_rfl) rfl (fun K hK => ?_)
              go_simp
              refine (HC2.out _ HB.out).mono ?_
              rintro e V4 ⟨rfl, hb⟩
              have HA := Lib.hid (HA.out.below hb)
              have HX := Lib.hid (HX.out.below hb)
              have HY := Lib.hid (HY.out.below hb)
              have HB := Lib.hid (HB.out.trans (hb.mono HB.out.size))
              have hS := HA.out.cell 0
              clear hb
              refine hK.out _ _ (fun _ => by exact hS) ?_
              clear hK K
              try simp only [List.getElem_toArray, List.getElem_cons_zero, List.getElem_cons_succ, Act.put, List.setIfInBounds_toArray, List.set_cons_zero, List.set_cons_succ]
              have HG := Lib.hid HX.out.1
              have HH := Lib.hid HY.out.1
              refine wpAnyX_one (i := 14) (by kernel_rfl) rfl (fun K hK => ?_)
              have hB := HX.out.2
              have hb0 := hB.cell 0
              have hb1 := hB.cell 1
              have hb2 := hB.cell 2
              simp only [List.getElem?_toArray, List.getElem?_cons_zero, List.getElem?_cons_succ] at hb0 hb1 hb2
              have hf0 := hB.frozen 0
              have hf1 := hB.frozen 1
              have hf2 := hB.frozen 2
              have hlt := hB.lt
              clear hB
              go_simp
              clear hb0 hb1 hb2 hf0 hf1 hf2 hlt
              refine hK.out _ _ (fun h => absurd h (by decide)) ?_
              clear hK K
              try simp only [List.getElem_toArray, List.getElem_cons_zero, List.getElem_cons_succ, Act.put, List.setIfInBounds_toArray, List.set_cons_zero, List.set_cons_succ]
              have HB := Lib.hid (below_set HB.out HG.out (.string (ofL O1)) (.int .i64 er1) (.int .i64 n1))
              have HX := Lib.hid (HX.out.set (ofL O1) er1 n1)
              have HY := Lib.hid (HY.out.far (by have := HD.out; first | exact this | exact Ne.symm this) (.string (ofL O1)) (.int .i64 er1) (.int .i64 n1))
              refine wpAnyX_one (i := 15) (by kernel_rfl) rfl (fun K hK => ?_)
              have hB := HY.out.2
              have hb0 := hB.cell 0
              have hb1 := hB.cell 1
              have hb2 := hB.cell 2
              simp only [List.getElem?_toArray, List.getElem?_cons_zero, List.getElem?_cons_succ] at hb0 hb1 hb2
              have hf0 := hB.frozen 0
              have hf1 := hB.frozen 1
              have hf2 := hB.frozen 2
              have hlt := hB.lt
              clear hB
              go_simp
              clear hb0 hb1 hb2 hf0 hf1 hf2 hlt
              refine hK.out _ _ (fun h => absurd h (by decide)) ?_
              clear hK K
              try simp only [List.getElem_toArray, List.getElem_cons_zero, List.getElem_cons_succ, Act.put, List.setIfInBounds_toArray, List.set_cons_zero, List.set_cons_succ]
              refine wpAnyX_done (by kernel_rfl) ?_ _
              have HX := Lib.hid (HX.out.far (by have := HD.out; first | exact this | exact Ne.symm this) (.string (ofL O2)) (.int .i64 er2) (.int .i64 n2))
              have HY := Lib.hid (HY.out.set (ofL O2) er2 n2)
              have HB := Lib.hid (below_set HB.out HH.out (.string (ofL O2)) (.int .i64 er2) (.int .i64 n2))
              go_wp2_with fail
              go_meet
              exact ⟨gX, gY, rfl, rfl, HX.out, HY.out, HB.out⟩
        case rest =>
          obtain ⟨gX, gY, rfl, rfl, hX, hY, hB⟩ := hcut
          have hx := hX.2
          have hy := hY.2
          have hx0 := hx.cell 0
          have hx1 := hx.cell 1
          have hx2 := hx.cell 2
          have hy0 := hy.cell 0
          have hy1 := hy.cell 1
          have hy2 := hy.cell 2
          simp only [List.getElem?_toArray, List.getElem?_cons_zero, List.getElem?_cons_succ] at hx0 hx1 hx2 hy0 hy1 hy2
          have HB := Lib.hid hB
          have HH := Lib.hid (hp_yes wc (ofL O2) (ofL O1) (ofL_small HL.out) (by rw [bl_ofL, bl_ofL]; exact HP.out.1))
          have hle : n1 ≤ n2 := HP.out.2.1
          have hng : ¬ n2 < n1 := by omega
          clear hX hY hx hy hB
          by_cases he : er1 = 13
          · go_wp2_with fail
            refine HH.out.mono ?_
            rintro e w5 ⟨rfl, rfl⟩
            go_wp2_with fail
            go_ret
            exact ⟨rfl, HB.out⟩
          · have heq := HP.out.2.2.resolve_left he
            injection heq with e1 e2
            injection e2 with e2 e3
            subst e1 e2 e3
            go_wp2_with fail
            refine HH.out.mono ?_
            rintro e w5 ⟨rfl, rfl⟩
            go_wp2_with fail
            go_ret
            exact ⟨rfl, HB.out⟩
    · go_wp2_with fail
      go_ret
      exact ⟨rfl, HB2.out⟩

end MachinePrefix
end Go.Proofs.Ytfjjdogjihpbnaa
