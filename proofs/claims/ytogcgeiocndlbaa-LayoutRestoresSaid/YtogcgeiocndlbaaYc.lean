/- Walk of erasure.choose. -/
import Derived.Test.YtogcgeiocndlbaaYb
import Derived.Test.YtogcgeiocndlbaaOx
import Derived.Outline
namespace Go.Proofs.Ytogcgeiocndlbaa
open Go.RowKit

theorem own_ne {w : World} {b b' s s' n n' : Nat} {e e' : TypeId} {v v' : Value} {xs xs' : List Value} (h : w.ownsRow b e s v n xs) (h' : w.ownsRow b' e' s' v' n' xs') (hne : e ≠ e') : ∀ g, v.ownBlock = some g → v'.ownBlock ≠ some g := by
  intro g hg hg'
  rcases h.2 with ⟨rfl, _⟩ | ⟨g1, cap, cur, rfl, _, hb, _⟩
  · cases hg
  · rcases h'.2 with ⟨rfl, _⟩ | ⟨g2, cap', cur', rfl, _, hb', _⟩
    · cases hg'
    · have e1 : g1 = g := by injection hg
      have e2 : g2 = g := by injection hg'
      subst e1 e2
      rw [hb] at hb'
      injection hb' with hb'
      injection hb' with _ e3
      exact hne e3
theorem own_grown {w w' : World} {b s n : Nat} {e : TypeId} {v : Value} {xs : List Value} {row : Option Nat} (h : w.ownsRow b e s v n xs) (hg : w.grownBy w' row) (hne : ∀ g, row = some g → v.ownBlock ≠ some g) : w'.ownsRow b e s v n xs :=
  h.kept hg (by
    cases hv : v.ownBlock with
    | none => exact .inl rfl
    | some g => exact .inr fun e => hne g e.symm hv)

theorem chStep_skip {data : Nat} {st : List UInt8 × List ByteArray} {x : Int × ByteArray} (h : ¬ (st.1.length < data ∧ byt8 x.1 ∉ st.1)) : chStep data st x = st := by unfold chStep; rw [if_neg h]
theorem chStep_take {data : Nat} {st : List UInt8 × List ByteArray} {x : Int × ByteArray} (h1 : st.1.length < data) (h2 : byt8 x.1 ∉ st.1) : chStep data st x = (st.1 ++ [byt8 x.1], st.2 ++ [x.2]) := by unfold chStep; rw [if_pos ⟨h1, h2⟩]

/-- what 'choose' hands back -/
def GivesC (xs : List UInt8) (bs : List ByteArray) (er : Int) (w : World) (e : Ending) (w' : World) : Prop :=
  ∃ A n c A' n' c', e = .returned (.tuple #[.agg #[.slice A n c, .slice A' n' c'], .int .i64 er]) ∧ (er = 0 → Byt w' A n c xs ∧ Lst Value.string w' A' n' c' bs) ∧ Below w.heap.size w w'

theorem restE_hi {hv : List (Int × ByteArray)} {data : Int} (h : data < 1 ∨ 15 < data) : restE hv data = 1 := by unfold restE; rw [if_pos h]

set_option maxRecDepth 100000 in
set_option maxHeartbeats 1000000 in
theorem choose_bad (w : World) (A : Option Addr) (n c : Nat) (data : Int) (hd : IntKind.i64.min ≤ data ∧ data ≤ IntKind.i64.max) (hbad : data < 1 ∨ 15 < data) :
    Calls Try.prog 27 #[.slice A n c, .int .i64 data] w (GivesC [] [] 1 w) := by
  have h1 : -9223372036854775808 ≤ data := hd.1
  have h2 : data ≤ 9223372036854775807 := hd.2
  clear hd
  by_cases hlt : data < 1
  · go_enter Try.func27, Try.ntmps27
    go_wp2
    exact bodyPost_ret (v := .tuple #[.agg #[.slice none 0 0, .slice none 0 0], .int .i64 1]) (by simp [results, Try.results27, go_sem]) rfl ⟨none, 0, 0, none, 0, 0, rfl, fun h => absurd h (by decide), ((Below.refl _ w).alloc (Nat.le_refl _) _).alloc (by simp) _⟩
  · have hgt : 15 < data := by omega
    go_enter Try.func27, Try.ntmps27
    go_wp2
    exact bodyPost_ret (v := .tuple #[.agg #[.slice none 0 0, .slice none 0 0], .int .i64 1]) (by simp [results, Try.results27, go_sem]) rfl ⟨none, 0, 0, none, 0, 0, rfl, fun h => absurd h (by decide), ((Below.refl _ w).alloc (Nat.le_refl _) _).alloc (by simp) _⟩

set_option maxRecDepth 100000 in
set_option maxHeartbeats 2000000 in
theorem choose_f (w : World) (A : Option Addr) (n c : Nat) (hv : List (Int × ByteArray)) (h : Shs w A n c hv) (hm : ∀ x ∈ hv, (IntKind.i64.min ≤ x.1 ∧ x.1 ≤ IntKind.i64.max) ∧ x.2.size ≤ 65536) (data : Nat) (hd1 : 1 ≤ data) (hd2 : data ≤ 15) (er : Int) (her : Hid (er = restE hv data)) :
    Calls Try.prog 27 #[.slice A n c, .int .i64 (data : Int)] w (GivesC (chs data hv).1 (chs data hv).2 er w) := by
  have hn := h.len
  have hlc : n ≤ c := h.1
  have hcm : c ≤ 9223372036854775807 := h.2.1
  have H := Lib.hid h
  have HN := Lib.hid hn
  have HM := Lib.hid hm
  obtain ⟨w1, hw1⟩ : ∃ w1, w1 = (w.alloc (.cells #[.slice A n c] 45)).alloc (.cells #[.slice none 0 0, .slice none 0 0] 59) := ⟨_, rfl⟩
  have hs1 : w1.heap.size = w.heap.size + 2 := by rw [hw1]; simp
  have H1 := Lib.hid (show Shs w1 A n c hv by rw [hw1]; exact (h.alloc _).alloc _)
  have HV1 := Lib.hid (show Blk w1 w.heap.size 45 #[.slice A n c] by rw [hw1]; exact (Blk.new _ _ _).alloc _)
  have HR1 := Lib.hid (show Blk w1 (w.heap.size + 1) 59 #[.slice none 0 0, .slice none 0 0] by rw [hw1]; have := Blk.new (w.alloc (.cells #[.slice A n c] 45)) 59 #[.slice none 0 0, .slice none 0 0]; simpa using this)
  have HB1 := Lib.hid (show Below w.heap.size w w1 by rw [hw1]; exact ((Below.refl _ w).alloc (Nat.le_refl _) _).alloc (by simp) _)
  have HW1 := Lib.hid hw1
  have eg1 := enters_of Try.func42 (by kernel_rfl) rfl
  have HC1 := Lib.hid (contf_h _ _ eg1 w1 A n c hv H1.out badIdx fun k hk => badIdx_b _ (hm _ (List.getElem_mem hk)).1 w1)
  have hcv := HV1.out.cell 0
  rw [hw1] at hcv
  have HE := Lib.hid (show restE hv (data : Int) = if hv.any badIdx then 2 else if hv.any (badLen hv) then 1 else if (chs data hv).1.length < data then 19 else if hv.any (off (chs data hv)) then 20 else 0 by
    unfold restE; rw [if_neg (by omega), Int.toNat_natCast])
  clear h hn hm eg1 hw1
  go_enter Try.func27, Try.ntmps27
  go_wp2_with fail
  rw [← HW1.out]
  refine HC1.out.mono ?_
  cases hq1 : hv.any badIdx with
  | true =>
    have HQ1 := Lib.hid hq1
    rintro e w2 ⟨rfl, hb2⟩
    have HB2 := Lib.hid (HB1.out.trans (hb2.mono (by omega)))
    have HR2 := Lib.hid (HR1.out.below hb2)
    have hr0 := HR2.out.cell 0
    have hr1 := HR2.out.cell 1
    have hf0 := HR2.out.frozen 0
    have hf1 := HR2.out.frozen 1
    have hrl := HR2.out.lt
    clear hb2 hq1
    go_wp2
    refine bodyPost_ret (v := .tuple #[.agg #[.slice none 0 0, .slice none 0 0], .int .i64 2]) (by simp [results, Try.results27, go_sem, hr0, hr1]) rfl ⟨none, 0, 0, none, 0, 0, ?_, ?_, ?_⟩
    · rw [her.out, HE.out, HQ1.out]; rfl
    · intro h; rw [her.out, HE.out, HQ1.out] at h; simp at h
    · exact (HB2.out.setCell (by simp) _).setCell (by simp) _
  | false =>
    have HQ1 := Lib.hid hq1
    rintro e w2 ⟨rfl, hb2⟩
    have HB2 := Lib.hid (HB1.out.trans (hb2.mono (by omega)))
    have HR2 := Lib.hid (HR1.out.below hb2)
    have HV2 := Lib.hid (HV1.out.below hb2)
    have H2 := Lib.hid (H1.out.below hb2)
    have hcv2 := HV2.out.cell 0
    have eg2 := enters_of Try.func43 (by kernel_rfl) rfl
    have HC2 := Lib.hid (contf_h _ _ eg2 w2 A n c hv H2.out (badLen hv) fun k hk => badLen_b hv w2 A n c H2.out w.heap.size HV2.out (by omega) _)
    clear hb2 hq1 hcv eg2
    go_wp2_with fail
    refine HC2.out.mono ?_
    cases hq2 : hv.any (badLen hv) with
    | true =>
      have HQ2 := Lib.hid hq2
      rintro e w3 ⟨rfl, hb3⟩
      have HB3 := Lib.hid (HB2.out.trans (hb3.mono HB2.out.size))
      have HR3 := Lib.hid (HR2.out.below hb3)
      have hr0 := HR3.out.cell 0
      have hr1 := HR3.out.cell 1
      have hf0 := HR3.out.frozen 0
      have hf1 := HR3.out.frozen 1
      have hrl := HR3.out.lt
      clear hb3 hq2 hcv2
      go_wp2
      refine bodyPost_ret (v := .tuple #[.agg #[.slice none 0 0, .slice none 0 0], .int .i64 1]) (by simp [results, Try.results27, go_sem, hr0, hr1]) rfl ⟨none, 0, 0, none, 0, 0, ?_, ?_, ?_⟩
      · rw [her.out, HE.out, HQ1.out, HQ2.out]; rfl
      · intro h; rw [her.out, HE.out, HQ1.out, HQ2.out] at h; simp at h
      · exact (HB3.out.setCell (by simp) _).setCell (by simp) _
    | false =>
      have HQ2 := Lib.hid hq2
      rintro e w3 ⟨rfl, hb3⟩
      have HB3 := Lib.hid (HB2.out.trans (hb3.mono HB2.out.size))
      have HR3 := Lib.hid (HR2.out.below hb3)
      have HV3 := Lib.hid (HV2.out.below hb3)
      have H3 := Lib.hid (H2.out.below hb3)
      have hcv3 := (HV3.out.alloc (.cells #[.slice none 0 0, .slice none 0 0] 59)).cell 0
      have hrl3 := HR3.out.lt
      obtain ⟨L, hL⟩ : ∃ L, L = (hv.getD 0 default).2.size := ⟨_, rfl⟩
      have HSZ := Lib.hid (show ∀ x ∈ hv, x.2.size = L from fun x hx => by
        rw [List.any_eq_false] at hq2
        have := hq2 x hx
        unfold badLen at this
        simp at this
        rw [hL]; simpa using this)
      have HIX := Lib.hid (show ∀ x ∈ hv, badIdx x = false from fun x hx => by
        have := (List.any_eq_false.1 HQ1.out) x hx
        simpa using this)
      clear hb3 hq2 hcv2 hL
      go_wp2
      go_loopw [25] (fun i wr => ∃ (k m : Nat) (vx vb : Value), k ≤ n ∧ i = .int .i64 (k : Int) ∧ Hid (m = (chs data (hv.take k)).1.length) ∧ m ≤ data ∧ Blk wr w3.heap.size 59 #[vx, vb] ∧
        wr.ownsRow (w3.heap.size + 1) 5 1 vx m (bv (chs data (hv.take k)).1) ∧ wr.ownsRow (w3.heap.size + 1) 9 1 vb m ((chs data (hv.take k)).2.map Value.string) ∧ Below w3.heap.size w3 wr) (fun i _ => n - (intOf i).toNat)
      case atStart => exact ⟨0, 0, .slice none 0 0, .slice none 0 0, by omega, rfl, Lib.hid rfl, by omega, Blk.new _ _ _, World.ownsRow_nil _ _ _ _, World.ownsRow_nil _ _ _ _, (Below.refl _ w3).alloc (Nat.le_refl _) _⟩
      case round =>
        obtain ⟨k, m, vx, vb, hk, rfl, HMM, hmd, hblk, hox, hob, hb⟩ := hrel
        have HBK := Lib.hid hblk
        have HOX := Lib.hid hox
        have HOB := Lib.hid hob
        have HB := Lib.hid hb
        have hbs := hb.size
        have hgl := hblk.lt
        obtain ⟨A1, c1, rfl, hx1, _⟩ := byt_own hox
        obtain ⟨A2, c2, rfl, hx2, _⟩ := lst_own hob
        have HX1 := Lib.hid hx1
        have HX2 := Lib.hid hx2
        have hlc1 : m ≤ c1 := hx1.1
        have hcm1 : c1 ≤ 9223372036854775807 := hx1.2.1
        have hlc2 : m ≤ c2 := hx2.1
        have hcm2 : c2 ≤ 9223372036854775807 := hx2.2.1
        have HH := Lib.hid (H3.out.below hb)
        clear hblk hox hob hb hx1 hx2 hcv3
        by_cases hlt : k < n
        · have hkl : k < hv.length := by rw [← HN.out]; exact hlt
          have HCS := Lib.hid (show chs data (hv.take (k + 1)) = chStep data (chs data (hv.take k)) hv[k] by rw [List.take_succ_eq_append_getElem hkl, chs_snoc])
          obtain ⟨ad, rfl, _, hc, hc'⟩ := HH.out.at_ hkl
          obtain ⟨j, hj, hj15⟩ : ∃ j : Nat, hv[k].1 = (j : Int) ∧ j < 15 := by
            have := HIX.out _ (List.getElem_mem hkl)
            unfold badIdx at this
            simp at this
            exact ⟨hv[k].1.toNat, by omega, by omega⟩
          rw [hj] at hc
          have HJ := Lib.hid (show byt8 hv[k].1 = UInt8.ofNat j by rw [hj, byt8_nat (by omega)])
          have HCC := Lib.hid (fun (W : World) (hW : Byt W A1 m c1 (chs data (hv.take k)).1) => show Calls Try.prog 44 #[.slice A1 m c1, .int .u8 (j : Int)] W fun e w' => e = .returned (.bool (decide (byt8 hv[k].1 ∈ (chs data (hv.take k)).1))) ∧ w' = W by
            have := cont_b W A1 m c1 _ hW (UInt8.ofNat j)
            rw [UInt8.toNat_ofNat', Nat.mod_eq_of_lt (by omega)] at this
            rw [HJ.out]; exact this)
          obtain ⟨wo, rfl⟩ : ∃ wo : World, wo = wr := ⟨_, rfl⟩
          have hg0 := (HBK.out.alloc (.cells #[.int .i64 (j : Int), .string hv[k].2] 47)).cell 0
          have hg1 := (HBK.out.alloc (.cells #[.int .i64 (j : Int), .string hv[k].2] 47)).cell 1
          have HXA := Lib.hid (HX1.out.alloc (.cells #[.int .i64 (j : Int), .string hv[k].2] 47))
          clear hj
          by_cases hmlt : m < data
          · cases hq : decide (byt8 hv[k].1 ∈ (chs data (hv.take k)).1) with
            | true =>
              rw [hq] at HCC
              go_wp2_with fail
              refine (HCC.out _ HXA.out).mono ?_
              rintro e w' ⟨rfl, rfl⟩
              have HST := Lib.hid (show chs data (hv.take (k + 1)) = chs data (hv.take k) by rw [HCS.out, chStep_skip fun h => h.2 (of_decide_eq_true hq)])
              clear hq
              go_wp2
              go_roundw
              case rel => exact ⟨k + 1, m, _, _, by omega, by go_num, Lib.hid (by rw [HST.out]; exact HMM.out), hmd, HBK.out.alloc _, by rw [HST.out]; exact own_alloc HOX.out _, by rw [HST.out]; exact own_alloc HOB.out _, HB.out.alloc hbs _⟩
              case measure => simp [intOf]; omega
            | false =>
              rw [hq] at HCC
              go_wp2_with fail
              refine (HCC.out _ HXA.out).mono ?_
              rintro e w' ⟨rfl, rfl⟩
              have HST := Lib.hid (show chs data (hv.take (k + 1)) = ((chs data (hv.take k)).1 ++ [byt8 hv[k].1], (chs data (hv.take k)).2 ++ [hv[k].2]) by rw [HCS.out, chStep_take (by rw [← HMM.out]; exact hmlt) (of_decide_eq_false hq)])
              clear hq
              have hk1 : m + 1 ≤ maxLen := by unfold maxLen; omega
              have hk2 : (m + 1) * 1 ≤ 140737488355328 := by omega
              have hk3 : (m + 1) * 16 ≤ 140737488355328 := by omega
              obtain ⟨W0, hW0⟩ : ∃ W0, W0 = (wo.alloc (.cells #[.int .i64 (j : Int), .string hv[k].2] 47)).drew := ⟨_, rfl⟩
              have HP := Lib.hid (show W0.ownsRow (w3.heap.size + 1) 5 1 (.slice A1 m c1) m (bv (chs data (hv.take k)).1) by rw [hW0]; exact own_alloc HOX.out _)
              have HQ := Lib.hid (show W0.ownsRow (w3.heap.size + 1) 9 1 (.slice A2 m c2) m ((chs data (hv.take k)).2.map Value.string) by rw [hW0]; exact own_alloc HOB.out _)
              have hbase : w3.heap.size + 1 ≤ W0.heap.size := by rw [hW0]; simp; omega
              have HX0 := Lib.hid (show Blk W0 wo.heap.size 47 #[.int .i64 (j : Int), .string hv[k].2] by rw [hW0]; exact Blk.new _ _ _)
              go_wp2
              have HG0 := Lib.hid (show Blk W0 w3.heap.size 59 #[.slice A1 m c1, .slice A2 m c2] by rw [hW0]; exact HBK.out.alloc _)
              have HB0 := Lib.hid (show Below w3.heap.size w3 W0 by rw [hW0]; exact (HB.out.alloc hbs _).drew)
              have hz0 := HB0.out.size
              have HP0 := HP
              have HQ0 := HQ
              have hSS : ∀ W : World, Blk W w3.heap.size 59 #[.slice A1 m c1, .slice A2 m c2] → Blk W wo.heap.size 47 #[.int .i64 (j : Int), .string hv[k].2] →
                  (W.cell? ⟨w3.heap.size, 0, none⟩ = some (.slice A1 m c1) ∧ W.cell? ⟨w3.heap.size, 1, none⟩ = some (.slice A2 m c2) ∧ W.cell? ⟨wo.heap.size, 0, none⟩ = some (.int .i64 (j : Int)) ∧ W.cell? ⟨wo.heap.size, 1, none⟩ = some (.string hv[k].2)) := fun W h1 h2 => ⟨h1.cell 0, h1.cell 1, h2.cell 0, h2.cell 1⟩
              have HSS := Lib.hid hSS
              have HW0 := Lib.hid hW0
              have hwz : wo.heap.size < W0.heap.size := by rw [hW0]; simp
              have hn1 : some w3.heap.size ≠ (Value.slice A1 m c1).ownBlock := fun e => by have := (HOX.out.lt _ e.symm).1; omega
              have hn2 : some wo.heap.size ≠ (Value.slice A1 m c1).ownBlock := fun e => by have := (HOX.out.lt _ e.symm).2; omega
              have hn3 : some w3.heap.size ≠ (Value.slice A2 m c2).ownBlock := fun e => by have := (HOB.out.lt _ e.symm).1; omega
              have hn4 : some wo.heap.size ≠ (Value.slice A2 m c2).ownBlock := fun e => by have := (HOB.out.lt _ e.symm).2; omega
              have hn5 : ∀ g, (Value.slice A1 m c1).ownBlock = some g → w3.heap.size ≤ g := fun g e => by have := (HOX.out.lt _ e).1; omega
              have hn6 : ∀ g, (Value.slice A2 m c2).ownBlock = some g → w3.heap.size ≤ g := fun g e => by have := (HOB.out.lt _ e).1; omega
              clear hg0 hg1 hc hc' hSS
              refine wp_region_noPanic ?_
              refine wp_region_X (fun W => W.cell? ⟨w3.heap.size, 0, none⟩ = some (.slice A1 m c1) ∧ W.cell? ⟨w3.heap.size, 1, none⟩ = some (.slice A2 m c2) ∧ W.cell? ⟨wo.heap.size, 0, none⟩ = some (.int .i64 (j : Int)) ∧ W.cell? ⟨wo.heap.size, 1, none⟩ = some (.string hv[k].2)) 14 (by kernel_rfl) ?_
              rw [← hW0]
              clear hW0
              have hwr : IntKind.u8.wrap (j : Int) = (j : Int) := by rw [IntKind.wrap_u8]; omega
              have hS0 := HSS.out W0 HG0.out HX0.out
              show wpAnyX _ _ _ _ _ _ 17 _ _ _
              refine wpAnyX_pure (i := 0) (v := ?_) rfl (by kernel_rfl) (by kernel_rfl) (by kernel_rfl) (by kernel_rfl) (by kernel_rfl) (fun _ _ _ h => h) (Or.inl ⟨by rfl, ?_⟩) (fun _ => by exact hS0) ?_
              rotate_left
              · intro w hSw; (try dsimp only at hSw); go_simp; with_reducible rfl
              try simp only [List.getElem_toArray, List.getElem_cons_zero, Act.put, List.setIfInBounds_toArray, List.set_cons_zero, List.set_cons_succ]
              refine wpAnyX_take (i := 1) (v := ?_) rfl (by kernel_rfl) (by kernel_rfl) (by kernel_rfl) (by kernel_rfl) (by kernel_rfl) (fun _ _ _ h => h) (Or.inl ⟨by rfl, ?_⟩) (by exact hS0) ?_
              rotate_left
              · intro w hSw; (try dsimp only at hSw); go_simp; with_reducible rfl
              try simp only [List.getElem_toArray, List.getElem_cons_zero, List.getElem_cons_succ, Act.put, List.setIfInBounds_toArray, List.set_cons_zero, List.set_cons_succ]
              refine wpAnyX_pure (i := 2) (v := ?_) rfl (by kernel_rfl) (by kernel_rfl) (by kernel_rfl) (by kernel_rfl) (by kernel_rfl) (fun _ _ _ h => h) (Or.inl ⟨by rfl, ?_⟩) (fun _ => by exact hS0) ?_
              rotate_left
              · intro w hSw; (try dsimp only at hSw); go_simp; with_reducible rfl
              try simp only [List.getElem_toArray, List.getElem_cons_zero, List.getElem_cons_succ, Act.put, List.setIfInBounds_toArray, List.set_cons_zero, List.set_cons_succ]
              refine wpAnyX_take (i := 3) (v := ?_) rfl (by kernel_rfl) (by kernel_rfl) (by kernel_rfl) (by kernel_rfl) (by kernel_rfl) (fun _ _ _ h => h) (Or.inl ⟨by rfl, ?_⟩) (by exact hS0) ?_
              rotate_left
              · intro w hSw; (try dsimp only at hSw); go_simp; with_reducible rfl
              try simp only [List.getElem_toArray, List.getElem_cons_zero, List.getElem_cons_succ, Act.put, List.setIfInBounds_toArray, List.set_cons_zero, List.set_cons_succ]
              refine wpAnyX_pure (i := 4) (v := ?_) rfl (by kernel_rfl) (by kernel_rfl) (by kernel_rfl) (by kernel_rfl) (by kernel_rfl) (fun _ _ _ h => h) (Or.inl ⟨by rfl, ?_⟩) (fun _ => by exact hS0) ?_
              rotate_left
              · intro w hSw; (try dsimp only at hSw); go_simp; with_reducible rfl
              try simp only [List.getElem_toArray, List.getElem_cons_zero, List.getElem_cons_succ, Act.put, List.setIfInBounds_toArray, List.set_cons_zero, List.set_cons_succ]
              refine wpAnyX_pure (i := 7) (v := ?_) rfl (by kernel_rfl) (by kernel_rfl) (by kernel_rfl) (by kernel_rfl) (by kernel_rfl) (fun _ _ _ h => h) (Or.inl ⟨by rfl, ?_⟩) (fun _ => by exact hS0) ?_
              rotate_left
              · intro w hSw; (try dsimp only at hSw); go_simp; with_reducible rfl
              try simp only [List.getElem_toArray, List.getElem_cons_zero, List.getElem_cons_succ, Act.put, List.setIfInBounds_toArray, List.set_cons_zero, List.set_cons_succ]
              refine wpAnyX_take (i := 8) (v := ?_) rfl (by kernel_rfl) (by kernel_rfl) (by kernel_rfl) (by kernel_rfl) (by kernel_rfl) (fun _ _ _ h => h) (Or.inl ⟨by rfl, ?_⟩) (by exact hS0) ?_
              rotate_left
              · intro w hSw; (try dsimp only at hSw); go_simp; with_reducible rfl
              try simp only [List.getElem_toArray, List.getElem_cons_zero, List.getElem_cons_succ, Act.put, List.setIfInBounds_toArray, List.set_cons_zero, List.set_cons_succ]
              refine wpAnyX_pure (i := 9) (v := ?_) rfl (by kernel_rfl) (by kernel_rfl) (by kernel_rfl) (by kernel_rfl) (by kernel_rfl) (fun _ _ _ h => h) (Or.inl ⟨by rfl, ?_⟩) (fun _ => by exact hS0) ?_
              rotate_left
              · intro w hSw; (try dsimp only at hSw); go_simp; with_reducible rfl
              try simp only [List.getElem_toArray, List.getElem_cons_zero, List.getElem_cons_succ, Act.put, List.setIfInBounds_toArray, List.set_cons_zero, List.set_cons_succ]
              refine wpAnyX_take (i := 10) (v := ?_) rfl (by kernel_rfl) (by kernel_rfl) (by kernel_rfl) (by kernel_rfl) (by kernel_rfl) (fun _ _ _ h => h) (Or.inl ⟨by rfl, ?_⟩) (by exact hS0) ?_
              rotate_left
              · intro w hSw; (try dsimp only at hSw); go_simp; with_reducible rfl
              try simp only [List.getElem_toArray, List.getElem_cons_zero, List.getElem_cons_succ, Act.put, List.setIfInBounds_toArray, List.set_cons_zero, List.set_cons_succ]
              refine wpAnyX_two (i := 5) (j := 11) (by kernel_rfl) rfl rfl (fun K hK => ?_) (fun K hK => ?_)
              · skip
                go_simp
                have HGa := Lib.hid (HG0.out.alloc (.cells #[.int .u8 (j : Int)] 5))
                have HXa := Lib.hid (HX0.out.alloc (.cells #[.int .u8 (j : Int)] 5))
                have HBa := Lib.hid (HB0.out.alloc hz0 (.cells #[.int .u8 (j : Int)] 5))
                have hza := HBa.out.size
                have HPa := Lib.hid (own_alloc HP0.out (.cells #[.int .u8 (j : Int)] 5))
                have HQa := Lib.hid (own_alloc HQ0.out (.cells #[.int .u8 (j : Int)] 5))
                have hSa := HSS.out _ HGa.out HXa.out
                refine hK.out _ _ (fun _ => hSa) ?_
                clear hK K
                try simp only [List.getElem_toArray, List.getElem_cons_zero, List.getElem_cons_succ, Act.put, List.setIfInBounds_toArray, List.set_cons_zero, List.set_cons_succ]
                have hya := Nat.le_trans hbase (Below.alloc (Below.refl _ W0) (Nat.le_refl _) (.cells #[.int .u8 (j : Int)] 5)).size
                refine wpAnyX_two (i := 6) (j := 11) (by kernel_rfl) rfl rfl (fun K hK => ?_) (fun K hK => ?_)
                · skip
                  refine step_push ty_u8 (by rfl) _ _ (by rfl) (w3.heap.size + 1) (.slice A1 m c1) m (bv (chs data (hv.take k)).1) (by rfl) HPa.out _ (.int .u8 (j : Int)) (by rfl) (Blk.new _ _ _) rfl hya hk1 hk2 ?_
                  intro v5 w5 hown5 hgrow5 _
                  obtain ⟨A5, c5, rfl, _, _⟩ := own_form hown5
                  have HG5 := Lib.hid (Blk.grown HGa.out hgrow5 hn1)
                  have HX5 := Lib.hid (Blk.grown HXa.out hgrow5 hn2)
                  have HB5 := Lib.hid (Below.grown HBa.out hgrow5 hza hn5)
                  have hz5 := HB5.out.size
                  have HO5 := Lib.hid hown5
                  have HQ5 := Lib.hid (own_grown HQa.out hgrow5 (fun g e => own_ne HPa.out HQa.out (by decide) g e))
                  have hS5 := HSS.out _ HG5.out HX5.out
                  refine hK.out _ _ (fun _ => hS5) ?_
                  clear hK K
                  try simp only [List.getElem_toArray, List.getElem_cons_zero, List.getElem_cons_succ, Act.put, List.setIfInBounds_toArray, List.set_cons_zero, List.set_cons_succ]
                  refine wpAnyX_pure (i := 13) (v := ?_) rfl (by kernel_rfl) (by kernel_rfl) (by kernel_rfl) (by kernel_rfl) (by kernel_rfl) (fun _ _ _ h => h) (Or.inl ⟨by rfl, ?_⟩) (fun _ => by exact hS5) ?_
                  rotate_left
                  · intro w hSw; (try dsimp only at hSw); go_simp; with_reducible rfl
                  try simp only [List.getElem_toArray, List.getElem_cons_zero, List.getElem_cons_succ, Act.put, List.setIfInBounds_toArray, List.set_cons_zero, List.set_cons_succ]
                  refine wpAnyX_one (i := 11) (by kernel_rfl) rfl (fun K hK => ?_)
                  go_simp
                  have HGb := Lib.hid (HG5.out.alloc (.cells #[.string hv[k].2] 9))
                  have HXb := Lib.hid (HX5.out.alloc (.cells #[.string hv[k].2] 9))
                  have HBb := Lib.hid (HB5.out.alloc hz5 (.cells #[.string hv[k].2] 9))
                  have hzb := HBb.out.size
                  skip
                  have HQb := Lib.hid (own_alloc HQ5.out (.cells #[.string hv[k].2] 9))
                  have hSb := HSS.out _ HGb.out HXb.out
                  refine hK.out _ _ (fun _ => hSb) ?_
                  clear hK K
                  try simp only [List.getElem_toArray, List.getElem_cons_zero, List.getElem_cons_succ, Act.put, List.setIfInBounds_toArray, List.set_cons_zero, List.set_cons_succ]
                  have hyb : w3.heap.size + 1 ≤ (w5.alloc (.cells #[.string hv[k].2] 9)).heap.size := Nat.le_trans (Nat.le_trans hya hgrow5.size) (Below.alloc (Below.refl _ w5) (Nat.le_refl _) _).size
                  have HOb := Lib.hid (own_alloc HO5.out (.cells #[.string hv[k].2] 9))
                  refine wpAnyX_one (i := 12) (by kernel_rfl) rfl (fun K hK => ?_)
                  refine step_push ty_str (by rfl) _ _ (by rfl) (w3.heap.size + 1) (.slice A2 m c2) m ((chs data (hv.take k)).2.map Value.string) (by rfl) HQb.out _ (.string hv[k].2) (by rfl) (Blk.new _ _ _) rfl hyb hk1 hk3 ?_
                  intro v6 w6 hown6 hgrow6 _
                  obtain ⟨A6, c6, rfl, _, _⟩ := own_form hown6
                  have HG6 := Lib.hid (Blk.grown HGb.out hgrow6 hn3)
                  have HX6 := Lib.hid (Blk.grown HXb.out hgrow6 hn4)
                  have HB6 := Lib.hid (Below.grown HBb.out hgrow6 hzb hn6)
                  have HO6 := Lib.hid (own_grown HOb.out hgrow6 (fun g e => own_ne HQb.out HOb.out (by decide) g e))
                  have HR6 := Lib.hid hown6
                  have hS6 := HSS.out _ HG6.out HX6.out
                  refine hK.out _ _ (fun _ => hS6) ?_
                  clear hK K
                  try simp only [List.getElem_toArray, List.getElem_cons_zero, List.getElem_cons_succ, Act.put, List.setIfInBounds_toArray, List.set_cons_zero, List.set_cons_succ]
                  have hgcell_0 := HG6.out.cell 0
                  have hgcell_1 := HG6.out.cell 1
                  have hgfrozen_0 := HG6.out.frozen 0
                  have hgfrozen_1 := HG6.out.frozen 1
                  refine wpAnyX_one (i := 14) (by kernel_rfl) rfl (fun K hK => ?_)
                  go_simp
                  refine hK.out _ _ (fun h => absurd h (by decide)) ?_
                  clear hK K
                  try simp only [List.getElem_toArray, List.getElem_cons_zero, List.getElem_cons_succ, Act.put, List.setIfInBounds_toArray, List.set_cons_zero, List.set_cons_succ]
                  refine wpAnyX_pure (i := 15) (v := ?_) rfl (by kernel_rfl) (by kernel_rfl) (by kernel_rfl) (by kernel_rfl) (by kernel_rfl) (fun _ _ _ h => h) (Or.inl ⟨by rfl, ?_⟩) (fun h => absurd h (by decide)) ?_
                  rotate_left
                  · intro w hSw; (try dsimp only at hSw); go_simp; with_reducible rfl
                  try simp only [List.getElem_toArray, List.getElem_cons_zero, List.getElem_cons_succ, Act.put, List.setIfInBounds_toArray, List.set_cons_zero, List.set_cons_succ]
                  refine wpAnyX_one (i := 16) (by kernel_rfl) rfl (fun K hK => ?_)
                  go_simp
                  refine hK.out _ _ (fun h => absurd h (by decide)) ?_
                  clear hK K
                  try simp only [List.getElem_toArray, List.getElem_cons_zero, List.getElem_cons_succ, Act.put, List.setIfInBounds_toArray, List.set_cons_zero, List.set_cons_succ]
                  refine wpAnyX_done (by kernel_rfl) (NoPanic.normal ?_) _
                  clear hgcell_0 hgcell_1 hgfrozen_0 hgfrozen_1 hS0 hS5 hS6
                  have hj1 : (Value.slice A5 (m + 1) c5).ownBlock ≠ some w3.heap.size := fun e => by have := (HO6.out.lt _ e).1; omega
                  have hj2 : (Value.slice A6 (m + 1) c6).ownBlock ≠ some w3.heap.size := fun e => by have := (HR6.out.lt _ e).1; omega
                  have HJ1 := Lib.hid hj1
                  have HJ2 := Lib.hid hj2
                  clear hj1 hj2
                  go_wp2
                  go_roundw
                  case rel =>
                    refine ⟨k + 1, m + 1, _, _, by omega, by go_num, Lib.hid (by rw [HST.out, List.length_append, ← HMM.out]; rfl), by omega, (HG6.out.set_ 0 _).set_ 1 _, ?_, ?_, (HB6.out.setCell (Nat.le_refl _) _).setCell (Nat.le_refl _) _⟩
                    · rw [HST.out, bv_append, show bv [byt8 hv[k].1] = [.int .u8 (j : Int)] by rw [HJ.out]; exact congrArg (· :: []) (B_ofNat (by omega))]
                      exact ownsRow_setCell_other (ownsRow_setCell_other HO6.out HJ1.out _) HJ1.out _
                    · rw [HST.out, List.map_append]
                      exact ownsRow_setCell_other (ownsRow_setCell_other HR6.out HJ2.out _) HJ2.out _
                  case measure => simp [intOf]; omega
                · skip
                  go_simp
                  have HGc := Lib.hid (HGa.out.alloc (.cells #[.string hv[k].2] 9))
                  have HXc := Lib.hid (HXa.out.alloc (.cells #[.string hv[k].2] 9))
                  have HBc := Lib.hid (HBa.out.alloc hza (.cells #[.string hv[k].2] 9))
                  have hzc := HBc.out.size
                  have HPc := Lib.hid (own_alloc HPa.out (.cells #[.string hv[k].2] 9))
                  have HQc := Lib.hid (own_alloc HQa.out (.cells #[.string hv[k].2] 9))
                  have hSc := HSS.out _ HGc.out HXc.out
                  refine hK.out _ _ (fun _ => hSc) ?_
                  clear hK K
                  try simp only [List.getElem_toArray, List.getElem_cons_zero, List.getElem_cons_succ, Act.put, List.setIfInBounds_toArray, List.set_cons_zero, List.set_cons_succ]
                  have hyc := Nat.le_trans hya (Below.alloc (Below.refl _ (W0.alloc (.cells #[.int .u8 (j : Int)] 5))) (Nat.le_refl _) (.cells #[.string hv[k].2] 9)).size
                  refine wpAnyX_one (i := 6) (by kernel_rfl) rfl (fun K hK => ?_)
                  refine step_push ty_u8 (by rfl) _ _ (by rfl) (w3.heap.size + 1) (.slice A1 m c1) m (bv (chs data (hv.take k)).1) (by rfl) HPc.out _ (.int .u8 (j : Int)) (by rfl) (Blk.alloc (Blk.new _ _ _) _) rfl hyc hk1 hk2 ?_
                  intro v5 w5 hown5 hgrow5 _
                  obtain ⟨A5, c5, rfl, _, _⟩ := own_form hown5
                  have HG5 := Lib.hid (Blk.grown HGc.out hgrow5 hn1)
                  have HX5 := Lib.hid (Blk.grown HXc.out hgrow5 hn2)
                  have HB5 := Lib.hid (Below.grown HBc.out hgrow5 hzc hn5)
                  have hz5 := HB5.out.size
                  have HO5 := Lib.hid hown5
                  have HQ5 := Lib.hid (own_grown HQc.out hgrow5 (fun g e => own_ne HPc.out HQc.out (by decide) g e))
                  have hS5 := HSS.out _ HG5.out HX5.out
                  refine hK.out _ _ (fun _ => hS5) ?_
                  clear hK K
                  try simp only [List.getElem_toArray, List.getElem_cons_zero, List.getElem_cons_succ, Act.put, List.setIfInBounds_toArray, List.set_cons_zero, List.set_cons_succ]
                  have hy5 := Nat.le_trans hyc hgrow5.size
                  have hl5 : some (W0.heap.size + 1) ≠ (Value.slice A1 m c1).ownBlock := fun e => by have h1 := (HOX.out.lt _ e.symm).2; omega
                  have HL5 := Lib.hid (Blk.grown (show Blk ((W0.alloc (.cells #[.int .u8 (j : Int)] 5)).alloc (.cells #[.string hv[k].2] 9)) (W0.heap.size + 1) 9 #[.string hv[k].2] by have := Blk.new (W0.alloc (.cells #[.int .u8 (j : Int)] 5)) 9 #[.string hv[k].2]; simpa using this) hgrow5 hl5)
                  clear hl5
                  refine wpAnyX_pure (i := 13) (v := ?_) rfl (by kernel_rfl) (by kernel_rfl) (by kernel_rfl) (by kernel_rfl) (by kernel_rfl) (fun _ _ _ h => h) (Or.inl ⟨by rfl, ?_⟩) (fun _ => by exact hS5) ?_
                  rotate_left
                  · intro w hSw; (try dsimp only at hSw); go_simp; with_reducible rfl
                  try simp only [List.getElem_toArray, List.getElem_cons_zero, List.getElem_cons_succ, Act.put, List.setIfInBounds_toArray, List.set_cons_zero, List.set_cons_succ]
                  refine wpAnyX_one (i := 12) (by kernel_rfl) rfl (fun K hK => ?_)
                  refine step_push ty_str (by rfl) _ _ (by rfl) (w3.heap.size + 1) (.slice A2 m c2) m ((chs data (hv.take k)).2.map Value.string) (by rfl) HQ5.out _ (.string hv[k].2) (by rfl) HL5.out rfl hy5 hk1 hk3 ?_
                  intro v6 w6 hown6 hgrow6 _
                  obtain ⟨A6, c6, rfl, _, _⟩ := own_form hown6
                  have HG6 := Lib.hid (Blk.grown HG5.out hgrow6 hn3)
                  have HX6 := Lib.hid (Blk.grown HX5.out hgrow6 hn4)
                  have HB6 := Lib.hid (Below.grown HB5.out hgrow6 hz5 hn6)
                  have HO6 := Lib.hid (own_grown HO5.out hgrow6 (fun g e => own_ne HQ5.out HO5.out (by decide) g e))
                  have HR6 := Lib.hid hown6
                  have hS6 := HSS.out _ HG6.out HX6.out
                  refine hK.out _ _ (fun _ => hS6) ?_
                  clear hK K
                  try simp only [List.getElem_toArray, List.getElem_cons_zero, List.getElem_cons_succ, Act.put, List.setIfInBounds_toArray, List.set_cons_zero, List.set_cons_succ]
                  have hgcell_0 := HG6.out.cell 0
                  have hgcell_1 := HG6.out.cell 1
                  have hgfrozen_0 := HG6.out.frozen 0
                  have hgfrozen_1 := HG6.out.frozen 1
                  refine wpAnyX_one (i := 14) (by kernel_rfl) rfl (fun K hK => ?_)
                  go_simp
                  refine hK.out _ _ (fun h => absurd h (by decide)) ?_
                  clear hK K
                  try simp only [List.getElem_toArray, List.getElem_cons_zero, List.getElem_cons_succ, Act.put, List.setIfInBounds_toArray, List.set_cons_zero, List.set_cons_succ]
                  refine wpAnyX_pure (i := 15) (v := ?_) rfl (by kernel_rfl) (by kernel_rfl) (by kernel_rfl) (by kernel_rfl) (by kernel_rfl) (fun _ _ _ h => h) (Or.inl ⟨by rfl, ?_⟩) (fun h => absurd h (by decide)) ?_
                  rotate_left
                  · intro w hSw; (try dsimp only at hSw); go_simp; with_reducible rfl
                  try simp only [List.getElem_toArray, List.getElem_cons_zero, List.getElem_cons_succ, Act.put, List.setIfInBounds_toArray, List.set_cons_zero, List.set_cons_succ]
                  refine wpAnyX_one (i := 16) (by kernel_rfl) rfl (fun K hK => ?_)
                  go_simp
                  refine hK.out _ _ (fun h => absurd h (by decide)) ?_
                  clear hK K
                  try simp only [List.getElem_toArray, List.getElem_cons_zero, List.getElem_cons_succ, Act.put, List.setIfInBounds_toArray, List.set_cons_zero, List.set_cons_succ]
                  refine wpAnyX_done (by kernel_rfl) (NoPanic.normal ?_) _
                  clear hgcell_0 hgcell_1 hgfrozen_0 hgfrozen_1 hS0 hS5 hS6
                  have hj1 : (Value.slice A5 (m + 1) c5).ownBlock ≠ some w3.heap.size := fun e => by have := (HO6.out.lt _ e).1; omega
                  have hj2 : (Value.slice A6 (m + 1) c6).ownBlock ≠ some w3.heap.size := fun e => by have := (HR6.out.lt _ e).1; omega
                  have HJ1 := Lib.hid hj1
                  have HJ2 := Lib.hid hj2
                  clear hj1 hj2
                  go_wp2
                  go_roundw
                  case rel =>
                    refine ⟨k + 1, m + 1, _, _, by omega, by go_num, Lib.hid (by rw [HST.out, List.length_append, ← HMM.out]; rfl), by omega, (HG6.out.set_ 0 _).set_ 1 _, ?_, ?_, (HB6.out.setCell (Nat.le_refl _) _).setCell (Nat.le_refl _) _⟩
                    · rw [HST.out, bv_append, show bv [byt8 hv[k].1] = [.int .u8 (j : Int)] by rw [HJ.out]; exact congrArg (· :: []) (B_ofNat (by omega))]
                      exact ownsRow_setCell_other (ownsRow_setCell_other HO6.out HJ1.out _) HJ1.out _
                    · rw [HST.out, List.map_append]
                      exact ownsRow_setCell_other (ownsRow_setCell_other HR6.out HJ2.out _) HJ2.out _
                  case measure => simp [intOf]; omega
              · skip
                go_simp
                have HGd := Lib.hid (HG0.out.alloc (.cells #[.string hv[k].2] 9))
                have HXd := Lib.hid (HX0.out.alloc (.cells #[.string hv[k].2] 9))
                have HBd := Lib.hid (HB0.out.alloc hz0 (.cells #[.string hv[k].2] 9))
                have hzd := HBd.out.size
                have HPd := Lib.hid (own_alloc HP0.out (.cells #[.string hv[k].2] 9))
                have HQd := Lib.hid (own_alloc HQ0.out (.cells #[.string hv[k].2] 9))
                have hSd := HSS.out _ HGd.out HXd.out
                refine hK.out _ _ (fun _ => hSd) ?_
                clear hK K
                try simp only [List.getElem_toArray, List.getElem_cons_zero, List.getElem_cons_succ, Act.put, List.setIfInBounds_toArray, List.set_cons_zero, List.set_cons_succ]
                have hyd := Nat.le_trans hbase (Below.alloc (Below.refl _ W0) (Nat.le_refl _) (.cells #[.string hv[k].2] 9)).size
                refine wpAnyX_one (i := 5) (by kernel_rfl) rfl (fun K hK => ?_)
                go_simp
                have HGe := Lib.hid (HGd.out.alloc (.cells #[.int .u8 (j : Int)] 5))
                have HXe := Lib.hid (HXd.out.alloc (.cells #[.int .u8 (j : Int)] 5))
                have HBe := Lib.hid (HBd.out.alloc hzd (.cells #[.int .u8 (j : Int)] 5))
                have hze := HBe.out.size
                have HPe := Lib.hid (own_alloc HPd.out (.cells #[.int .u8 (j : Int)] 5))
                have HQe := Lib.hid (own_alloc HQd.out (.cells #[.int .u8 (j : Int)] 5))
                have hSe := HSS.out _ HGe.out HXe.out
                refine hK.out _ _ (fun _ => hSe) ?_
                clear hK K
                try simp only [List.getElem_toArray, List.getElem_cons_zero, List.getElem_cons_succ, Act.put, List.setIfInBounds_toArray, List.set_cons_zero, List.set_cons_succ]
                have hye := Nat.le_trans hyd (Below.alloc (Below.refl _ (W0.alloc (.cells #[.string hv[k].2] 9))) (Nat.le_refl _) (.cells #[.int .u8 (j : Int)] 5)).size
                have HLe := Lib.hid (show Blk ((W0.alloc (.cells #[.string hv[k].2] 9)).alloc (.cells #[.int .u8 (j : Int)] 5)) (W0.heap.size + 1) 5 #[.int .u8 (j : Int)] by have := Blk.new (W0.alloc (.cells #[.string hv[k].2] 9)) 5 #[.int .u8 (j : Int)]; simpa using this)
                refine wpAnyX_one (i := 6) (by kernel_rfl) rfl (fun K hK => ?_)
                refine step_push ty_u8 (by rfl) _ _ (by rfl) (w3.heap.size + 1) (.slice A1 m c1) m (bv (chs data (hv.take k)).1) (by rfl) HPe.out _ (.int .u8 (j : Int)) (by rfl) HLe.out rfl hye hk1 hk2 ?_
                intro v5 w5 hown5 hgrow5 _
                obtain ⟨A5, c5, rfl, _, _⟩ := own_form hown5
                have HG5 := Lib.hid (Blk.grown HGe.out hgrow5 hn1)
                have HX5 := Lib.hid (Blk.grown HXe.out hgrow5 hn2)
                have HB5 := Lib.hid (Below.grown HBe.out hgrow5 hze hn5)
                have hz5 := HB5.out.size
                have HO5 := Lib.hid hown5
                have HQ5 := Lib.hid (own_grown HQe.out hgrow5 (fun g e => own_ne HPe.out HQe.out (by decide) g e))
                have hS5 := HSS.out _ HG5.out HX5.out
                refine hK.out _ _ (fun _ => hS5) ?_
                clear hK K
                try simp only [List.getElem_toArray, List.getElem_cons_zero, List.getElem_cons_succ, Act.put, List.setIfInBounds_toArray, List.set_cons_zero, List.set_cons_succ]
                have hy5 := Nat.le_trans hye hgrow5.size
                have hl5 : some W0.heap.size ≠ (Value.slice A1 m c1).ownBlock := fun e => by have h1 := (HOX.out.lt _ e.symm).2; omega
                have HL5 := Lib.hid (Blk.grown (Blk.alloc (Blk.new W0 9 #[.string hv[k].2]) (.cells #[.int .u8 (j : Int)] 5)) hgrow5 hl5)
                clear hl5
                refine wpAnyX_pure (i := 13) (v := ?_) rfl (by kernel_rfl) (by kernel_rfl) (by kernel_rfl) (by kernel_rfl) (by kernel_rfl) (fun _ _ _ h => h) (Or.inl ⟨by rfl, ?_⟩) (fun _ => by exact hS5) ?_
                rotate_left
                · intro w hSw; (try dsimp only at hSw); go_simp; with_reducible rfl
                try simp only [List.getElem_toArray, List.getElem_cons_zero, List.getElem_cons_succ, Act.put, List.setIfInBounds_toArray, List.set_cons_zero, List.set_cons_succ]
                refine wpAnyX_one (i := 12) (by kernel_rfl) rfl (fun K hK => ?_)
                refine step_push ty_str (by rfl) _ _ (by rfl) (w3.heap.size + 1) (.slice A2 m c2) m ((chs data (hv.take k)).2.map Value.string) (by rfl) HQ5.out _ (.string hv[k].2) (by rfl) HL5.out rfl hy5 hk1 hk3 ?_
                intro v6 w6 hown6 hgrow6 _
                obtain ⟨A6, c6, rfl, _, _⟩ := own_form hown6
                have HG6 := Lib.hid (Blk.grown HG5.out hgrow6 hn3)
                have HX6 := Lib.hid (Blk.grown HX5.out hgrow6 hn4)
                have HB6 := Lib.hid (Below.grown HB5.out hgrow6 hz5 hn6)
                have HO6 := Lib.hid (own_grown HO5.out hgrow6 (fun g e => own_ne HQ5.out HO5.out (by decide) g e))
                have HR6 := Lib.hid hown6
                have hS6 := HSS.out _ HG6.out HX6.out
                refine hK.out _ _ (fun _ => hS6) ?_
                clear hK K
                try simp only [List.getElem_toArray, List.getElem_cons_zero, List.getElem_cons_succ, Act.put, List.setIfInBounds_toArray, List.set_cons_zero, List.set_cons_succ]
                have hgcell_0 := HG6.out.cell 0
                have hgcell_1 := HG6.out.cell 1
                have hgfrozen_0 := HG6.out.frozen 0
                have hgfrozen_1 := HG6.out.frozen 1
                refine wpAnyX_one (i := 14) (by kernel_rfl) rfl (fun K hK => ?_)
                go_simp
                refine hK.out _ _ (fun h => absurd h (by decide)) ?_
                clear hK K
                try simp only [List.getElem_toArray, List.getElem_cons_zero, List.getElem_cons_succ, Act.put, List.setIfInBounds_toArray, List.set_cons_zero, List.set_cons_succ]
                refine wpAnyX_pure (i := 15) (v := ?_) rfl (by kernel_rfl) (by kernel_rfl) (by kernel_rfl) (by kernel_rfl) (by kernel_rfl) (fun _ _ _ h => h) (Or.inl ⟨by rfl, ?_⟩) (fun h => absurd h (by decide)) ?_
                rotate_left
                · intro w hSw; (try dsimp only at hSw); go_simp; with_reducible rfl
                try simp only [List.getElem_toArray, List.getElem_cons_zero, List.getElem_cons_succ, Act.put, List.setIfInBounds_toArray, List.set_cons_zero, List.set_cons_succ]
                refine wpAnyX_one (i := 16) (by kernel_rfl) rfl (fun K hK => ?_)
                go_simp
                refine hK.out _ _ (fun h => absurd h (by decide)) ?_
                clear hK K
                try simp only [List.getElem_toArray, List.getElem_cons_zero, List.getElem_cons_succ, Act.put, List.setIfInBounds_toArray, List.set_cons_zero, List.set_cons_succ]
                refine wpAnyX_done (by kernel_rfl) (NoPanic.normal ?_) _
                clear hgcell_0 hgcell_1 hgfrozen_0 hgfrozen_1 hS0 hS5 hS6
                have hj1 : (Value.slice A5 (m + 1) c5).ownBlock ≠ some w3.heap.size := fun e => by have := (HO6.out.lt _ e).1; omega
                have hj2 : (Value.slice A6 (m + 1) c6).ownBlock ≠ some w3.heap.size := fun e => by have := (HR6.out.lt _ e).1; omega
                have HJ1 := Lib.hid hj1
                have HJ2 := Lib.hid hj2
                clear hj1 hj2
                go_wp2
                go_roundw
                case rel =>
                  refine ⟨k + 1, m + 1, _, _, by omega, by go_num, Lib.hid (by rw [HST.out, List.length_append, ← HMM.out]; rfl), by omega, (HG6.out.set_ 0 _).set_ 1 _, ?_, ?_, (HB6.out.setCell (Nat.le_refl _) _).setCell (Nat.le_refl _) _⟩
                  · rw [HST.out, bv_append, show bv [byt8 hv[k].1] = [.int .u8 (j : Int)] by rw [HJ.out]; exact congrArg (· :: []) (B_ofNat (by omega))]
                    exact ownsRow_setCell_other (ownsRow_setCell_other HO6.out HJ1.out _) HJ1.out _
                  · rw [HST.out, List.map_append]
                    exact ownsRow_setCell_other (ownsRow_setCell_other HR6.out HJ2.out _) HJ2.out _
                case measure => simp [intOf]; omega
          · have HST := Lib.hid (show chs data (hv.take (k + 1)) = chs data (hv.take k) by rw [HCS.out, chStep_skip fun h => hmlt (by rw [HMM.out]; exact h.1)])
            go_wp2
            go_roundw
            case rel => exact ⟨k + 1, m, _, _, by omega, by go_num, Lib.hid (by rw [HST.out]; exact HMM.out), hmd, HBK.out.alloc _, by rw [HST.out]; exact own_alloc HOX.out _, by rw [HST.out]; exact own_alloc HOB.out _, HB.out.alloc hbs _⟩
            case measure => simp [intOf]; omega
        · have hkn : n ≤ k := by omega
          have HT := Lib.hid (show hv.take k = hv from List.take_of_length_le (by rw [← HN.out]; exact hkn))
          have hg0 := HBK.out.cell 0
          have hg1 := HBK.out.cell 1
          have HBW := Lib.hid (HB3.out.trans (HB.out.mono HB3.out.size))
          have HR4 := Lib.hid (HR3.out.below HB.out)
          have hr0 := HR4.out.cell 0
          have hr1 := HR4.out.cell 1
          have hf0 := HR4.out.frozen 0
          have hf1 := HR4.out.frozen 1
          have hrl := HR4.out.lt
          by_cases hmlt : m < data
          · have HLT := Lib.hid (show (chs data hv).1.length < data by have := HMM.out; rw [HT.out] at this; rw [← this]; exact hmlt)
            go_wp2
            refine bodyPost_ret (v := .tuple #[.agg #[.slice none 0 0, .slice none 0 0], .int .i64 19]) (by simp [results, Try.results27, go_sem, hr0, hr1]) rfl ⟨none, 0, 0, none, 0, 0, ?_, ?_, ?_⟩
            · rw [her.out, HE.out, HQ1.out, HQ2.out, if_pos HLT.out]; rfl
            · intro h; rw [her.out, HE.out, HQ1.out, HQ2.out, if_pos HLT.out] at h; simp at h
            · exact (HBW.out.setCell (by simp) _).setCell (by simp) _
          · have hmd2 : m = data := by omega
            have HNL := Lib.hid (show ¬ (chs data hv).1.length < data by have := HMM.out; rw [HT.out] at this; rw [← this]; exact hmlt)
            have hc := chs_inv data hv
            have HXL := Lib.hid (show (chs data hv).1.length = m by have := HMM.out; rw [HT.out] at this; exact this.symm)
            have HBL := Lib.hid (show (chs data hv).2.length = (chs data hv).1.length from hc.len.symm)
            have HSB := Lib.hid (show ∀ b ∈ (chs data hv).2, b.size = L from fun b hb => by
              obtain ⟨q, hq, rfl⟩ := List.mem_iff_getElem.1 hb
              obtain ⟨x, hx, _, h2⟩ := hc.from_ q (by rw [hc.len]; exact hq)
              rw [show (chs data hv).2[q] = (chs data hv).2.getD q default by simp [List.getD, List.getElem?_eq_getElem hq], ← h2]
              exact HSZ.out x hx)
            have hL : L ≤ 65536 := by
              have h0 : 0 < (chs data hv).1.length := by rw [HXL.out]; omega
              obtain ⟨x, hx, _, _⟩ := hc.from_ 0 h0
              rw [← HSZ.out x hx]
              exact (HM.out x hx).2
            have eg3 := enters_of Try.func45 (by kernel_rfl) rfl
            have HXF := Lib.hid (show Byt wr A1 m c1 (chs data hv).1 by have := HX1.out; rwa [HT.out] at this)
            have HBF := Lib.hid (show Lst Value.string wr A2 m c2 (chs data hv).2 by have := HX2.out; rwa [HT.out] at this)
            have HC3 := Lib.hid (contf_h _ _ eg3 wr A n c hv HH.out (off (chs data hv)) fun q hq => off_b wr A1 m c1 _ HXF.out A2 m c2 _ HBF.out HBL.out (by rw [HXL.out]; omega) (by rw [HXL.out]; omega) L hL HSB.out w3.heap.size HBK.out hv[q] (HIX.out _ (List.getElem_mem hq)))
            have hcv4 := ((HV3.out.below HB.out)).cell 0
            clear hc eg3 hmd2
            go_wp2_with fail
            refine HC3.out.mono ?_
            cases hq3 : hv.any (off (chs data hv)) with
            | true =>
              have HQ3 := Lib.hid hq3
              rintro e w4 ⟨rfl, hb4⟩
              have HB5 := Lib.hid (HBW.out.trans (hb4.mono HBW.out.size))
              have HR5 := Lib.hid (HR4.out.below hb4)
              clear hb4 hr0 hr1 hf0 hf1 hrl hg0 hg1 hcv4 hq3
              have hr0 := HR5.out.cell 0
              have hr1 := HR5.out.cell 1
              have hf0 := HR5.out.frozen 0
              have hf1 := HR5.out.frozen 1
              have hrl := HR5.out.lt
              go_wp2
              refine bodyPost_ret (v := .tuple #[.agg #[.slice none 0 0, .slice none 0 0], .int .i64 20]) (by simp [results, Try.results27, go_sem, hr0, hr1]) rfl ⟨none, 0, 0, none, 0, 0, ?_, ?_, ?_⟩
              · rw [her.out, HE.out, HQ1.out, HQ2.out, if_neg HNL.out, HQ3.out]; rfl
              · intro h; rw [her.out, HE.out, HQ1.out, HQ2.out, if_neg HNL.out, HQ3.out] at h; simp at h
              · exact (HB5.out.setCell (by simp) _).setCell (by simp) _
            | false =>
              have HQ3 := Lib.hid hq3
              rintro e w4 ⟨rfl, hb4⟩
              have HB5 := Lib.hid (HBW.out.trans (hb4.mono HBW.out.size))
              have HR5 := Lib.hid (HR4.out.below hb4)
              have HK5 := Lib.hid (HBK.out.below hb4)
              have HXG := Lib.hid (HXF.out.below hb4)
              have HBG := Lib.hid (HBF.out.below hb4)
              have HO5 := Lib.hid (own_below HOX.out hb4)
              have HP5 := Lib.hid (own_below HOB.out hb4)
              clear hb4 hr0 hr1 hf0 hf1 hrl hg0 hg1 hcv4 hq3
              have hr0 := HR5.out.cell 0
              have hr1 := HR5.out.cell 1
              have hf0 := HR5.out.frozen 0
              have hf1 := HR5.out.frozen 1
              have hrl := HR5.out.lt
              have hg0 := HK5.out.cell 0
              have hg1 := HK5.out.cell 1
              go_wp2
              refine bodyPost_ret (v := .tuple #[.agg #[.slice A1 m c1, .slice A2 m c2], .int .i64 0]) (by simp [results, Try.results27, go_sem, hr0, hr1]) rfl ⟨A1, m, c1, A2, m, c2, ?_, ?_, ?_⟩
              · rw [her.out, HE.out, HQ1.out, HQ2.out, if_neg HNL.out, HQ3.out]; rfl
              · intro _
                have hj1 : (Value.slice A1 m c1).ownBlock ≠ some (w.heap.size + 1) := fun e => by have := (HO5.out.lt _ e).1; omega
                have hj2 : (Value.slice A2 m c2).ownBlock ≠ some (w.heap.size + 1) := fun e => by have := (HP5.out.lt _ e).1; omega
                obtain ⟨A7, c7, e7, h7, _⟩ := byt_own (ownsRow_setCell_other (ownsRow_setCell_other HO5.out (a := ⟨w.heap.size + 1, 0, none⟩) hj1 (.slice A1 m c1)) (a := ⟨w.heap.size + 1, 1, none⟩) hj1 (.slice A2 m c2))
                obtain ⟨A8, c8, e8, h8, _⟩ := lst_own (ownsRow_setCell_other (ownsRow_setCell_other HP5.out (a := ⟨w.heap.size + 1, 0, none⟩) hj2 (.slice A1 m c1)) (a := ⟨w.heap.size + 1, 1, none⟩) hj2 (.slice A2 m c2))
                injection e7 with e7a _ e7c
                injection e8 with e8a _ e8c
                subst e7a e7c e8a e8c
                rw [HT.out] at h7 h8
                exact ⟨h7, h8⟩
              · exact (HB5.out.setCell (by simp) _).setCell (by simp) _

end Go.Proofs.Ytogcgeiocndlbaa
