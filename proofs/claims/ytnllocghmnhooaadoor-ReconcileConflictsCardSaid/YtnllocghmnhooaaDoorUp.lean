/- Reconcile: the reference's Answer. -/
import Derived.Test.YtnllocghmnhooaaDoorUo
import Derived.Test.YtnllocghmnhooaaDoorUn
namespace Go.Proofs.YtnllocghmnhooaaDoor
open Go.RowKit
set_option linter.unusedVariables false
set_option linter.unusedSimpArgs false
namespace Rc
open Bk (bl bl_len bl_ofL ofL_bl ofL_size ofL_append nstr nstrs)

set_option maxRecDepth 100000 in
set_option maxHeartbeats 4000000 in
theorem ranswer_f (l : List Rec) (hv : ∀ x ∈ l, Val x) (r : Rng) (w : World) (A : Option Addr) (c : Nat) (h : Rcs w A c l) (hl : l.length ≤ 5000) :
    Calls Tryd.prog 15 #[.slice A l.length c, rgv r] w (AnsP w l r) := by
  have HS := Lib.hid (fun f t W (hb : Below w.heap.size w W) => rsum_f l hv f t W A c (h.below hb) hl)
  have HIN := Lib.hid (fun W (hb : Below w.heap.size w W) => rin_f l hv (ofL r.f) (ofL r.t) W A c (h.below hb) (by omega))
  have HKK := Lib.hid (fun x (hx : Val x) W (hb : Below w.heap.size w W) => rkey_f x hx W)
  rw [bl_ofL, bl_ofL] at HIN
  have HMID := Lib.hid (fun (k : Nat) (hk : k < (inn l r.f r.t).length) (e : k = (inn l r.f r.t).length / 2) => (show mid (inn l r.f r.t) = key (inn l r.f r.t)[k] by subst e; exact mid_eq hk))
  have HY := Lib.hid (fun h1 h2 => agr_yes (l := l) (r := r) h1 h2)
  have HN1 := Lib.hid (fun h1 => agr_no1 (l := l) (r := r) h1)
  have HN2 := Lib.hid (fun h2 => agr_no2 (l := l) (r := r) h2)
  have HP1 := Lib.hid (fun w' P R => ans_agr (w := w) (w' := w') (l := l) (r := r) (P := P) (R := R))
  have HP2 := Lib.hid (fun w' P R => ans_few (w := w) (w' := w') (l := l) (r := r) (P := P) (R := R))
  have HP3 := Lib.hid (fun w' P R => ans_parts (w := w) (w' := w') (l := l) (r := r) (P := P) (R := R))
  have HLV := Lib.hid (show ∀ x ∈ inn l r.f r.t, Val x from fun x hx => hv x (inn_mem.1 hx).1)
  have HLL := Lib.hid (show (inn l r.f r.t).length ≤ 5000 from Nat.le_trans (inn_len _ _ _) hl)
  have HSM := Lib.hid (show rgv (sm Hd l r.f r.t) = .agg #[.string (ofL r.f), .string (ofL r.t), .int .i64 ((inn l r.f r.t).length : Int), .string (ofL (Hd (inn l r.f r.t)))] from rfl)
  obtain ⟨L, hL⟩ : ∃ L, L = inn l r.f r.t := ⟨_, rfl⟩
  rw [← hL] at HIN HMID HY HN1 HN2 HP2 HP3 HLV HLL HSM
  have HQL := Lib.hid (fun f t => (show rgv (sm Hd l f t) = .agg #[.string (ofL f), .string (ofL t), .int .i64 (sm Hd l f t).n, .string (ofL (sm Hd l f t).d)] from rfl))
  obtain ⟨n, hn⟩ : ∃ n, n = l.length := ⟨_, rfl⟩
  rw [← hn] at HS HIN ⊢
  clear hn hL h hv
  obtain ⟨rf, hrf⟩ : ∃ x, x = r.f := ⟨_, rfl⟩
  obtain ⟨rt, hrt⟩ : ∃ x, x = r.t := ⟨_, rfl⟩
  show Calls Tryd.prog 15 #[.slice A n c, .agg #[.string (ofL r.f), .string (ofL r.t), .int .i64 r.n, .string (ofL r.d)]] w _
  rw [← hrf, ← hrt] at HSM HIN HP3 ⊢
  clear hrf hrt
  have HS0 := Lib.hid (HS.out rf rt)
  go_enter Tryd.func15, Tryd.ntmps15
  go_wp2_with fail
  have HX := Lib.hid (Blk.new w 24 #[.string (ofL rf), .string (ofL rt), .int .i64 r.n, .string (ofL r.d)])
  have HB := Lib.hid ((Below.refl _ w).alloc (Nat.le_refl _) (.cells #[.string (ofL rf), .string (ofL rt), .int .i64 r.n, .string (ofL r.d)] 24))
  refine (HS0.out _ HB.out).mono ?_
  rintro e w1 ⟨rfl, hb⟩
  rw [HSM.out]
  have HX1 := Lib.hid (HX.out.below hb)
  have HB1 := Lib.hid (HB.out.trans (hb.mono HB.out.size))
  clear hb HX HB
  have HX2 := Lib.hid (HX1.out.alloc (.cells #[.string (ofL rf), .string (ofL rt), .int .i64 (L.length : Int), .string (ofL (Hd L))] 24))
  have HB2 := Lib.hid (HB1.out.alloc HB1.out.size (.cells #[.string (ofL rf), .string (ofL rt), .int .i64 (L.length : Int), .string (ofL (Hd L))] 24))
  have c0 : w1.cell? ⟨w.heap.size, 0, none⟩ = some (.string (ofL rf)) := HX1.out.cell 0
  have c1 : w1.cell? ⟨w.heap.size, 1, none⟩ = some (.string (ofL rt)) := HX1.out.cell 1
  have c2 : w1.cell? ⟨w.heap.size, 2, none⟩ = some (.int .i64 r.n) := HX1.out.cell 2
  have c3 : w1.cell? ⟨w.heap.size, 3, none⟩ = some (.string (ofL r.d)) := HX1.out.cell 3
  have e0 := HX2.out.cell 0
  have e1 := HX2.out.cell 1
  have e2 := HX2.out.cell 2
  have e3 := HX2.out.cell 3
  simp only [List.getElem?_toArray, List.getElem?_cons_zero, List.getElem?_cons_succ] at e0 e1 e2 e3
  by_cases q1 : (L.length : Int) = r.n
  · have f1 : ((L.length : Int) == r.n) = true := by rw [q1]; simp
    by_cases q2 : Hd L = r.d
    · have f2 : ((ofL (Hd L)).toList == (ofL r.d).toList) = true := by rw [q2]; simp
      have f3 : (ofL (Hd L)).toList = (ofL r.d).toList := by rw [q2]
      have HA := Lib.hid (HY.out q1 q2)
      clear q1 q2
      go_wp2_with fail
      go_ret3
      exact HP1.out _ _ _ HA.out (RgV.zero_ _ _) (RcV.zero_ _ _) ((HB2.out.alloc HB2.out.size _).alloc (HB2.out.alloc HB2.out.size _).size _)
    · have f2 := tl_neq q2
      have f3 := tl_neq' q2
      have HA := Lib.hid (HN2.out q2)
      clear q1 q2
      go_wp2_with fail
      refine (HIN.out _ HB2.out).mono ?_
      rintro e w3 ho
      obtain ⟨R, cr, rfl, hR, hb⟩ := ho.rcs
      have HX3 := Lib.hid (HX2.out.below hb)
      have HB3 := Lib.hid (HB2.out.trans (hb.mono HB2.out.size))
      have HRR := Lib.hid hR
      have hcr := hR.le
      have hcm : cr ≤ 9223372036854775807 := hR.max
      clear hb ho hR c0 c1 c2 c3 e0 e1 e2 e3
      by_cases h4 : L.length ≤ 4
      · have h4I : (L.length : Int) ≤ 4 := by omega
        go_wp2_with fail
        go_ret3
        exact HP2.out _ _ _ HA.out h4 (RgV.zero_ _ _) ⟨R, cr, rfl, HRR.out.below ((Below.refl _ _).alloc (Nat.le_refl _) _)⟩ (HB3.out.alloc HB3.out.size _)
      · have h4I : ¬ (L.length : Int) ≤ 4 := by omega
        obtain ⟨m, hm⟩ : ∃ m, m = L.length / 2 := ⟨_, rfl⟩
        have hml : m < L.length := by omega
        have hmlI : (m : Int) < (L.length : Int) := by omega
        have hm0I : (0 : Int) ≤ (m : Int) := by omega
        have v5 : (L.length : Int) / 2 = (m : Int) := by omega
        have v6 : Int.tdiv (L.length : Int) 2 = (m : Int) := by rw [Int.tdiv_eq_ediv_of_nonneg (by omega)]; exact v5
        have v4 : IntKind.i64.wrap (m : Int) = (m : Int) := IntWalk.i64_in _ (by have := HLL.out; omega)
        have HM := Lib.hid (HMID.out m hml hm)
        obtain ⟨g, o, rfl, hat⟩ := HRR.out.mem (by omega)
        obtain ⟨d0, d1, d2⟩ := hat.2 m hml
        have HKX := Lib.hid (HKK.out L[m] (HLV.out _ (List.getElem_mem hml)))
        obtain ⟨x, hx⟩ : ∃ x, L[m] = x := ⟨_, rfl⟩
        rw [hx] at d0 d1 d2 HKX HM
        clear hat hx hm
        unfold rv at HKX
        go_wp2_with fail
        refine (HKX.out _ HB3.out).mono ?_
        rintro e w4 ⟨rfl, hb⟩
        rw [← HM.out]
        have HX4 := Lib.hid (HX3.out.below hb)
        have HB4 := Lib.hid (HB3.out.trans (hb.mono HB3.out.size))
        clear hb d0 d1 d2 HKX
        obtain ⟨km, hkm⟩ : ∃ z, z = mid L := ⟨_, rfl⟩
        rw [← hkm] at HP3 ⊢
        clear hkm HM
        have HSA := Lib.hid (HS.out rf km)
        have HSB := Lib.hid (HS.out km rt)
        obtain ⟨pa, hpa⟩ : ∃ p, p = sm Hd l rf km := ⟨_, rfl⟩
        obtain ⟨pb, hpb⟩ : ∃ p, p = sm Hd l km rt := ⟨_, rfl⟩
        rw [← hpa] at HSA HP3
        rw [← hpb] at HSB HP3
        clear hpa hpb
        have HVA := Lib.hid (show rgv pa = .agg #[.string (ofL pa.f), .string (ofL pa.t), .int .i64 pa.n, .string (ofL pa.d)] from rfl)
        have HVB := Lib.hid (show rgv pb = .agg #[.string (ofL pb.f), .string (ofL pb.t), .int .i64 pb.n, .string (ofL pb.d)] from rfl)
        rw [HVA.out] at HSA
        rw [HVB.out] at HSB
        have HXd := Lib.hid HX4.out.drew
        have HBd := Lib.hid (show Below w.heap.size w w4.drew from below_drewN HB4.out 1)
        have HXe := Lib.hid (fun o => HXd.out.alloc o)
        have HBe := Lib.hid (fun o => HBd.out.alloc HBd.out.size o)
        go_wp2_with fail
        go_region_held3 (fun V => V.cell? ⟨w.heap.size, 0, none⟩ = some (.string (ofL rf)) ∧ V.cell? ⟨w.heap.size, 1, none⟩ = some (.string (ofL rt)))
          (first | exact ⟨(HXd.out).cell 0, (HXd.out).cell 1⟩ | exact ⟨(HXe.out _).cell 0, (HXe.out _).cell 1⟩ | exact ⟨(HX5.out).cell 0, (HX5.out).cell 1⟩ | exact ⟨(HX5e.out _).cell 0, (HX5e.out _).cell 1⟩ | exact ⟨(HX6.out).cell 0, (HX6.out).cell 1⟩ | exact ⟨(HX6.out.alloc _).cell 0, (HX6.out.alloc _).cell 1⟩ | exact ⟨((HX6.out.alloc _).alloc _).cell 0, ((HX6.out.alloc _).alloc _).cell 1⟩)
          (first
            | (go_at_call 13; (with_reducible refine (HSA.out _ ?_).mono ?_); (first | exact HBd.out | exact HBe.out _); rintro e w5 ⟨rfl, hb5⟩
               have HX5 := Lib.hid (show Blk w5 w.heap.size 24 _ from by first | exact HXd.out.below hb5 | exact (HXe.out _).below hb5)
               have HB5 := Lib.hid (show Below w.heap.size w w5 from by first | exact HBd.out.trans (hb5.mono HBd.out.size) | exact (HBe.out _).trans (hb5.mono (HBe.out _).size))
               have HX5e := Lib.hid (fun o => HX5.out.alloc o)
               have HB5e := Lib.hid (fun o => HB5.out.alloc HB5.out.size o)
               clear hb5)
            | (go_at_call 13; (with_reducible refine (HSB.out _ ?_).mono ?_); (first | exact HB5.out | exact HB5e.out _); rintro e w6 ⟨rfl, hb6⟩
               have HX6 := Lib.hid (show Blk w6 w.heap.size 24 _ from by first | exact HX5.out.below hb6 | exact (HX5e.out _).below hb6)
               have HB6 := Lib.hid (show Below w.heap.size w w6 from by first | exact HB5.out.trans (hb6.mono HB5.out.size) | exact (HB5e.out _).trans (hb6.mono (HB5e.out _).size))
               clear hb6))
        all_goals go_wp2_with fail
        all_goals go_ret3
        all_goals (refine HP3.out _ _ _ HA.out h4 ?_ (RcV.zero_ _ _) ?_)
        all_goals first
          | exact ⟨_, 2, rfl, Rgs.two (Blk.new w6 _ _)⟩
          | exact ⟨_, 2, rfl, Rgs.two ((Blk.new w6 _ _).alloc _)⟩
          | exact RgV.new2 w6 _ _ _
          | exact HB6.out.alloc HB6.out.size _
          | exact (HB6.out.alloc HB6.out.size _).alloc (HB6.out.alloc HB6.out.size _).size _
  · have f1 : ((L.length : Int) == r.n) = false := by simpa using q1
    have f2 : ¬ (L.length : Int) = r.n := q1
    have HA := Lib.hid (HN1.out q1)
    clear q1
    go_wp2_with fail
    refine (HIN.out _ HB2.out).mono ?_
    rintro e w3 ho
    obtain ⟨R, cr, rfl, hR, hb⟩ := ho.rcs
    have HX3 := Lib.hid (HX2.out.below hb)
    have HB3 := Lib.hid (HB2.out.trans (hb.mono HB2.out.size))
    have HRR := Lib.hid hR
    have hcr := hR.le
    have hcm : cr ≤ 9223372036854775807 := hR.max
    clear hb ho hR c0 c1 c2 c3 e0 e1 e2 e3
    by_cases h4 : L.length ≤ 4
    · have h4I : (L.length : Int) ≤ 4 := by omega
      go_wp2_with fail
      go_ret3
      exact HP2.out _ _ _ HA.out h4 (RgV.zero_ _ _) ⟨R, cr, rfl, HRR.out.below ((Below.refl _ _).alloc (Nat.le_refl _) _)⟩ (HB3.out.alloc HB3.out.size _)
    · have h4I : ¬ (L.length : Int) ≤ 4 := by omega
      obtain ⟨m, hm⟩ : ∃ m, m = L.length / 2 := ⟨_, rfl⟩
      have hml : m < L.length := by omega
      have hmlI : (m : Int) < (L.length : Int) := by omega
      have hm0I : (0 : Int) ≤ (m : Int) := by omega
      have v5 : (L.length : Int) / 2 = (m : Int) := by omega
      have v6 : Int.tdiv (L.length : Int) 2 = (m : Int) := by rw [Int.tdiv_eq_ediv_of_nonneg (by omega)]; exact v5
      have v4 : IntKind.i64.wrap (m : Int) = (m : Int) := IntWalk.i64_in _ (by have := HLL.out; omega)
      have HM := Lib.hid (HMID.out m hml hm)
      obtain ⟨g, o, rfl, hat⟩ := HRR.out.mem (by omega)
      obtain ⟨d0, d1, d2⟩ := hat.2 m hml
      have HKX := Lib.hid (HKK.out L[m] (HLV.out _ (List.getElem_mem hml)))
      obtain ⟨x, hx⟩ : ∃ x, L[m] = x := ⟨_, rfl⟩
      rw [hx] at d0 d1 d2 HKX HM
      clear hat hx hm
      unfold rv at HKX
      go_wp2_with fail
      refine (HKX.out _ HB3.out).mono ?_
      rintro e w4 ⟨rfl, hb⟩
      rw [← HM.out]
      have HX4 := Lib.hid (HX3.out.below hb)
      have HB4 := Lib.hid (HB3.out.trans (hb.mono HB3.out.size))
      clear hb d0 d1 d2 HKX
      obtain ⟨km, hkm⟩ : ∃ z, z = mid L := ⟨_, rfl⟩
      rw [← hkm] at HP3 ⊢
      clear hkm HM
      have HSA := Lib.hid (HS.out rf km)
      have HSB := Lib.hid (HS.out km rt)
      obtain ⟨pa, hpa⟩ : ∃ p, p = sm Hd l rf km := ⟨_, rfl⟩
      obtain ⟨pb, hpb⟩ : ∃ p, p = sm Hd l km rt := ⟨_, rfl⟩
      rw [← hpa] at HSA HP3
      rw [← hpb] at HSB HP3
      clear hpa hpb
      have HVA := Lib.hid (show rgv pa = .agg #[.string (ofL pa.f), .string (ofL pa.t), .int .i64 pa.n, .string (ofL pa.d)] from rfl)
      have HVB := Lib.hid (show rgv pb = .agg #[.string (ofL pb.f), .string (ofL pb.t), .int .i64 pb.n, .string (ofL pb.d)] from rfl)
      rw [HVA.out] at HSA
      rw [HVB.out] at HSB
      have HXd := Lib.hid HX4.out.drew
      have HBd := Lib.hid (show Below w.heap.size w w4.drew from below_drewN HB4.out 1)
      have HXe := Lib.hid (fun o => HXd.out.alloc o)
      have HBe := Lib.hid (fun o => HBd.out.alloc HBd.out.size o)
      go_wp2_with fail
      go_region_held3 (fun V => V.cell? ⟨w.heap.size, 0, none⟩ = some (.string (ofL rf)) ∧ V.cell? ⟨w.heap.size, 1, none⟩ = some (.string (ofL rt)))
        (first | exact ⟨(HXd.out).cell 0, (HXd.out).cell 1⟩ | exact ⟨(HXe.out _).cell 0, (HXe.out _).cell 1⟩ | exact ⟨(HX5.out).cell 0, (HX5.out).cell 1⟩ | exact ⟨(HX5e.out _).cell 0, (HX5e.out _).cell 1⟩ | exact ⟨(HX6.out).cell 0, (HX6.out).cell 1⟩ | exact ⟨(HX6.out.alloc _).cell 0, (HX6.out.alloc _).cell 1⟩ | exact ⟨((HX6.out.alloc _).alloc _).cell 0, ((HX6.out.alloc _).alloc _).cell 1⟩)
        (first
          | (go_at_call 13; (with_reducible refine (HSA.out _ ?_).mono ?_); (first | exact HBd.out | exact HBe.out _); rintro e w5 ⟨rfl, hb5⟩
             have HX5 := Lib.hid (show Blk w5 w.heap.size 24 _ from by first | exact HXd.out.below hb5 | exact (HXe.out _).below hb5)
             have HB5 := Lib.hid (show Below w.heap.size w w5 from by first | exact HBd.out.trans (hb5.mono HBd.out.size) | exact (HBe.out _).trans (hb5.mono (HBe.out _).size))
             have HX5e := Lib.hid (fun o => HX5.out.alloc o)
             have HB5e := Lib.hid (fun o => HB5.out.alloc HB5.out.size o)
             clear hb5)
          | (go_at_call 13; (with_reducible refine (HSB.out _ ?_).mono ?_); (first | exact HB5.out | exact HB5e.out _); rintro e w6 ⟨rfl, hb6⟩
             have HX6 := Lib.hid (show Blk w6 w.heap.size 24 _ from by first | exact HX5.out.below hb6 | exact (HX5e.out _).below hb6)
             have HB6 := Lib.hid (show Below w.heap.size w w6 from by first | exact HB5.out.trans (hb6.mono HB5.out.size) | exact (HB5e.out _).trans (hb6.mono (HB5e.out _).size))
             clear hb6))
      all_goals go_wp2_with fail
      all_goals go_ret3
      all_goals (refine HP3.out _ _ _ HA.out h4 ?_ (RcV.zero_ _ _) ?_)
      all_goals first
        | exact ⟨_, 2, rfl, Rgs.two (Blk.new w6 _ _)⟩
        | exact ⟨_, 2, rfl, Rgs.two ((Blk.new w6 _ _).alloc _)⟩
        | exact RgV.new2 w6 _ _ _
        | exact HB6.out.alloc HB6.out.size _
        | exact (HB6.out.alloc HB6.out.size _).alloc (HB6.out.alloc HB6.out.size _).size _
end Rc
end Go.Proofs.YtnllocghmnhooaaDoor
