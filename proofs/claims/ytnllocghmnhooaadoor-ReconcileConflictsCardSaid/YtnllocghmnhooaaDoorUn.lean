/- Reconcile: the reference's Summary (steleref57.Summary). -/
import Derived.Test.YtnllocghmnhooaaDoorUm
import Derived.Test.YtnllocghmnhooaaDoorUi
import Derived.Test.YtnllocghmnhooaaDoorCf
namespace Go.Proofs.YtnllocghmnhooaaDoor
open Go.RowKit
set_option linter.unusedVariables false
set_option linter.unusedSimpArgs false
namespace Rc
open Bk (bl bl_len bl_ofL ofL_bl ofL_size ofL_append nstr nstrs)

theorem rstr_b (s : Bs) (hs : s.length ≤ 1000) (w : World) : Calls Tryd.prog 31 #[.string (ofL s)] w fun e w' => e = .returned (.string (ofL (nstr s))) ∧ Below w.heap.size w w' := by
  have h := Bk.rstr_f (ofL s) (by rw [ofL_size]; omega) w
  rw [bl_ofL] at h
  refine h.mono ?_
  rintro e w' ⟨rfl, rfl⟩
  exact ⟨rfl, Below.refl _ _⟩
set_option maxRecDepth 100000 in
set_option maxHeartbeats 4000000 in
theorem rsum_f (l : List Rec) (hv : ∀ x ∈ l, Val x) (f t : Bs) (w : World) (A : Option Addr) (c : Nat) (h : Rcs w A c l) (hl : l.length ≤ 5000) :
    Calls Tryd.prog 13 #[.slice A l.length c, .string (ofL f), .string (ofL t)] w fun e w' => e = .returned (rgv (sm Hd l f t)) ∧ Below w.heap.size w w' := by
  have HIN := Lib.hid (fun W (hb : Below w.heap.size w W) => rin_f l hv (ofL f) (ofL t) W A c (h.below hb) (by omega))
  rw [bl_ofL, bl_ofL] at HIN
  obtain ⟨L, hL⟩ : ∃ L, L = inn l f t := ⟨_, rfl⟩
  have HVM := Lib.hid (show ∀ x ∈ L, Val x from fun x hx => hv x (inn_mem.1 (by rw [← hL]; exact hx)).1)
  have HVL := Lib.hid (fun k (hk : k < L.length) => (HVM.out _ (List.getElem_mem hk) : Val L[k]))
  have HK := Lib.hid (fun k (hk : k < L.length) W => rkey_f L[k] (HVL.out k hk) W)
  have HDT := Lib.hid (fun k (hk : k < L.length) => dmp_take hk)
  have HLL := Lib.hid (show L.length ≤ 5000 by rw [hL]; exact Nat.le_trans (inn_len l f t) (by omega))
  have HDL := Lib.hid (fun k => (show (dmp (L.take k)).length ≤ 1000000 by
    have h1 := dmp_len (L.take k) (fun x hx => HVM.out x (List.mem_of_mem_take hx))
    have h2 : (L.take k).length ≤ L.length := by rw [List.length_take]; omega
    have h3 := HLL.out
    omega))
  have HSMD := Lib.hid (show sm Hd l f t = ⟨f, t, (L.length : Int), Hd L⟩ by rw [hL]; rfl)
  rw [← hL] at HIN
  have HSM := Lib.hid (fun V g hg => Bk.rsum_one V g (ofL (dmp L)) hg (by rw [ofL_size]; have := HDL.out L.length; rw [List.take_length] at this; exact this))
  rw [bl_ofL] at HSM
  rw [HSMD.out]
  have hcm : c ≤ 9223372036854775807 := h.max
  have hlc := h.le
  obtain ⟨n, hn⟩ : ∃ n, n = l.length := ⟨_, rfl⟩
  have HN := Lib.hid hn
  rw [← hn] at hl hlc HIN ⊢
  clear hn h hv hL
  go_enter Tryd.func13, Tryd.ntmps13
  go_wp2_with fail
  have HZ := Lib.hid (Blk.new w 24 #[.string ⟨#[]⟩, .string ⟨#[]⟩, .int .i64 0, .string ⟨#[]⟩])
  have HZB := Lib.hid ((Below.refl _ w).alloc (Nat.le_refl _) (.cells #[.string ⟨#[]⟩, .string ⟨#[]⟩, .int .i64 0, .string ⟨#[]⟩] 24))
  refine (HIN.out _ HZB.out).mono ?_
  rintro e w2 ho
  obtain ⟨A2, c2, rfl, hR2, hb⟩ := ho.rcs
  have HZ2 := Lib.hid (HZ.out.below hb)
  have HB2 := Lib.hid (HZB.out.trans (hb.mono HZB.out.size))
  have hc2m : c2 ≤ 9223372036854775807 := hR2.max
  have hl2c := hR2.le
  have HLR := Lib.hid (fun W (k : Below w2.heap.size w2 W) => hR2.below k)
  obtain ⟨q, hq⟩ : ∃ q, q = L.length := ⟨_, rfl⟩
  have HQ := Lib.hid hq
  have hq5 : q ≤ 5000 := by rw [hq]; exact HLL.out
  rw [← hq] at hl2c ⊢
  clear hb HZ HZB ho hR2 hq
  go_wp2_with fail
  go_loopw [8, 17] (fun y x W => ∃ k : Nat, k ≤ q ∧ x = .int .i64 (k : Int) ∧ y = .string (ofL (dmp (L.take k))) ∧ Hid (Below w2.heap.size w2 W)) (fun _ x _ => q - (intOf x).toNat)
  case atStart => exact ⟨0, Nat.zero_le _, rfl, rfl, Lib.hid (Below.refl _ _)⟩
  case round =>
    obtain ⟨k, hk, rfl, rfl, HB⟩ := hrel
    by_cases hkn : k < q
    · have hkl : k < L.length := by rw [← HQ.out]; exact hkn
      obtain ⟨gl, ol, rfl, hat⟩ := (HLR.out _ HB.out).mem (by omega)
      obtain ⟨c0, c1, c2⟩ := hat.2 k hkl
      have HKX := Lib.hid (HK.out k hkl)
      have HVX := Lib.hid (HVL.out k hkl)
      have HDX := Lib.hid (HDT.out k hkl)
      obtain ⟨x, hr⟩ : ∃ r, L[k] = r := ⟨_, rfl⟩
      rw [hr] at c0 c1 c2 HKX HVX HDX
      clear hat hr
      unfold rv at HKX
      have HS1 := Lib.hid (fun W => rstr_b (key x) (by rw [key_len]; omega) W)
      have HS2 := Lib.hid (fun W => rstr_b x.d (by rw [HVX.out.d]; omega) W)
      have sa : (ofL (dmp (L.take k))).size ≤ 1000000 := by rw [ofL_size]; exact HDL.out k
      have sb : (ofL (nstr (key x))).size ≤ 100 := by rw [ofL_size]; have := Bk.nstr_len (key x) (by rw [key_len]; omega); rw [key_len] at this; omega
      have sc : (ofL (nstr x.d)).size ≤ 100 := by rw [ofL_size]; have := Bk.nstr_len x.d (by rw [HVX.out.d]; omega); rw [HVX.out.d] at this; omega
      have HEQ := Lib.hid (show ofL (dmp (L.take k)) ++ (ofL (nstr (key x)) ++ ofL (nstr x.d)) = ofL (dmp (L.take (k + 1))) by
        rw [HDX.out, ofL_append, ofL_append]
        congr 1
        show _ = dmp (L.take k) ++ (nstr (key x) ++ (nstr x.d ++ []))
        rw [List.append_nil])
      obtain ⟨va, hva⟩ : ∃ v, v = ofL (dmp (L.take k)) := ⟨_, rfl⟩
      obtain ⟨vb, hvb⟩ : ∃ v, v = ofL (nstr (key x)) := ⟨_, rfl⟩
      obtain ⟨vc, hvc⟩ : ∃ v, v = ofL (nstr x.d) := ⟨_, rfl⟩
      rw [← hva] at sa HEQ ⊢
      rw [← hvb] at sb HEQ HS1
      rw [← hvc] at sc HEQ HS2
      have sd : (vb ++ vc).size ≤ 200 := by rw [ByteArray.size_append]; omega
      have g1 : ¬ 9223372036854775807 < vb.size + vc.size := by omega
      have g2 : ¬ 9223372036854775807 < va.size + (vb ++ vc).size := by omega
      have g3 : ¬ 9223372036854775807 < va.size + (vb.size + vc.size) := by omega
      have HXa := Lib.hid (Blk.new wr 42 (rc x).toArray)
      have HBa := Lib.hid (HB.out.alloc HB.out.size (.cells (rc x).toArray 42))
      clear hva hvb hvc sa sb sc sd
      obtain ⟨W1, hW1⟩ : ∃ V, V = wr.alloc (.cells #[.int .u32 (x.a : Int), .int .i64 (x.s : Int), .string (ofL x.d)] 42) := ⟨_, rfl⟩
      have HW1 := Lib.hid hW1
      obtain ⟨gx, hgx⟩ : ∃ g, g = wr.heap.size := ⟨_, rfl⟩
      have HGX := Lib.hid hgx
      have HXd := Lib.hid (show Blk W1.drew gx 42 (rc x).toArray by rw [HW1.out, HGX.out]; exact HXa.out)
      have HBd := Lib.hid (show Below w2.heap.size w2 W1.drew by rw [HW1.out]; exact below_drewN HBa.out 1)
      go_wp2_with fail
      rw [← hW1, ← hgx]
      clear hW1 hgx HXa HBa HGX HW1 c0 c1 c2
      go_region_held3 (fun V => V.cell? ⟨gx, 0, none⟩ = some (.int .u32 (x.a : Int)) ∧ V.cell? ⟨gx, 1, none⟩ = some (.int .i64 (x.s : Int)) ∧ V.cell? ⟨gx, 2, none⟩ = some (.string (ofL x.d)))
        (first | exact ⟨(HXd.out).cell 0, (HXd.out).cell 1, (HXd.out).cell 2⟩ | exact ⟨(HXd.out.below HB4.out).cell 0, (HXd.out.below HB4.out).cell 1, (HXd.out.below HB4.out).cell 2⟩ | exact ⟨((HXd.out.below HB4.out).below HB5.out).cell 0, ((HXd.out.below HB4.out).below HB5.out).cell 1, ((HXd.out.below HB4.out).below HB5.out).cell 2⟩ | exact ⟨(((HXd.out.below HB4.out).below HB5.out).below HB6.out).cell 0, (((HXd.out.below HB4.out).below HB5.out).below HB6.out).cell 1, (((HXd.out.below HB4.out).below HB5.out).below HB6.out).cell 2⟩)
        (first
          | (go_at_call 32; (with_reducible refine (HKX.out _).mono ?_); rintro e w4 ⟨rfl, hb4⟩; have HB4 := Lib.hid hb4; clear hb4)
          | (go_at_call 31; (with_reducible refine (HS1.out _).mono ?_); rintro e w5 ⟨rfl, hb5⟩; have HB5 := Lib.hid hb5; clear hb5)
          | (go_at_call 31; (with_reducible refine (HS2.out _).mono ?_); rintro e w6 ⟨rfl, hb6⟩; have HB6 := Lib.hid hb6; clear hb6))
      have hA4 := HBd.out.trans (HB4.out.mono HBd.out.size)
      have hA5 := hA4.trans (HB5.out.mono hA4.size)
      have HB7 := Lib.hid (hA5.trans (HB6.out.mono hA5.size))
      clear hA4 hA5
      go_wp2_with fail
      go_roundw
      case rel => exact ⟨k + 1, by omega, by go_num, by rw [HEQ.out], HB7⟩
      case measure => simp [intOf]; omega
    · obtain rfl : q = k := by omega
      have HLT := Lib.hid (show L.take q = L by rw [HQ.out]; exact List.take_length)
      rw [HLT.out]
      go_wp2_with fail
      refine (HSM.out _ _ (Blk.new wr 9 #[.string (ofL (dmp L))])).mono ?_
      rintro e w5 ⟨rfl, hb5⟩
      have hb5' := (HB.out.alloc HB.out.size (.cells #[.string (ofL (dmp L))] 9))
      have HB5 := Lib.hid (hb5'.trans (hb5.mono hb5'.size))
      have HZ5 := Lib.hid (HZ2.out.below HB5.out)
      clear hb5 hb5'
      have c0 := HZ5.out.cell 0
      have c1 := HZ5.out.cell 1
      have c2 := HZ5.out.cell 2
      have c3 := HZ5.out.cell 3
      have d0 := HZ5.out.frozen 0
      have d1 := HZ5.out.frozen 1
      have d2 := HZ5.out.frozen 2
      have d3 := HZ5.out.frozen 3
      simp only [List.getElem?_toArray, List.getElem?_cons_zero, List.getElem?_cons_succ] at c0 c1 c2 c3
      go_wp2_with fail
      exact rg_ret rfl _ _ (blk_rg HZ5.out rfl _ _ _ _) rfl ⟨by rw [HQ.out]; rfl, bel_rg (HB2.out.trans (HB5.out.mono HB2.out.size)) (Nat.le_refl _) _ _ _ _⟩
end Rc
end Go.Proofs.YtnllocghmnhooaaDoor
