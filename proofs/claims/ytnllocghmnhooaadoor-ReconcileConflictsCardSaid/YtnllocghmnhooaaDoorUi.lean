/- Reconcile: the reference's records of a range (steleref57.In). -/
import Derived.Test.YtnllocghmnhooaaDoorUh
namespace Go.Proofs.YtnllocghmnhooaaDoor
open Go.RowKit
set_option linter.unusedVariables false
set_option linter.unusedSimpArgs false
namespace Rc
open Bk (bl bl_len bl_ofL ofL_bl ofL_size ofL_append)

set_option maxRecDepth 100000 in
set_option maxHeartbeats 2000000 in
theorem rin_f (l : List Rec) (hv : ∀ x ∈ l, Val x) (f t : ByteArray) (w : World) (A : Option Addr) (c : Nat) (h : Rcs w A c l) (hl : l.length ≤ 100000) :
    Calls Tryd.prog 30 #[.slice A l.length c, .string f, .string t] w (OwnPost w (inn l (bl f) (bl t))) := by
  have HR := Lib.hid (fun W (hb : Below w.heap.size w W) => h.below hb)
  have HK := Lib.hid (fun k (hk : k < l.length) W (hb : Below w.heap.size w W) => rkey_f l[k] (hv _ (List.getElem_mem hk)) W)
  unfold inn
  obtain ⟨p, hp⟩ : ∃ p : Rec → Bool, p = fun x => inR (bl f) (bl t) (key x) := ⟨_, rfl⟩
  have HP := Lib.hid (fun x => congrFun hp x)
  rw [← hp]
  have HF := Lib.hid (fun k (hk : k < l.length) => flt_snoc hk p)
  have HFL := Lib.hid (fun k => flt_len l k p)
  have HFE := Lib.hid (show l.filter p = (l.take l.length).filter p by rw [List.take_length])
  have HHI := Lib.hid (fun (r : Rec) => less_eq (key r) f)
  have HHT := Lib.hid (fun (r : Rec) => less_eq (key r) t)
  have HTN := Lib.hid (tnil t)
  have hcm : c ≤ 9223372036854775807 := h.max
  have hlc := h.le
  obtain ⟨n, hn⟩ : ∃ n, n = l.length := ⟨_, rfl⟩
  have HN := Lib.hid hn
  rw [← hn] at hl hlc HFL HFE ⊢
  clear hp hn hv h
  go_enter Tryd.func30, Tryd.ntmps30
  go_wp2_with fail
  go_loopw [7, 13] (fun y x W => ∃ k : Nat, k ≤ n ∧ x = .int .i64 (k : Int) ∧ Hid (Own W w.heap.size y ((l.take k).filter p)) ∧ Hid (Below w.heap.size w W)) (fun _ x _ => n - (intOf x).toNat)
  case atStart => exact ⟨0, Nat.zero_le _, rfl, Lib.hid (own_zero _ (Nat.le_refl _)), Lib.hid ((Below.refl _ _).alloc (Nat.le_refl _) _)⟩
  case round =>
    obtain ⟨k, hk, rfl, HO, HB⟩ := hrel
    by_cases hkn : k < n
    · have hkl : k < l.length := by rw [← HN.out]; exact hkn
      obtain ⟨g, o, rfl, hat⟩ := (HR.out _ HB.out).mem (by omega)
      obtain ⟨c0, c1, c2⟩ := hat.2 k hkl
      have HK1 := Lib.hid (HK.out k hkl)
      have HF1 := Lib.hid (HF.out k hkl)
      obtain ⟨r, hr⟩ : ∃ r, l[k] = r := ⟨_, rfl⟩
      rw [hr] at c0 c1 c2 HK1 HF1
      clear hat hr
      have HL1 := Lib.hid (HFL.out k)
      have hp1 := HP.out r
      have hb1 := HHI.out r
      have hb2 := HHT.out r
      have hb3 := HTN.out
      unfold rv at HK1
      by_cases q1 : key r < bl f
      · rw [decide_eq_true q1] at hb1
        have hpf : p r = false := by rw [hp1]; simp [inR, q1]
        clear hp1 q1 hb2 hb3
        rw [hpf, if_neg (by simp), List.append_nil] at HF1
        clear hpf
        go_wp2_with fail
        refine (HK1.out _ (HB.out.alloc HB.out.size _)).mono ?_
        rintro e w2 ⟨rfl, hb⟩
        have HC2 := Lib.hid ((Blk.new wr 42 (rc r).toArray).below hb)
        have HB2 := Lib.hid ((HB.out.alloc HB.out.size _).trans (hb.mono (HB.out.alloc HB.out.size _).size))
        have HO2 := Lib.hid (Own.below (Own.alloc HO.out _) hb)
        clear hb c0 c1 c2
        have c0 : w2.cell? ⟨wr.heap.size, 0, none⟩ = some (.int .u32 (r.a : Int)) := HC2.out.cell 0
        have c1 : w2.cell? ⟨wr.heap.size, 1, none⟩ = some (.int .i64 (r.s : Int)) := HC2.out.cell 1
        have c2 : w2.cell? ⟨wr.heap.size, 2, none⟩ = some (.string (ofL r.d)) := HC2.out.cell 2
        go_wp2_with fail
        go_roundw
        case rel => exact ⟨k + 1, by omega, by go_num, by rw [HF1.out]; exact HO2, HB2⟩
        case measure => simp [intOf]; omega
      · rw [decide_eq_false q1] at hb1
        by_cases q2 : bl t = []
        · have hb4 : (bl t == []) = true := by rw [q2]; rfl
          clear hb3
          have hb3 : t.toList = [] := tnil_yes q2
          have hb5 : t.toList.isEmpty = true := by rw [hb3]; rfl
          have hpf : p r = true := by rw [hp1]; simp [inR, q1, q2]
          clear hp1 q1 hb2 q2 hb4
          rw [hpf, if_pos rfl] at HF1
          clear hpf
          go_wp2_with fail
          refine (HK1.out _ (HB.out.alloc HB.out.size _)).mono ?_
          rintro e w2 ⟨rfl, hb⟩
          have HC2 := Lib.hid ((Blk.new wr 42 (rc r).toArray).below hb)
          have HB2 := Lib.hid ((HB.out.alloc HB.out.size _).trans (hb.mono (HB.out.alloc HB.out.size _).size))
          have HO2 := Lib.hid (Own.below (Own.alloc HO.out _) hb)
          clear hb c0 c1 c2
          have c0 : w2.cell? ⟨wr.heap.size, 0, none⟩ = some (.int .u32 (r.a : Int)) := HC2.out.cell 0
          have c1 : w2.cell? ⟨wr.heap.size, 1, none⟩ = some (.int .i64 (r.s : Int)) := HC2.out.cell 1
          have c2 : w2.cell? ⟨wr.heap.size, 2, none⟩ = some (.string (ofL r.d)) := HC2.out.cell 2
          go_wp2_with (at_builtin; refine wpl_app rfl _ _ rfl _ ((l.take k).filter p) r rfl HO2.out rfl (by have := HL1.out; omega) HB2.out ?_; intro v' w8 hown hb8)
          have HO9 := Lib.hid hown
          have HB9 := Lib.hid hb8
          clear hown hb8
          go_wp2_with fail
          go_roundw
          case rel => exact ⟨k + 1, by omega, by go_num, by rw [HF1.out]; exact HO9, HB9⟩
          case measure => simp [intOf]; omega
        · have hb4 : (bl t == []) = false := by rw [beq_eq_false_iff_ne]; exact q2
          clear hb3
          have hb3 : ¬ t.toList = [] := tnil_no q2
          have hb5 : t.toList.isEmpty = false := by cases e : t.toList with | nil => exact absurd e hb3 | cons _ _ => rfl
          by_cases q3 : key r < bl t
          · rw [decide_eq_true q3] at hb2
            have hpf : p r = true := by rw [hp1]; simp [inR, q1, q3]
            clear hp1 q1 q2 q3 hb4
            rw [hpf, if_pos rfl] at HF1
            clear hpf
            go_wp2_with fail
            refine (HK1.out _ (HB.out.alloc HB.out.size _)).mono ?_
            rintro e w2 ⟨rfl, hb⟩
            have HC2 := Lib.hid ((Blk.new wr 42 (rc r).toArray).below hb)
            have HB2 := Lib.hid ((HB.out.alloc HB.out.size _).trans (hb.mono (HB.out.alloc HB.out.size _).size))
            have HO2 := Lib.hid (Own.below (Own.alloc HO.out _) hb)
            clear hb c0 c1 c2
            have c0 : w2.cell? ⟨wr.heap.size, 0, none⟩ = some (.int .u32 (r.a : Int)) := HC2.out.cell 0
            have c1 : w2.cell? ⟨wr.heap.size, 1, none⟩ = some (.int .i64 (r.s : Int)) := HC2.out.cell 1
            have c2 : w2.cell? ⟨wr.heap.size, 2, none⟩ = some (.string (ofL r.d)) := HC2.out.cell 2
            go_wp2_with fail
            refine (HK1.out _ HB2.out).mono ?_
            rintro e w3 ⟨rfl, hb⟩
            have HC3 := Lib.hid (HC2.out.below hb)
            have HB3 := Lib.hid (HB2.out.trans (hb.mono HB2.out.size))
            have HO3 := Lib.hid (Own.below HO2.out hb)
            clear hb c0 c1 c2
            have c0 : w3.cell? ⟨wr.heap.size, 0, none⟩ = some (.int .u32 (r.a : Int)) := HC3.out.cell 0
            have c1 : w3.cell? ⟨wr.heap.size, 1, none⟩ = some (.int .i64 (r.s : Int)) := HC3.out.cell 1
            have c2 : w3.cell? ⟨wr.heap.size, 2, none⟩ = some (.string (ofL r.d)) := HC3.out.cell 2
            go_wp2_with (at_builtin; refine wpl_app rfl _ _ rfl _ ((l.take k).filter p) r rfl HO3.out rfl (by have := HL1.out; omega) HB3.out ?_; intro v' w8 hown hb8)
            have HO9 := Lib.hid hown
            have HB9 := Lib.hid hb8
            clear hown hb8
            go_wp2_with fail
            go_roundw
            case rel => exact ⟨k + 1, by omega, by go_num, by rw [HF1.out]; exact HO9, HB9⟩
            case measure => simp [intOf]; omega
          · rw [decide_eq_false q3] at hb2
            have hpf : p r = false := by rw [hp1]; simp [inR, q1, q2, q3]
            clear hp1 q1 q2 q3 hb4
            rw [hpf, if_neg (by simp), List.append_nil] at HF1
            clear hpf
            go_wp2_with fail
            refine (HK1.out _ (HB.out.alloc HB.out.size _)).mono ?_
            rintro e w2 ⟨rfl, hb⟩
            have HC2 := Lib.hid ((Blk.new wr 42 (rc r).toArray).below hb)
            have HB2 := Lib.hid ((HB.out.alloc HB.out.size _).trans (hb.mono (HB.out.alloc HB.out.size _).size))
            have HO2 := Lib.hid (Own.below (Own.alloc HO.out _) hb)
            clear hb c0 c1 c2
            have c0 : w2.cell? ⟨wr.heap.size, 0, none⟩ = some (.int .u32 (r.a : Int)) := HC2.out.cell 0
            have c1 : w2.cell? ⟨wr.heap.size, 1, none⟩ = some (.int .i64 (r.s : Int)) := HC2.out.cell 1
            have c2 : w2.cell? ⟨wr.heap.size, 2, none⟩ = some (.string (ofL r.d)) := HC2.out.cell 2
            go_wp2_with fail
            refine (HK1.out _ HB2.out).mono ?_
            rintro e w3 ⟨rfl, hb⟩
            have HC3 := Lib.hid (HC2.out.below hb)
            have HB3 := Lib.hid (HB2.out.trans (hb.mono HB2.out.size))
            have HO3 := Lib.hid (Own.below HO2.out hb)
            clear hb c0 c1 c2
            have c0 : w3.cell? ⟨wr.heap.size, 0, none⟩ = some (.int .u32 (r.a : Int)) := HC3.out.cell 0
            have c1 : w3.cell? ⟨wr.heap.size, 1, none⟩ = some (.int .i64 (r.s : Int)) := HC3.out.cell 1
            have c2 : w3.cell? ⟨wr.heap.size, 2, none⟩ = some (.string (ofL r.d)) := HC3.out.cell 2
            go_wp2_with fail
            go_roundw
            case rel => exact ⟨k + 1, by omega, by go_num, by rw [HF1.out]; exact HO3, HB3⟩
            case measure => simp [intOf]; omega
    · have hk' : k = n := by omega
      subst hk'
      go_wp2_with fail
      go_ret
      exact ⟨_, rfl, by rw [HFE.out]; exact HO.out, HB.out⟩
end Rc
end Go.Proofs.YtnllocghmnhooaaDoor
