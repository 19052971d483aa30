/- The law GfpolyRoots of stelelaw06 returns true for every input, and every argument reads behind the call as it read before. No conditions. -/
import Derived.Test.YtphlagmalppbkaaPn
import Derived.ProofKit
import Derived.OpenShut
import Derived.ShutString
import Derived.ChangeOld
namespace Go.Proofs.Ytphlagmalppbkaa
namespace GfpolyRoots
open Go.RowKit

theorem trim_zero : trim [(0 : UInt8)] = [] := rfl
theorem trim_ne {v : UInt8} (h : v ≠ 0) : trim [v] = [v] := trim_canon (.inr h)
theorem prem_root {p : List UInt8} {x : UInt8} (h : hor x p = 0) : prem p [x, 1] = [] := by rw [prem_lin, h, trim_zero]
theorem prem_no {p : List UInt8} {x : UInt8} (h : hor x p ≠ 0) : prem p [x, 1] = [hor x p] := by rw [prem_lin, trim_ne h]

set_option maxRecDepth 100000 in
set_option maxHeartbeats 1000000 in
theorem core (w : World) (A : Option Addr) (n c : Nat) (rs : List UInt8) (x : UInt8) (h : Byt w A n c rs) :
    Calls Try.prog 11 #[.slice A n c, .int .u8 (x.toNat : Int)] w fun e w' => e = .returned (.bool true) ∧ Below w.heap.size w w' := by
  have HSL := Lib.hid (show Sl (w.alloc (.cells #[.slice A n c] 22)) 1 (some ⟨w.heap.size, 0, none⟩) 1 1 ([(A, n, c)].map sv) from Blk.sl (size := 1) (n := 1) (Blk.new w 22 #[.slice A n c]) rfl (by unfold maxLen; omega))
  have HLE := Lib.hid (show ∀ x ∈ [(A, n, c)], x.2.1 ≤ maxLen by simp; exact h.le_max)
  have HB0 := Lib.hid ((Below.refl w.heap.size w).alloc (Nat.le_refl _) (.cells #[.slice A n c] 22))
  have hlc : n ≤ c := h.1
  have hcm : c ≤ 9223372036854775807 := h.2.1
  have hln := h.len
  have H0 := Lib.hid h
  by_cases hs : n ≤ 20
  · have HT := Lib.hid (show allLe 20 [(A, n, c)] = true by simp [allLe]; omega)
    have HL := Lib.hid hln
    clear h hln
    go_enter Try.func11, Try.ntmps11
    go_wp2_with fail
    refine (small_b _ _ 1 1 20 [(A, n, c)] HSL.out HLE.out).mono ?_
    rw [HT.out]
    rintro e w' ⟨rfl, rfl⟩
    go_wp2
    go_loopw [5, 6, 20] (fun vp vf i wr => ∃ (k : Nat) (f : Bool), k ≤ n ∧ i = .int .i64 (k : Int) ∧ vf = .bool f ∧ (f = true ↔ x ∈ rs.take k) ∧ wr.ownsRow w.heap.size 5 1 vp (linP rs k).length (bv (linP rs k)) ∧ Below w.heap.size w wr) (fun _ _ i _ => n - (intOf i).toNat)
    case atStart =>
      refine ⟨0, false, by omega, rfl, rfl, by simp, ?_, HB0.out.alloc HB0.out.size _⟩
      have hl1 := World.ownsRow_lit (e := 5) (size := 1) (w.alloc (.cells #[.slice A n c] 22)) #[.int .u8 1] 1 HB0.out.size (by unfold maxLen; omega) rfl
      simpa [bv, B, linP] using hl1
    case round =>
      obtain ⟨k, f, hk, rfl, rfl, hf, hop, hb⟩ := hrel
      obtain ⟨A1, c1, rfl, hP, _⟩ := byt_own hop
      have HP := Lib.hid hP
      have HB := Lib.hid hb
      have HF := Lib.hid hf
      have HLP := Lib.hid (linP_law rs k (by rw [← HL.out]; omega))
      have hpl : (linP rs k).length ≤ 21 := by rw [HLP.out.2.1]; omega
      have HX := Lib.hid (H0.out.below hb)
      clear hP hop hb hf
      by_cases hlt : k < n
      · have hx : k < rs.length := by rw [← HL.out]; omega
        obtain ⟨ad, rfl, _, hcx⟩ := Byt.at_ HX.out hx
        have HBy := Lib.hid (Blk.byt (l := [rs[k], 1]) (Blk.new wr 5 #[B rs[k], B 1]) rfl (show 2 ≤ maxLen by unfold maxLen; omega))
        have HT2 := Lib.hid (take_snoc (p := rs) hx)
        have HG := Lib.hid (getD_lt hx)
        go_wp2_with fail
        refine (pmul_b _ A1 _ c1 _ _ 2 2 [rs[k], 1] (HP.out.alloc _) HBy.out (by omega) (by simp)).mono ?_
        rintro e w4 ⟨v4, rfl, hown4, hb4⟩
        have HB4 := Lib.hid (((HB.out.alloc (HB.out.size) _)).trans (hb4.mono (by simp; exact Nat.le_succ_of_le HB.out.size)))
        have HO4 := Lib.hid (own_mono hown4 (show w.heap.size ≤ _ by simp; exact Nat.le_succ_of_le HB.out.size))
        clear hown4 hb4
        have HLS := Lib.hid (show linP rs (k + 1) = pmul (linP rs k) [rs[k], 1] by rw [← HG.out]; rfl)
        have HO5 := Lib.hid (show w4.ownsRow w.heap.size 5 1 v4 (linP rs (k + 1)).length (bv (linP rs (k + 1))) by rw [HLS.out]; exact HO4.out)
        clear HO4 HLS
        cases f with
        | true =>
          have HM := Lib.hid (HF.out.1 rfl)
          go_wp2
          go_roundw
          case rel => exact ⟨k + 1, true, by omega, by go_num, rfl, ⟨fun _ => by rw [HT2.out]; exact List.mem_append_left _ HM.out, fun _ => rfl⟩, HO5.out, HB4.out⟩
          case measure => simp [intOf]; omega
        | false =>
          have HM := Lib.hid (show ¬ x ∈ rs.take k from fun h => by have := HF.out.2 h; exact absurd this (by decide))
          go_wp2
          go_roundw
          case rel =>
            refine ⟨k + 1, (rs[k] == x), by omega, by go_num, ?_, ?_, HO5.out, HB4.out⟩
            · congr 1
              rw [Bool.eq_iff_iff, beq_iff_eq, beq_iff_eq]
              constructor
              · intro h; rw [← UInt8.toNat_inj]; omega
              · intro h; rw [h]
            · rw [HT2.out, List.mem_append, List.mem_singleton, beq_iff_eq]
              exact ⟨fun h => .inr h.symm, fun h => h.elim (fun h => absurd h HM.out) (fun h => h.symm)⟩
          case measure => simp [intOf]; omega
      · have HK := Lib.hid (show k = rs.length by rw [← HL.out]; omega)
        have hkn : k = n := by omega
        subst hkn
        clear hlt hk
        have hple : (linP rs k).length = k + 1 := HLP.out.2.1
        generalize hpp : linP rs k = p at *
        have HZ := Lib.hid (show hor x p = 0 ↔ f = true by rw [HLP.out.2.2 x, HF.out])
        have HP := Lib.hid (show Byt wr A1 (k + 1) c1 p by have := HP.out; rwa [hple] at this)
        clear hpp HLP HF
        have HLT := Lib.hid (lit_byt wr wr.heap.size rfl [x, 1] #[.int .u8 (x.toNat : Int), .int .u8 1] rfl 2 rfl (by omega))
        cases f with
        | true =>
          have HV := Lib.hid ((ev_hor p x).trans (HZ.out.2 rfl))
          have HR := Lib.hid (prem_root (HZ.out.2 rfl))
          go_wp2_with fail
          refine (divyes_b (wr.alloc (.cells #[.int .u8 (x.toNat : Int), .int .u8 1] 5)) A1 (k + 1) c1 p (some ⟨wr.heap.size, 0, none⟩) 2 2 [x, 1] (HP.out.alloc (.cells #[.int .u8 (x.toNat : Int), .int .u8 1] 5)) HLT.out (lin_ne x) (by omega) (by simp)).mono ?_
          rw [HR.out]
          rintro e w5 ⟨v5, v6, rfl, ho5, ho6, hb5⟩
          obtain ⟨A6, c6, rfl, hy6, _⟩ := byt_own ho6
          have HB5 := Lib.hid (((HB.out.alloc (HB.out.size) (.cells #[.int .u8 (x.toNat : Int), .int .u8 1] 5))).trans (hb5.mono (by simp; exact Nat.le_succ_of_le HB.out.size)))
          have HP5 := Lib.hid ((HP.out.alloc (.cells #[.int .u8 (x.toNat : Int), .int .u8 1] 5)).below hb5)
          clear ho5 ho6 hb5 hy6
          go_wp2_with fail
          refine (eval_b _ A1 (k + 1) c1 p x HP5.out).mono ?_
          rw [show evTo p x p.length = 0 from HV.out]
          rintro e w6 ⟨rfl, hd⟩
          have HB6 := Lib.hid (HB5.out.trans (hd.below _))
          clear hd
          go_wp2_with fail
          refine (awake_b _).mono ?_
          rintro e w7 ⟨rfl, hb7⟩
          have HB7 := Lib.hid (HB6.out.trans (hb7.mono HB6.out.size))
          clear hb7
          go_wp2
          go_ret
          exact ⟨rfl, HB7.out⟩
        | false =>
          have HNZ := Lib.hid (show hor x p ≠ 0 from fun h => by have := HZ.out.1 h; exact absurd this (by decide))
          have HR := Lib.hid (prem_no HNZ.out)
          obtain ⟨v, hv⟩ : ∃ v, v = hor x p := ⟨_, rfl⟩
          have hvz : ((v.toNat : Int) == 0) = false := by
            rw [beq_eq_false_iff_ne]
            intro h
            exact HNZ.out (hv ▸ UInt8.toNat_inj.1 (by simpa using h))
          have HV := Lib.hid ((ev_hor p x).trans hv.symm)
          have HVR := Lib.hid hv
          clear hv
          go_wp2_with fail
          refine (divyes_b (wr.alloc (.cells #[.int .u8 (x.toNat : Int), .int .u8 1] 5)) A1 (k + 1) c1 p (some ⟨wr.heap.size, 0, none⟩) 2 2 [x, 1] (HP.out.alloc (.cells #[.int .u8 (x.toNat : Int), .int .u8 1] 5)) HLT.out (lin_ne x) (by omega) (by simp)).mono ?_
          rw [HR.out]
          rintro e w5 ⟨v5, v6, rfl, ho5, ho6, hb5⟩
          obtain ⟨A6, c6, rfl, hy6, _⟩ := byt_own ho6
          have HB5 := Lib.hid (((HB.out.alloc (HB.out.size) (.cells #[.int .u8 (x.toNat : Int), .int .u8 1] 5))).trans (hb5.mono (by simp; exact Nat.le_succ_of_le HB.out.size)))
          have HP5 := Lib.hid ((HP.out.alloc (.cells #[.int .u8 (x.toNat : Int), .int .u8 1] 5)).below hb5)
          clear ho5 ho6 hb5 hy6
          go_wp2_with fail
          refine (eval_b _ A1 (k + 1) c1 p x HP5.out).mono ?_
          rw [show evTo p x p.length = v from HV.out]
          rintro e w6 ⟨rfl, hd⟩
          have HB6 := Lib.hid (HB5.out.trans (hd.below _))
          clear hd
          go_wp2_with fail
          refine (awake_b _).mono ?_
          rintro e w7 ⟨rfl, hb7⟩
          have HB7 := Lib.hid (HB6.out.trans (hb7.mono HB6.out.size))
          clear hb7
          go_wp2
          go_ret
          exact ⟨rfl, HB7.out⟩
  · have HT := Lib.hid (show allLe 20 [(A, n, c)] = false by simp [allLe]; omega)
    clear h hs hln
    go_enter Try.func11, Try.ntmps11
    go_wp2_with fail
    refine (small_b _ _ 1 1 20 [(A, n, c)] HSL.out HLE.out).mono ?_
    rw [HT.out]
    rintro e w' ⟨rfl, rfl⟩
    go_wp2_with fail
    refine (awake_b _).mono ?_
    rintro e w1 ⟨rfl, hb⟩
    have HB := Lib.hid (HB0.out.trans (hb.mono HB0.out.size))
    clear hb
    go_wp2
    go_ret
    exact ⟨rfl, HB.out⟩

end GfpolyRoots
end Go.Proofs.Ytphlagmalppbkaa
