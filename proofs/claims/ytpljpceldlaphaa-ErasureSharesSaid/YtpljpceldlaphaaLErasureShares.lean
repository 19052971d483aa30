/- The law ErasureShares of stelelaw15 returns true for every input, and the argument reads behind the call as it read before. No conditions. -/
import Derived.Test.YtpljpceldlaphaaEy
namespace Go.Proofs.Ytpljpceldlaphaa
namespace ErasureShares
open Go.RowKit

def big (x : Int × ByteArray) : Bool := decide (40 < x.2.size)

set_option maxRecDepth 100000 in
set_option maxHeartbeats 2000000 in
theorem core (w : World) (A : Option Addr) (n c : Nat) (hv : List (Int × ByteArray)) (h : Shs w A n c hv) (hm : ∀ x ∈ hv, (IntKind.i64.min ≤ x.1 ∧ x.1 ≤ IntKind.i64.max) ∧ x.2.size ≤ maxLen) (data : Int) (hd : IntKind.i64.min ≤ data ∧ data ≤ IntKind.i64.max) (index : Int) (hi : IntKind.i64.min ≤ index ∧ index ≤ IntKind.i64.max) :
    Calls Try.prog 9 #[.slice A n c, .int .i64 data, .int .i64 index] w fun e w' => e = .returned (.bool true) ∧ Below w.heap.size w w' := by
  have hn := h.len
  have hlc : n ≤ c := h.1
  have hcm : c ≤ 9223372036854775807 := h.2.1
  have HV := Lib.hid h
  have HN := Lib.hid hn
  have HM := Lib.hid hm
  have HD := Lib.hid hd
  have HI := Lib.hid hi
  clear h hn hm hd hi
  by_cases h16 : 16 < n
  · go_enter Try.func9, Try.ntmps9
    go_wp2_with fail
    refine (awake_e _).mono ?_
    rintro e w1 ⟨rfl, hb⟩
    go_wp2
    go_ret
    exact ⟨rfl, hb⟩
  · go_enter Try.func9, Try.ntmps9
    go_wp2_with fail
    go_loopw [22] (fun i W => ∃ k : Nat, k ≤ n ∧ i = .int .i64 (k : Int) ∧ (hv.take k).any big = false ∧ W = w) (fun i _ => n - (intOf i).toNat)
    case atStart => exact ⟨0, by omega, rfl, rfl, rfl⟩
    case round =>
      obtain ⟨k, hk, rfl, hany, rfl⟩ := hrel
      have HA := Lib.hid hany
      clear hany
      by_cases hkn : k < n
      · have hkl : k < hv.length := by rw [← HN.out]; exact hkn
        obtain ⟨x, hx⟩ : ∃ x, x = hv[k] := ⟨_, rfl⟩
        have hsx := (HM.out _ (List.getElem_mem hkl)).2
        obtain ⟨av, rfl, _, _, hcv⟩ := HV.out.at_ hkl
        rw [← hx] at hcv hsx
        have HX := Lib.hid hx
        clear hx
        unfold maxLen at hsx
        by_cases hxb : 40 < x.2.size
        · go_wp2_with fail
          refine (awake_e _).mono ?_
          rintro e w1 ⟨rfl, hb⟩
          go_wp2
          go_ret
          exact ⟨rfl, hb⟩
        · have HA2 := Lib.hid (any_take hkl HA.out (by rw [← HX.out]; unfold big; simp; omega))
          go_wp2_with fail
          go_roundw
          case rel => exact ⟨k + 1, by omega, by go_num, HA2.out, trivial⟩
          case measure => simp [intOf]; omega
      · have hge : n ≤ k := by omega
        rw [List.take_of_length_le (by rw [← HN.out]; exact hge)] at HA
        have HSM := Lib.hid (show ∀ x ∈ hv, (IntKind.i64.min ≤ x.1 ∧ x.1 ≤ IntKind.i64.max) ∧ x.2.size ≤ 65536 from fun x hx => ⟨(HM.out x hx).1, by
          have h := (List.any_eq_false.1 HA.out) x hx
          simp [big] at h
          omega⟩)
        obtain ⟨er, her⟩ : ∃ er, er = restE hv data := ⟨_, rfl⟩
        obtain ⟨rb, hrb⟩ : ∃ rb, rb = restB hv data := ⟨_, rfl⟩
        obtain ⟨be, hbe⟩ : ∃ be, be = blockE hv data index := ⟨_, rfl⟩
        obtain ⟨bb, hbb⟩ : ∃ bb, bb = blockB hv data index := ⟨_, rfl⟩
        have HC1 := Lib.hid (restore_f wr A n c hv HV.out HSM.out data HD.out)
        have HC2 := Lib.hid (fun (W : World) (hW : Below wr.heap.size wr W) => rrestore_f W A n c hv (HV.out.below hW) HSM.out data HD.out)
        have HC3 := Lib.hid (fun (W : World) (hW : Below wr.heap.size wr W) => blockp_f W A n c hv (HV.out.below hW) HSM.out data HD.out index HI.out)
        have HC4 := Lib.hid (fun (W : World) (hW : Below wr.heap.size wr W) => rblock_f W A n c hv (HV.out.below hW) HSM.out data HD.out index HI.out)
        rw [← her, ← hrb] at HC1 HC2
        rw [← hbe, ← hbb] at HC3 HC4
        clear her hrb hbe hbb
        go_wp2_with fail
        refine HC1.out.mono ?_
        rintro e w1 ⟨v1, rfl, ho1, hb1⟩
        obtain ⟨A1, c1, rfl, hy1, _⟩ := lst_own ho1
        have HY1 := Lib.hid hy1
        have HB1 := Lib.hid hb1
        clear ho1 hb1 hy1
        go_wp2_with fail
        refine (HC2.out _ HB1.out).mono ?_
        rintro e w2 ⟨v2, rfl, ho2, hb2⟩
        obtain ⟨A2, c2, rfl, hy2, _⟩ := lst_own ho2
        have HY2 := Lib.hid hy2
        have HY12 := Lib.hid (HY1.out.below hb2)
        have HB2 := Lib.hid (HB1.out.trans (hb2.mono HB1.out.size))
        clear ho2 hb2 hy2
        go_wp2_with fail
        refine (HC3.out _ HB2.out).mono ?_
        rintro e w3 ⟨rfl, hb3⟩
        have HY13 := Lib.hid (HY12.out.below hb3)
        have HY23 := Lib.hid (HY2.out.below hb3)
        have HB3 := Lib.hid (HB2.out.trans (hb3.mono HB2.out.size))
        clear hb3
        go_wp2_with fail
        refine (HC4.out _ HB3.out).mono ?_
        rintro e w4 ⟨rfl, hb4⟩
        have HY14 := Lib.hid (HY13.out.below hb4)
        have HY24 := Lib.hid (HY23.out.below hb4)
        have HB4 := Lib.hid (HB3.out.trans (hb4.mono HB3.out.size))
        clear hb4
        go_wp2_with fail
        refine (same_s _ A1 _ c1 rb A2 _ c2 rb HY14.out HY24.out).mono ?_
        rw [decide_eq_true (rfl : rb = rb)]
        rintro e w5 ⟨rfl, hd5⟩
        have HB5 := Lib.hid (HB4.out.trans (hd5.below _))
        clear hd5
        go_wp2_with fail
        refine (awake_e _).mono ?_
        rintro e w6 ⟨rfl, hb6⟩
        have HB6 := Lib.hid (HB5.out.trans (hb6.mono HB5.out.size))
        clear hb6
        go_wp2
        go_ret
        exact ⟨rfl, HB6.out⟩

end ErasureShares
end Go.Proofs.Ytpljpceldlaphaa
