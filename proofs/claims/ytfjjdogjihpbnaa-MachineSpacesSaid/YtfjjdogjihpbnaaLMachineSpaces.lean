/- The law MachineSpaces of stelelaw17 returns true for every input, and each argument reads behind the call as it read before. No conditions. -/
import Derived.Test.YtfjjdogjihpbnaaMs
import Derived.Test.YtfjjdogjihpbnaaBu
namespace Go.Proofs.Ytfjjdogjihpbnaa
namespace MachineSpaces
open Go.RowKit Mc

/-- the five signs that a straight-line program has not -/
def sp (k : Nat) : UInt8 := if k = 0 then 63 else if k = 1 then 58 else if k = 2 then 59 else if k = 3 then 33 else 64
theorem sp_special {x : UInt8} (h : special (x.toNat : Int)) : ∃ k, k < 5 ∧ x = sp k := by
  have hx : ∀ n : Nat, (x.toNat : Int) = (n : Int) → n < 256 → x = UInt8.ofNat n := fun n h1 h2 => by
    apply UInt8.toNat_inj.1
    rw [UInt8.toNat_ofNat', Nat.mod_eq_of_lt h2]
    omega
  rcases h with h | h | h | h | h
  · exact ⟨4, by omega, hx 64 h (by omega)⟩
  · exact ⟨3, by omega, hx 33 h (by omega)⟩
  · exact ⟨0, by omega, hx 63 h (by omega)⟩
  · exact ⟨1, by omega, hx 58 h (by omega)⟩
  · exact ⟨2, by omega, hx 59 h (by omega)⟩
def five : Array Value := #[.string ⟨#[63]⟩, .string ⟨#[58]⟩, .string ⟨#[59]⟩, .string ⟨#[33]⟩, .string ⟨#[64]⟩]
theorem five_at {k : Nat} (h : k < 5) : five[k]? = some (.string ⟨#[sp k]⟩) := by
  match k, h with
  | 0, _ => rfl
  | 1, _ => rfl
  | 2, _ => rfl
  | 3, _ => rfl
  | 4, _ => rfl
def sepOf (j : Nat) : List UInt8 := if j = 0 then [32] else if j = 1 then [10] else [32, 32]
theorem sep_blank (j : Nat) : Blank (sepOf j) := by
  unfold sepOf Blank
  split
  · simp
  · split <;> simp
theorem sep_len (j : Nat) : (sepOf j).length ≤ 2 := by
  unfold sepOf
  split
  · simp
  · split <;> simp
def three : Array Value := #[.string ⟨#[32]⟩, .string ⟨#[10]⟩, .string ⟨#[32, 32]⟩]
theorem three_at {k : Nat} (h : k < 3) : three[k]? = some (.string (ofL (sepOf k))) := by
  match k, h with
  | 0, _ => rfl
  | 1, _ => rfl
  | 2, _ => rfl
theorem three_get {k : Nat} (h : k < ([.string ⟨#[32]⟩, .string ⟨#[10]⟩, .string ⟨#[32, 32]⟩] : List Value).length) : ([.string ⟨#[32]⟩, .string ⟨#[10]⟩, .string ⟨#[32, 32]⟩] : List Value)[k] = .string (ofL (sepOf k)) := by
  match k, h with
  | 0, _ => rfl
  | 1, _ => rfl
  | 2, _ => rfl
theorem isd_iff {x : UInt8} : isd x = true ↔ 48 ≤ (x.toNat : Int) ∧ (x.toNat : Int) ≤ 57 := by
  unfold isd
  exact decide_eq_true_iff
theorem gap_iff {x y : UInt8} : gap x y = true ↔ ¬ (isd x = true ∧ isd y = true) := by
  unfold gap
  rw [Bool.not_eq_true', ← Bool.not_eq_true, Bool.and_eq_true]
theorem gap_of {x y : UInt8} (h : (y.toNat : Int) < 48 ∨ 57 < (y.toNat : Int) ∨ (x.toNat : Int) < 48 ∨ 57 < (x.toNat : Int)) : gap x y = true := by
  rw [gap_iff, isd_iff, isd_iff]
  omega
theorem gap_no {x y : UInt8} (h1 : ¬ (y.toNat : Int) < 48) (h2 : ¬ 57 < (y.toNat : Int)) (h3 : ¬ (x.toNat : Int) < 48) (h4 : ¬ 57 < (x.toNat : Int)) : ¬ gap x y = true := by
  rw [gap_iff, isd_iff, isd_iff]
  omega
theorem get_l (s : ByteArray) (k : Nat) (h : k < s.size) : (bl s).getD k 0 = s[k] := by
  unfold bl
  rw [List.getD, List.getElem?_eq_getElem (by simpa using h)]
  rfl
theorem piece_gap {sep : List UInt8} {s : ByteArray} {k : Nat} (h : k < s.size) (h1 : k + 1 < s.size) (hg : gap s[k] s[k + 1] = true) : piece sep (bl s) k = s[k] :: sep := by
  unfold piece
  rw [get_l s k h, get_l s (k + 1) h1, if_pos ⟨by simpa [bl] using h1, hg⟩]
theorem piece_near {sep : List UInt8} {s : ByteArray} {k : Nat} (h : k < s.size) (h1 : k + 1 < s.size) (hg : ¬ gap s[k] s[k + 1] = true) : piece sep (bl s) k = [s[k]] := by
  unfold piece
  rw [get_l s k h, get_l s (k + 1) h1, if_neg (fun h => hg h.2)]
theorem piece_last {sep : List UInt8} {s : ByteArray} {k : Nat} (h : k < s.size) (h1 : ¬ k + 1 < s.size) : piece sep (bl s) k = [s[k]] := by
  unfold piece
  rw [get_l s k h, if_neg (fun h => h1 (by simpa [bl] using h.1))]

set_option maxRecDepth 100000 in
set_option maxHeartbeats 4000000 in
theorem core (w : World) (code : ByteArray) (hcode : code.size ≤ maxLen) (Ai : Option Addr) (ni ci : Nat) (input : List Int) (hi : Sl w 1 Ai ni ci (iv input)) (hiw : ∀ x ∈ input, W32 x) (kk : Nat) (hkk : kk ≤ 255) :
    Calls Try.prog 6 #[.string code, .slice Ai ni ci, .int .u8 (kk : Int)] w fun e w' => e = .returned (.bool true) ∧ Below w.heap.size w w' := by
  have HI := Lib.hid hi
  have hni := hi.le_max
  have HNI := Lib.hid hni
  have HIW := Lib.hid hiw
  have hca : code.size ≤ 9223372036854775807 := by unfold maxLen at hcode; omega
  clear hi hni hiw hcode
  go_enter Try.func6, Try.ntmps6
  go_wp2_with fail
  refine (alive_f _).mono ?_
  rintro e w1 ⟨rfl, hb1⟩
  have HB1 := Lib.hid hb1
  clear hb1
  by_cases hl : 200 < code.size
  · go_wp2_with fail
    go_ret
    exact ⟨rfl, HB1.out⟩
  have hld : decide ((200:Int) < code.size) = false := decide_eq_false (by omega)
  by_cases hm : 100 < ni
  · go_wp2_with fail
    go_ret
    exact ⟨rfl, HB1.out⟩
  have hmd : decide ((100:Int) < ni) = false := decide_eq_false (by omega)
  go_wp2_with fail
  have HF := Lib.hid (Blk.new w1 9 five)
  have HBF := Lib.hid (HB1.out.alloc HB1.out.size (.cells five 9))
  obtain ⟨v1, hv1⟩ : ∃ v1, v1 = w1.alloc (.cells five 9) := ⟨_, rfl⟩
  obtain ⟨g1, hg1⟩ : ∃ g1, g1 = w1.heap.size := ⟨_, rfl⟩
  rw [← hv1, ← hg1] at HF
  rw [← hv1] at HBF
  have HV1 := Lib.hid hv1
  have HG1 := Lib.hid hg1
  have hfive : (five : Array Value) = #[.string ⟨#[63]⟩, .string ⟨#[58]⟩, .string ⟨#[59]⟩, .string ⟨#[33]⟩, .string ⟨#[64]⟩] := rfl
  rw [hfive] at hv1
  rw [← hv1, ← hg1]
  clear hv1 hg1 hfive
  go_loop [25] (fun i => ∃ k : Nat, k ≤ 5 ∧ i = .int .i64 (k : Int) ∧ Hid (∀ j, j < k → ¬ sp j ∈ bl code)) (fun i => 5 - (intOf i).toNat)
  case atStart => exact ⟨0, by omega, rfl, Lib.hid (fun j hj => absurd hj (by omega))⟩
  case round =>
    obtain ⟨k, hk, rfl, HNO⟩ := hrel
    by_cases hk5 : k < 5
    · have hc : v1.cell? ⟨g1, k, none⟩ = some (.string ⟨#[sp k]⟩) := by rw [HF.out.cell, five_at hk5]
      by_cases hin : sp k ∈ bl code
      · go_wp2_with fail
        refine (has_yes _ _ _ hin).mono ?_
        rintro e w' ⟨rfl, rfl⟩
        go_wp2_with fail
        go_ret
        exact ⟨rfl, HBF.out⟩
      · go_wp2_with fail
        refine (has_no _ _ _ hin).mono ?_
        rintro e w' ⟨rfl, rfl⟩
        go_wp2_with fail
        go_round
        case rel => exact ⟨k + 1, by omega, by go_num, Lib.hid (fun j hj => by
          by_cases h : j = k
          · subst h; exact hin
          · exact HNO.out j (by omega))⟩
        case measure => simp [intOf]; omega
    · obtain rfl : k = 5 := by omega
      have HSP := Lib.hid (show ∀ x ∈ bl code, ¬ special (x.toNat : Int) from fun x hx hs => by
        obtain ⟨j, hj, rfl⟩ := sp_special hs
        exact HNO.out j hj hx)
      clear HNO
      go_wp2_with fail
      have HBD := Lib.hid (Bld.new v1 HBF.out.size)
      have HBW := Lib.hid (HBF.out.alloc HBF.out.size (.cells #[.pointer none, .slice none 0 0] 43))
      obtain ⟨b, hb⟩ : ∃ b, b = v1.heap.size := ⟨_, rfl⟩
      rw [← hb] at HBD
      rw [← hb]
      clear hb
      obtain ⟨v2, hv2⟩ : ∃ v2, v2 = v1.alloc (.cells #[.pointer none, .slice none 0 0] 43) := ⟨_, rfl⟩
      rw [← hv2] at HBD HBW
      rw [← hv2]
      clear hv2
      have hk3 : (kk : Int) % 3 = ((kk % 3 : Nat) : Int) := by omega
      have hk3' : kk % 3 < 3 := by omega
      obtain ⟨j3, hj3⟩ : ∃ j3, j3 = kk % 3 := ⟨_, rfl⟩
      rw [← hj3] at hk3 hk3'
      clear hj3
      go_loopw [10] (fun i W => ∃ k : Nat, k ≤ code.size ∧ i = .int .i64 (k : Int) ∧ Hid (Bld W w.heap.size b (wideN (sepOf j3) (bl code) k)) ∧ Hid (Below w.heap.size w W)) (fun i _ => code.size - (intOf i).toNat)
      case atStart => exact ⟨0, by omega, rfl, HBD, HBW⟩
      case round =>
        obtain ⟨k, hk, rfl, HBD, HBW⟩ := hrel
        clear HF HBF
        by_cases hkl : k < code.size
        · have HWL := Lib.hid (wideN_len (sepOf j3) (bl code) k)
          have HLE : (wideN (sepOf j3) (bl code) k).length ≤ 1000 := by
            have h1 := HWL.out
            have h2 := sep_len j3
            have h3 : k * ((sepOf j3).length + 1) ≤ 200 * 3 := Nat.mul_le_mul (by omega) (by omega)
            omega
          have HLE := Lib.hid HLE
          go_wp2_with fail
          refine (wbyte HBD.out (by have := HLE.out; omega) HBW.out.size code[k]).mono ?_
          rintro e w2 ⟨rfl, hbd, hbb, _⟩
          have HBD2 := Lib.hid hbd
          have HBW2 := Lib.hid (HBW.out.trans hbb)
          clear hbd hbb
          by_cases hk1 : k + 1 < code.size
          · have HPG := Lib.hid (fun hg => piece_gap (sep := sepOf j3) hkl hk1 hg)
            have HPN := Lib.hid (fun hg => piece_near (sep := sepOf j3) hkl hk1 hg)
            go_wp2_with fail
            case roundEnd =>
              have hg : ¬ gap code[k] code[k + 1] = true := gap_no (by omega) (by omega) (by omega) (by omega)
              go_roundw
              case rel => exact ⟨k + 1, by omega, by go_num, Lib.hid (by rw [wideN_succ, HPN.out hg]; exact HBD2.out), HBW2⟩
              case measure => simp [intOf]; omega
            all_goals
              have hg : gap code[k] code[k + 1] = true := gap_of (by omega)
              rw [three_get]
              refine (wstr (HBD2.out.alloc _) (by have := HLE.out; simp; omega) (Nat.le_trans HBW2.out.size (by simp)) (ofL (sepOf j3)) (by have := sep_len j3; show (sepOf j3).toArray.size ≤ _; simp; omega)).mono ?_
              rintro e w3 ⟨rfl, hbd, hbb, _⟩
              have HBD3 := Lib.hid (show Bld w3 w.heap.size b (wideN (sepOf j3) (bl code) (k + 1)) by rw [wideN_succ, HPG.out hg]; rw [bl_ofL, List.append_assoc] at hbd; exact hbd)
              have HBW3 := Lib.hid ((HBW2.out.alloc HBW2.out.size _).trans hbb)
              clear hbd hbb
              go_wp2_with fail
              go_roundw
              case rel => exact ⟨k + 1, by omega, by go_num, HBD3, HBW3⟩
              case measure => simp [intOf]; omega
          · have HPL := Lib.hid (piece_last (sep := sepOf j3) hkl hk1)
            go_wp2_with fail
            go_roundw
            case rel => exact ⟨k + 1, by omega, by go_num, Lib.hid (by rw [wideN_succ, HPL.out]; exact HBD2.out), HBW2⟩
            case measure => simp [intOf]; omega
        · have hkl' : k = (bl code).length := by have : (bl code).length = code.size := by simp [bl]
                                                 omega
          have HBD := Lib.hid (show Bld wr w.heap.size b (wide (sepOf j3) (bl code)) by rw [← wideN_all, ← hkl']; exact HBD.out)
          clear hkl'
          obtain ⟨O, er, k1, hr1⟩ : ∃ O er k1, Mc.runT [(0, code)] 0 input 1000 = (O, er, k1) := ⟨_, _, _, rfl⟩
          obtain ⟨O2, er2, k2, hr2⟩ : ∃ O er k1, Mc.runT [(0, ofL (wide (sepOf j3) (bl code)))] 0 input 1000 = (O, er, k1) := ⟨_, _, _, rfl⟩
          have hsm := spaces_run (sepOf j3) (sep_blank j3) (sep_len j3) code (by omega) HSP.out input
          change Same _ (Mc.runT [(0, ofL (wide (sepOf j3) (bl code)))] 0 input 1000) at hsm
          rw [hr1, hr2] at hsm
          obtain ⟨hO, hE, hK⟩ := hsm
          simp only at hO hE hK
          subst hO hE
          have HR1 := Lib.hid hr1
          have HR2 := Lib.hid hr2
          clear hr1 hr2
          have hk12 : decide (k1 ≤ k2) = true := decide_eq_true hK
          go_wp2_with fail
          refine (run_t1 (Blk.new wr 35 #[.int .i64 0, .string code]) (by omega) (by omega) (by omega) (by omega) ((HI.out.below HBW.out).alloc _) HIW.out HR1.out).mono ?_
          rintro e V1 ⟨rfl, hb⟩
          have hB1 := (HBW.out.alloc HBW.out.size (.cells #[.int .i64 0, .string code] 35)).trans (hb.mono (Nat.le_trans HBW.out.size (by simp)))
          have HGB := Lib.hid (show V1.heap.size ≠ b by have := ((HBD.out.alloc (.cells #[.int .i64 0, .string code] 35)).below hb).lt; omega)
          have HX := Lib.hid (show Oc w.heap.size (V1.alloc (.cells #[.string (ofL O), .int .i64 er, .int .i64 k1] 29)) V1.heap.size (ofL O) er k1 from ⟨hB1.size, Blk.new _ _ _⟩)
          have HBD1 := Lib.hid (((HBD.out.alloc (.cells #[.int .i64 0, .string code] 35)).below hb).alloc (.cells #[.string (ofL O), .int .i64 er, .int .i64 k1] 29))
          have HBW1 := Lib.hid (hB1.alloc hB1.size (.cells #[.string (ofL O), .int .i64 er, .int .i64 k1] 29))
          clear hb hB1 HBD HBW
          obtain ⟨V2, hV2⟩ : ∃ V2, V2 = V1.alloc (.cells #[.string (ofL O), .int .i64 er, .int .i64 k1] 29) := ⟨_, rfl⟩
          rw [← hV2] at HX HBD1 HBW1
          have HV2 := Lib.hid hV2
          clear hV2
          obtain ⟨gX, hgX⟩ : ∃ gX, gX = V1.heap.size := ⟨_, rfl⟩
          rw [← hgX] at HGB HX
          have HGX := Lib.hid hgX
          clear hgX
          go_wp2_with fail
          rw [← HV2.out, ← HGX.out]
          refine (bstring HBD1.out HBW1.out.size).mono ?_
          rintro e V3 ⟨rfl, _, hbb, hk⟩
          have HX3 := Lib.hid (HX.out.kept HGB.out hk)
          have HBW3 := Lib.hid (HBW1.out.trans hbb)
          clear hbb hk HX HBW1 HBD1 HV2 HGX HGB
          have HWS := Lib.hid (show (ofL (wide (sepOf j3) (bl code))).size ≤ 10000 by
            have h1 := wideN_len (sepOf j3) (bl code) (bl code).length
            rw [wideN_all] at h1
            have h2 : (bl code).length = code.size := by simp [bl]
            have h3 := sep_len j3
            have h4 : (bl code).length * ((sepOf j3).length + 1) ≤ 200 * 3 := Nat.mul_le_mul (by omega) (by omega)
            show (wide (sepOf j3) (bl code)).toArray.size ≤ _
            rw [List.size_toArray]
            omega)
          go_wp2_with fail
          refine (run_t1 (Blk.new V3 35 #[.int .i64 0, .string (ofL (wide (sepOf j3) (bl code)))]) HWS.out (by omega) (by omega) (by omega) ((HI.out.below HBW3.out).alloc _) HIW.out HR2.out).mono ?_
          rintro e V4 ⟨rfl, hb⟩
          have hB4 := (HBW3.out.alloc HBW3.out.size (.cells #[.int .i64 0, .string (ofL (wide (sepOf j3) (bl code)))] 35)).trans (hb.mono (Nat.le_trans HBW3.out.size (by simp)))
          have HY := Lib.hid (show Oc w.heap.size (V4.alloc (.cells #[.string (ofL O), .int .i64 er, .int .i64 k2] 29)) V4.heap.size (ofL O) er k2 from ⟨hB4.size, Blk.new _ _ _⟩)
          have HX4 := Lib.hid (((HX3.out.alloc (.cells #[.int .i64 0, .string (ofL (wide (sepOf j3) (bl code)))] 35)).below hb).alloc (.cells #[.string (ofL O), .int .i64 er, .int .i64 k2] 29))
          have HBW4 := Lib.hid (hB4.alloc hB4.size (.cells #[.string (ofL O), .int .i64 er, .int .i64 k2] 29))
          clear hb hB4 HX3 HBW3
          have a0 := HX4.out.2.cell 0
          have a1 := HX4.out.2.cell 1
          have a2 := HX4.out.2.cell 2
          simp only [List.getElem?_toArray, List.getElem?_cons_zero, List.getElem?_cons_succ] at a0 a1 a2
          go_wp2_with fail
          go_ret
          exact ⟨rfl, HBW4.out⟩

theorem core_i (w : World) (code : ByteArray) (hcode : code.size ≤ maxLen) (Ai : Option Addr) (ni ci : Nat) (input : List Int) (hi : Sl w 1 Ai ni ci (iv input)) (hiw : ∀ x ∈ input, W32 x) (a : Int) (ha : (Lit.int .u8 a).wf = true) :
    Calls Try.prog 6 #[.string code, .slice Ai ni ci, .int .u8 a] w fun e w' => e = .returned (.bool true) ∧ Below w.heap.size w w' := by
  obtain ⟨x, rfl⟩ := byte_of ha
  exact core w code hcode Ai ni ci input hi hiw x.toNat (by have := x.toNat_lt; omega)

end MachineSpaces
end Go.Proofs.Ytfjjdogjihpbnaa
