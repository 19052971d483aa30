/- The law MachineSubroutine of stelelaw17 returns true for every input in a world that holds the table of the powers of ten. -/
import Derived.Test.YtfjjdogjihpbnaaDoorMz
import Derived.Test.YtfjjdogjihpbnaaDoorLMachineArithmetic
namespace Go.Proofs.YtfjjdogjihpbnaaDoor
namespace MachineSubroutine
open Go.RowKit Mc

theorem txs_three {W : World} {g : Nat} {a b d : Int} {x y z : ByteArray} (h : Blk W g 30 #[.int .i64 a, .string x, .int .i64 b, .string y, .int .i64 d, .string z]) : Txs W (some ⟨g, 0, none⟩) 3 3 [(a, x), (b, y), (d, z)] :=
  Blk.sl (n := 3) (size := 2) h rfl (by unfold maxLen; omega)
theorem run_t3 {V : World} {g : Nat} {a b d at_ steps : Int} {x y z : ByteArray} (h : Blk V g 30 #[.int .i64 a, .string x, .int .i64 b, .string y, .int .i64 d, .string z]) (hx : x.size ≤ 10000) (hy : y.size ≤ 10000) (hz : z.size ≤ 10000) (ha : 0 ≤ a ∧ a ≤ 100000) (hb : 0 ≤ b ∧ b ≤ 100000) (hd : 0 ≤ d ∧ d ≤ 100000) (hat : 0 ≤ at_ ∧ at_ ≤ 100000) (hst : 0 ≤ steps ∧ steps ≤ 100000)
    {O : List UInt8} {er k : Int} (hr : Mc.runT [(a, x), (b, y), (d, z)] at_ [] steps = (O, er, k)) :
    Calls Tryd.prog 7 #[.slice (some ⟨g, 0, none⟩) 3 3, .int .i64 at_, .slice none 0 0, .int .i64 steps] V (Outs V (ofL O) er k) :=
  outs_of (mrun_f V _ 3 3 [(a, x), (b, y), (d, z)] (txs_three h) (fun t ht => by
    rcases List.mem_cons.1 ht with rfl | ht
    · exact ⟨ilim (by omega) (by omega), (by unfold maxLen; omega : x.size ≤ maxLen)⟩
    rcases List.mem_cons.1 ht with rfl | ht
    · exact ⟨ilim (by omega) (by omega), (by unfold maxLen; omega : y.size ≤ maxLen)⟩
    · rw [List.mem_singleton] at ht
      subst ht
      exact ⟨ilim (by omega) (by omega), (by unfold maxLen; omega : z.size ≤ maxLen)⟩) at_ (ilim (by omega) (by omega)) none 0 0 [] (Sl.nil_ _ 1) (fun x hx => by cases hx) steps (ilim (by omega) (by omega))) (by rw [hr, bl_ofL])

theorem repeatL_one (x : UInt8) : ∀ k : Nat, Lib.repeatL [x] k = List.replicate k x
  | 0 => rfl
  | k + 1 => by
    show [x] ++ Lib.repeatL [x] k = _
    rw [repeatL_one x k, List.replicate_succ]
    rfl
theorem rep_f (k : Nat) (hk : k < 80) (V : World) : Calls Tryd.prog 13 #[.string ⟨#[46]⟩, .int .i64 (k : Int)] V fun e w' => e = .returned (.string (ofL (List.replicate k 46))) ∧ Below V.heap.size V w' :=
  (Tryd.strings_Repeat _ k V (by omega) (by show 1 * k ≤ _; omega)).mono fun e w' ⟨h1, h2⟩ => ⟨by rw [h1]; congr 2; show (⟨(Lib.repeatL [46] k).toArray⟩ : ByteArray) = _; rw [repeatL_one]; rfl, h2⟩

set_option maxRecDepth 100000 in
set_option maxHeartbeats 2000000 in
theorem core (w : World) (ht : Tab w) (n : Nat) (hn : n < 256) :
    Calls Tryd.prog 5 #[.int .u8 (n : Int)] w fun e w' => e = .returned (.bool true) ∧ Below w.heap.size w w' := by
  have HT := Lib.hid ht
  clear ht
  go_enter Tryd.func5, Tryd.ntmps5
  go_wp2_with fail
  refine (alive_f _).mono ?_
  rintro e w1 ⟨rfl, hb1⟩
  have HB1 := Lib.hid hb1
  have HT1 := Lib.hid (MachineArithmetic.tab_below HT.out hb1)
  clear hb1 HT
  have hk7 : (n : Int).tmod 80 = ((n % 80 : Nat) : Int) := by rw [Int.tmod_eq_emod_of_nonneg (by omega)]; omega
  have hk6 : (n : Int) % 80 = ((n % 80 : Nat) : Int) := by omega
  have hk7' : n % 80 < 80 := by omega
  obtain ⟨k, hk⟩ : ∃ k, k = n % 80 := ⟨_, rfl⟩
  rw [← hk] at hk7 hk7' hk6
  clear hk
  go_wp2_with fail
  refine (lit_f k (by omega) w1 HT1.out).mono ?_
  rintro e w2 ⟨rfl, hb2⟩
  have HB2 := Lib.hid (HB1.out.trans (hb2.mono HB1.out.size))
  clear hb2 HT1 HB1
  obtain ⟨da, hda⟩ : ∃ da : ByteArray, da = ⟨(Lib.decDigits k).toArray⟩ := ⟨_, rfl⟩
  have hds : da.size ≤ 2 := by
    have := dec_len 2 k (by omega) (by omega)
    rw [hda]; simpa [ByteArray.size] using this
  have HDA := Lib.hid hda
  rw [← hda]
  clear hda
  go_wp2_with fail
  obtain ⟨c, hc⟩ : ∃ c : ByteArray, c = da ++ ⟨#[32, 57, 48, 48, 33, 49, 48, 48, 58, 36]⟩ := ⟨_, rfl⟩
  have hbc : bl c = mnC k ++ [58, 36] := by
    rw [hc, HDA.out]
    simp only [MachineArithmetic.bl_app_]
    unfold mnC
    simp [bl]
  rw [← hc]
  clear hc
  have hcs : c.size ≤ 12 := by
    have h1 := mnC_len hk7'
    have h2 : (bl c).length = c.size := by simp [bl]
    rw [hbc] at h2
    simp at h2; omega
  obtain ⟨N, hrun⟩ := sub_run hk7' hbc
  obtain ⟨O, er, k1, hr1⟩ : ∃ O er k1, Mc.runT [(0, c), (100, scode), (140, semi)] 0 [] 20000 = (O, er, k1) := ⟨_, _, _, rfl⟩
  rw [hr1] at hrun
  have HR := Lib.hid hrun
  clear hbc hrun
  unfold scode semi at hr1
  refine (run_t3 (Blk.new w2 _ _) (by omega) (by decide) (by decide) (by omega) (by omega) (by omega) (by omega) (by omega) hr1).mono ?_
  rintro e V1 ⟨rfl, hb⟩
  have hB1 := (HB2.out.alloc HB2.out.size _).trans (hb.mono (Nat.le_trans HB2.out.size (by simp)))
  have HX := Lib.hid (show Oc w.heap.size (V1.alloc (.cells #[.string (ofL O), .int .i64 er, .int .i64 k1] 26)) V1.heap.size (ofL O) er k1 from ⟨hB1.size, Blk.new _ _ _⟩)
  have HBV := Lib.hid (hB1.alloc hB1.size (.cells #[.string (ofL O), .int .i64 er, .int .i64 k1] 26))
  clear hb hB1 HB2 hr1
  have a0 := HX.out.2.cell 0
  have a1 := HX.out.2.cell 1
  simp only [List.getElem?_toArray, List.getElem?_cons_zero, List.getElem?_cons_succ] at a0 a1
  by_cases hk : k + 1 ≤ 64
  · have hr := HR.out
    rw [if_pos hk] at hr
    injection hr with hO hr
    injection hr with hE hK1
    subst hO hE hK1
    clear HR
    obtain ⟨V2, hV2⟩ : ∃ V2, V2 = V1.alloc (.cells #[.string (ofL (List.replicate k 46)), .int .i64 0, .int .i64 k1] 26) := ⟨_, rfl⟩
    rw [← hV2] at HX HBV a0 a1
    have HV2 := Lib.hid hV2
    clear hV2
    have HG := Lib.hid (show V1.heap.size < V2.heap.size by rw [HV2.out]; simp)
    go_wp2_with fail
    rw [← HV2.out]
    generalize V1.heap.size = gX at *
    have HC := Lib.hid (fun V => rep_f k hk7' V)
    have hd0 : V2.drew.cell? ⟨gX, 0, none⟩ = some (.string (ofL (List.replicate k 46))) := a0
    have hd1 : V2.drew.cell? ⟨gX, 1, none⟩ = some (.int .i64 0) := a1
    have hz : ((ofL (List.replicate k 46)).toList == (ofL (List.replicate k 46)).toList) = true := by simp
    go_region_with (first | (go_at_call 13; (with_reducible refine (HC.out _).mono ?_); rintro e w5 ⟨rfl, hb5⟩; have hX5 := HX.out.2.drew.below hb5; have HB5 := Lib.hid (HBV.out.drew.trans (hb5.mono HBV.out.drew.size)); have hx0 := hX5.cell 0; have hx1 := hX5.cell 1; simp only [List.getElem?_toArray, List.getElem?_cons_zero, List.getElem?_cons_succ] at hx0 hx1; clear hb5 hX5))
    all_goals
      go_wp2_with fail
      go_ret
      exact ⟨rfl, HB5.out⟩
  · have hr := HR.out
    rw [if_neg hk] at hr
    injection hr with hO hr
    injection hr with hE hK1
    subst hO hE hK1
    clear HR
    have hz : (ofL []).toList.isEmpty = true := by simp [ofL]
    go_wp2_with fail
    go_ret
    exact ⟨rfl, HBV.out⟩

end MachineSubroutine
end Go.Proofs.YtfjjdogjihpbnaaDoor
