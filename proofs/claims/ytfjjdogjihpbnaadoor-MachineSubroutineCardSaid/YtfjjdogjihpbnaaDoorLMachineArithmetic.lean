/- The law MachineArithmetic of stelelaw17 returns true for every input in a world that holds the table of the powers of ten. -/
import Derived.Test.YtfjjdogjihpbnaaDoorMv
import Derived.Test.YtfjjdogjihpbnaaDoorFu
namespace Go.Proofs.YtfjjdogjihpbnaaDoor
namespace MachineArithmetic
open Go.RowKit Mc

theorem tab_below {w w' : World} (h : Tab w) (hb : Below w.heap.size w w') : Tab w' := by
  unfold Tab Lib.TabIs World.var? at *
  cases hg : (Tryd.prog).globalNamed "internal/strconv.uint64pow10" with
  | none => simp [hg] at h
  | some g =>
    simp only [hg, Option.bind_some] at h ⊢
    have hlt : g < w.heap.size := by
      rcases Nat.lt_or_ge g w.heap.size with h' | h'
      · exact h'
      · rw [Array.getElem?_eq_none h'] at h; simp at h
    rw [hb.block g hlt]
    exact h
theorem bl_app_ (a b : ByteArray) : bl (a ++ b) = bl a ++ bl b := by simp [bl, ByteArray.data_append]
/-- four bytes made a string -/
theorem conv4 (W : World) (g : Nat) (hg : g = W.heap.size) (x0 x1 x2 x3 : Int) (h0 : 0 ≤ x0 ∧ x0 < 256) (h1 : 0 ≤ x1 ∧ x1 < 256) (h2 : 0 ≤ x2 ∧ x2 < 256) (h3 : 0 ≤ x3 ∧ x3 < 256) :
    (convert 33 9 (.slice (some ⟨g, 0, none⟩) 4 4)).run Tryd.prog (W.alloc (.cells #[.int .u8 x0, .int .u8 x1, .int .u8 x2, .int .u8 x3] 5)) = .ok (.string (ofL [byte x0, byte x1, byte x2, byte x3])) (W.alloc (.cells #[.int .u8 x0, .int .u8 x1, .int .u8 x2, .int .u8 x3] 5)) := by
  subst hg
  have hb : ∀ x : Int, 0 ≤ x ∧ x < 256 → ((byte x).toNat : Int) = x := fun x h => by
    unfold byte
    rw [UInt8.toNat_ofNat', Nat.mod_eq_of_lt (by omega)]
    omega
  have h := run_convert_bytes_back (P := Tryd.prog) (W.alloc (.cells #[.int .u8 x0, .int .u8 x1, .int .u8 x2, .int .u8 x3] 5)) 33 9 5 ⟨W.heap.size, 0, none⟩ 4 [byte x0, byte x1, byte x2, byte x3] Tryd.underlying33 Tryd.underlying5 Tryd.underlying9 (fun j hj => by
    rw [Lib.add_plain, World.cell?_alloc_new]
    match j, hj with
    | 0, _ => exact congrArg (fun z => some (Value.int .u8 z)) (hb x0 h0).symm
    | 1, _ => exact congrArg (fun z => some (Value.int .u8 z)) (hb x1 h1).symm
    | 2, _ => exact congrArg (fun z => some (Value.int .u8 z)) (hb x2 h2).symm
    | 3, _ => exact congrArg (fun z => some (Value.int .u8 z)) (hb x3 h3).symm)
  exact h
theorem byte_cong {x y : Int} (h : x % 256 = y % 256) : byte x = byte y := by
  unfold byte
  rw [h]
theorem four_eq {x0 x1 x2 x3 y0 y1 y2 y3 : Int} (h0 : byte x0 = byte y0) (h1 : byte x1 = byte y1) (h2 : byte x2 = byte y2) (h3 : byte x3 = byte y3) : ((ofL [byte x0, byte x1, byte x2, byte x3]).toList == (ofL [byte y0, byte y1, byte y2, byte y3]).toList) = true := by
  rw [h0, h1, h2, h3]
  simp
/-- the signs -/
def sg (j : Nat) : UInt8 := if j = 0 then 43 else if j = 1 then 45 else if j = 2 then 42 else if j = 3 then 47 else if j = 4 then 37 else if j = 5 then 94 else 60
theorem sg_bin (j : Nat) : isBin ((sg j).toNat : Int) := by
  unfold sg
  repeat' split
  all_goals decide
theorem sg_cut {j : Nat} (h : j < 7) : (⟨#[43, 45, 42, 47, 37, 94, 60]⟩ : ByteArray).extract j (j + 1) = ⟨#[sg j]⟩ := by
  match j, h with
  | 0, _ => rfl
  | 1, _ => rfl
  | 2, _ => rfl
  | 3, _ => rfl
  | 4, _ => rfl
  | 5, _ => rfl
  | 6, _ => rfl

set_option maxRecDepth 100000 in
set_option maxHeartbeats 4000000 in
theorem core (w : World) (ht : Tab w) (a b : Nat) (ha : a < 4294967296) (hb : b < 4294967296) (k : Nat) (hk : k < 256) :
    Calls Tryd.prog 3 #[.int .u32 (a : Int), .int .u32 (b : Int), .int .u8 (k : Int)] w fun e w' => e = .returned (.bool true) ∧ Below w.heap.size w w' := by
  have HT := Lib.hid ht
  clear ht
  go_enter Tryd.func3, Tryd.ntmps3
  go_wp2_with fail
  refine (alive_f _).mono ?_
  rintro e w1 ⟨rfl, hb1⟩
  have HB1 := Lib.hid hb1
  have HT1 := Lib.hid (tab_below HT.out hb1)
  clear hb1 HT
  have hk7 : (k : Int) % 7 = ((k % 7 : Nat) : Int) := by omega
  have hk7' : k % 7 < 7 := by omega
  obtain ⟨j, hj⟩ : ∃ j, j = k % 7 := ⟨_, rfl⟩
  rw [← hj] at hk7 hk7'
  have HC := Lib.hid (sg_cut hk7')
  clear hj
  go_wp2_with fail

  rw [HC.out]
  refine (lit_f a ha w1 HT1.out).mono ?_
  rintro e w2 ⟨rfl, hb2⟩
  have HT2 := Lib.hid (tab_below HT1.out hb2)
  have HB2 := Lib.hid (HB1.out.trans (hb2.mono HB1.out.size))
  clear hb2 HT1 HB1
  have hda := dec_len 10 a (by omega) (by omega)
  have hdb := dec_len 10 b (by omega) (by omega)
  obtain ⟨da, hda'⟩ : ∃ da : ByteArray, da = ⟨(Lib.decDigits a).toArray⟩ := ⟨_, rfl⟩
  obtain ⟨db, hdb'⟩ : ∃ db : ByteArray, db = ⟨(Lib.decDigits b).toArray⟩ := ⟨_, rfl⟩
  obtain ⟨ds, hds⟩ : ∃ ds : ByteArray, ds = ⟨#[sg j]⟩ := ⟨_, rfl⟩
  have hsa : da.size ≤ 10 := by rw [hda']; simpa [ByteArray.size] using hda
  have hsb : db.size ≤ 10 := by rw [hdb']; simpa [ByteArray.size] using hdb
  have hss : ds.size = 1 := by rw [hds]; rfl
  have HDA := Lib.hid hda'
  have HDB := Lib.hid hdb'
  have HDS := Lib.hid hds
  rw [← hda', ← hds]
  clear hda hdb hda' hdb' hds
  go_wp2_with fail
  refine (lit_f b hb w2 HT2.out).mono ?_
  rintro e w3 ⟨rfl, hb3⟩
  have HB3 := Lib.hid (HB2.out.trans (hb3.mono HB2.out.size))
  clear hb3 HT2 HB2
  rw [← HDB.out]
  go_wp2_with fail
  obtain ⟨c, hc⟩ : ∃ c : ByteArray, c = da ++ ⟨#[32]⟩ ++ db ++ ds ++ ⟨#[49, 48, 48, 48, 33, 49, 48, 48, 48, 64, 46, 49, 48, 48, 48, 64, 50, 53, 54, 47, 46, 49, 48, 48, 48, 64, 54, 53, 53, 51, 54, 47, 46, 49, 48, 48, 48, 64, 49, 54, 55, 55, 55, 50, 49, 54, 47, 46, 36]⟩ := ⟨_, rfl⟩
  have hbc : bl c = arC a b (sg j) := by
    rw [hc, HDA.out, HDB.out, HDS.out]
    simp only [bl_app_]
    unfold arC arH
    simp [bl, arT]
  rw [← hc]
  clear hc
  obtain ⟨n, hrun⟩ := arith_run ha hb (sg_bin j) hbc
  have hcs : c.size ≤ 71 := by have := arC_len ha hb (sg j); rw [← hbc] at this; simpa [bl] using this
  obtain ⟨O, er, k1, hr1⟩ : ∃ O er k1, Mc.runT [(500, c)] 500 [] 200 = (O, er, k1) := ⟨_, _, _, rfl⟩
  rw [hr1] at hrun
  have HR := Lib.hid hrun
  refine (run_t1 (Blk.new w3 30 #[.int .i64 500, .string c]) (by omega) (by omega) (by omega) (by omega) (Sl.nil_ _ 1) (fun x hx => by simp at hx) hr1).mono ?_
  rintro e V1 ⟨rfl, hb⟩
  have hB1 := (HB3.out.alloc HB3.out.size (.cells #[.int .i64 500, .string c] 30)).trans (hb.mono (Nat.le_trans HB3.out.size (by simp)))
  have HX := Lib.hid (Blk.new V1 26 #[.string (ofL O), .int .i64 er, .int .i64 k1])
  have HB4 := Lib.hid (hB1.alloc hB1.size (.cells #[.string (ofL O), .int .i64 er, .int .i64 k1] 26))
  have HBV := Lib.hid hB1
  clear hb hB1 HB3 hr1 hbc hcs hrun
  have a0 := HX.out.cell 0
  have a1 := HX.out.cell 1
  simp only [List.getElem?_toArray, List.getElem?_cons_zero, List.getElem?_cons_succ] at a0 a1
  clear hk7 HC HDA HDB
  by_cases hj0 : j = 0
  · subst hj0
    have hv : ds = ⟨#[43]⟩ := HDS.out
    have hr : (O, er, k1) = ([byte (u32 ((a : Int) + (b : Int))), byte ((u32 ((a : Int) + (b : Int))) / 256), byte ((u32 ((a : Int) + (b : Int))) / 65536), byte ((u32 ((a : Int) + (b : Int))) / 16777216)], 0, n) := HR.out
    injection hr with hO hr
    injection hr with hE _
    subst hO hE hv
    clear HR HDS
    by_cases hb0 : b = 0
    · subst hb0
      go_wp2_with fail
      rw [conv4 _ _ (by simp) _ _ _ _ (by first | omega | (unfold u32; omega)) (by first | omega | (unfold u32; omega)) (by first | omega | (unfold u32; omega)) (by first | omega | (unfold u32; omega))]
      simp only [Result.andThen_ok]
      go_wp2_with fail
      go_ret
      exact ⟨congrArg (fun z => Ending.returned (Value.bool z)) (four_eq (byte_cong (by first | omega | (unfold u32; omega) | (rw [Nat.xor_zero]; omega))) (byte_cong (by first | omega | (unfold u32; omega) | (rw [Nat.xor_zero]; omega))) (byte_cong (by first | omega | (unfold u32; omega) | (rw [Nat.xor_zero]; omega))) (byte_cong (by first | omega | (unfold u32; omega) | (rw [Nat.xor_zero]; omega)))), (HBV.out.alloc HBV.out.size _).alloc (Nat.le_trans HBV.out.size (by simp)) _⟩
    · have hbi : ¬ (b : Int) = 0 := by omega
      go_wp2_with fail
      rw [conv4 _ _ (by simp) _ _ _ _ (by first | omega | (unfold u32; omega)) (by first | omega | (unfold u32; omega)) (by first | omega | (unfold u32; omega)) (by first | omega | (unfold u32; omega))]
      simp only [Result.andThen_ok]
      go_wp2_with fail
      go_ret
      exact ⟨congrArg (fun z => Ending.returned (Value.bool z)) (four_eq (byte_cong (by first | omega | (unfold u32; omega) | (rw [Nat.xor_zero]; omega))) (byte_cong (by first | omega | (unfold u32; omega) | (rw [Nat.xor_zero]; omega))) (byte_cong (by first | omega | (unfold u32; omega) | (rw [Nat.xor_zero]; omega))) (byte_cong (by first | omega | (unfold u32; omega) | (rw [Nat.xor_zero]; omega)))), (HBV.out.alloc HBV.out.size _).alloc (Nat.le_trans HBV.out.size (by simp)) _⟩
  by_cases hj1 : j = 1
  · subst hj1
    have hv : ds = ⟨#[45]⟩ := HDS.out
    have hr : (O, er, k1) = ([byte (u32 ((a : Int) - (b : Int))), byte ((u32 ((a : Int) - (b : Int))) / 256), byte ((u32 ((a : Int) - (b : Int))) / 65536), byte ((u32 ((a : Int) - (b : Int))) / 16777216)], 0, n) := HR.out
    injection hr with hO hr
    injection hr with hE _
    subst hO hE hv
    clear HR HDS
    by_cases hb0 : b = 0
    · subst hb0
      go_wp2_with fail
      rw [conv4 _ _ (by simp) _ _ _ _ (by first | omega | (unfold u32; omega)) (by first | omega | (unfold u32; omega)) (by first | omega | (unfold u32; omega)) (by first | omega | (unfold u32; omega))]
      simp only [Result.andThen_ok]
      go_wp2_with fail
      go_ret
      exact ⟨congrArg (fun z => Ending.returned (Value.bool z)) (four_eq (byte_cong (by first | omega | (unfold u32; omega) | (rw [Nat.xor_zero]; omega))) (byte_cong (by first | omega | (unfold u32; omega) | (rw [Nat.xor_zero]; omega))) (byte_cong (by first | omega | (unfold u32; omega) | (rw [Nat.xor_zero]; omega))) (byte_cong (by first | omega | (unfold u32; omega) | (rw [Nat.xor_zero]; omega)))), (HBV.out.alloc HBV.out.size _).alloc (Nat.le_trans HBV.out.size (by simp)) _⟩
    · have hbi : ¬ (b : Int) = 0 := by omega
      go_wp2_with fail
      rw [conv4 _ _ (by simp) _ _ _ _ (by first | omega | (unfold u32; omega)) (by first | omega | (unfold u32; omega)) (by first | omega | (unfold u32; omega)) (by first | omega | (unfold u32; omega))]
      simp only [Result.andThen_ok]
      go_wp2_with fail
      go_ret
      exact ⟨congrArg (fun z => Ending.returned (Value.bool z)) (four_eq (byte_cong (by first | omega | (unfold u32; omega) | (rw [Nat.xor_zero]; omega))) (byte_cong (by first | omega | (unfold u32; omega) | (rw [Nat.xor_zero]; omega))) (byte_cong (by first | omega | (unfold u32; omega) | (rw [Nat.xor_zero]; omega))) (byte_cong (by first | omega | (unfold u32; omega) | (rw [Nat.xor_zero]; omega)))), (HBV.out.alloc HBV.out.size _).alloc (Nat.le_trans HBV.out.size (by simp)) _⟩
  by_cases hj2 : j = 2
  · subst hj2
    have hv : ds = ⟨#[42]⟩ := HDS.out
    have hr : (O, er, k1) = ([byte (u32 ((a : Int) * (b : Int))), byte ((u32 ((a : Int) * (b : Int))) / 256), byte ((u32 ((a : Int) * (b : Int))) / 65536), byte ((u32 ((a : Int) * (b : Int))) / 16777216)], 0, n) := HR.out
    injection hr with hO hr
    injection hr with hE _
    subst hO hE hv
    clear HR HDS
    by_cases hb0 : b = 0
    · subst hb0
      go_wp2_with fail
      rw [conv4 _ _ (by simp) _ _ _ _ (by first | omega | (unfold u32; omega)) (by first | omega | (unfold u32; omega)) (by first | omega | (unfold u32; omega)) (by first | omega | (unfold u32; omega))]
      simp only [Result.andThen_ok]
      go_wp2_with fail
      go_ret
      exact ⟨congrArg (fun z => Ending.returned (Value.bool z)) (four_eq (byte_cong (by first | omega | (unfold u32; omega) | (rw [Nat.xor_zero]; omega))) (byte_cong (by first | omega | (unfold u32; omega) | (rw [Nat.xor_zero]; omega))) (byte_cong (by first | omega | (unfold u32; omega) | (rw [Nat.xor_zero]; omega))) (byte_cong (by first | omega | (unfold u32; omega) | (rw [Nat.xor_zero]; omega)))), (HBV.out.alloc HBV.out.size _).alloc (Nat.le_trans HBV.out.size (by simp)) _⟩
    · have hbi : ¬ (b : Int) = 0 := by omega
      go_wp2_with fail
      rw [conv4 _ _ (by simp) _ _ _ _ (by first | omega | (unfold u32; omega)) (by first | omega | (unfold u32; omega)) (by first | omega | (unfold u32; omega)) (by first | omega | (unfold u32; omega))]
      simp only [Result.andThen_ok]
      go_wp2_with fail
      go_ret
      exact ⟨congrArg (fun z => Ending.returned (Value.bool z)) (four_eq (byte_cong (by first | omega | (unfold u32; omega) | (rw [Nat.xor_zero]; omega))) (byte_cong (by first | omega | (unfold u32; omega) | (rw [Nat.xor_zero]; omega))) (byte_cong (by first | omega | (unfold u32; omega) | (rw [Nat.xor_zero]; omega))) (byte_cong (by first | omega | (unfold u32; omega) | (rw [Nat.xor_zero]; omega)))), (HBV.out.alloc HBV.out.size _).alloc (Nat.le_trans HBV.out.size (by simp)) _⟩
  by_cases hj3 : j = 3
  · subst hj3
    have hv : ds = ⟨#[47]⟩ := HDS.out
    by_cases hb0 : b = 0
    · subst hb0
      have hr : (O, er, k1) = ([], 12, n) := HR.out
      injection hr with hO hr
      injection hr with hE _
      subst hO hE hv
      clear HR HDS
      have hemp : (ofL ([] : List UInt8)).toList.isEmpty = true := by first | rfl | decide | kernel_rfl
      go_wp2_with fail
      go_ret
      exact ⟨rfl, HBV.out.alloc HBV.out.size _⟩
    · have hbi : ¬ (b : Int) = 0 := by omega
      have hbp : 0 < (b : Int) := by omega
      have hbin : bin ((sg 3).toNat : Int) (a : Int) (b : Int) = some ((a : Int) / (b : Int)) := by
        show (if (b : Int) = 0 then none else _) = _
        rw [if_neg hbi]
        rfl
      have hq0 : 0 ≤ (a : Int) / (b : Int) := Int.ediv_nonneg (by omega) (by omega)
      have hq1 : (a : Int) / (b : Int) ≤ a := Int.ediv_le_self _ (by omega)
      have hr : (O, er, k1) = ([byte ((a : Int) / (b : Int)), byte (((a : Int) / (b : Int)) / 256), byte (((a : Int) / (b : Int)) / 65536), byte (((a : Int) / (b : Int)) / 16777216)], 0, n) := by have := HR.out; rw [hbin] at this; exact this
      injection hr with hO hr
      injection hr with hE _
      subst hO hE hv
      clear HR HDS
      go_wp2_with fail
      rw [conv4 _ _ (by simp) _ _ _ _ (by first | omega | (unfold u32; omega)) (by first | omega | (unfold u32; omega)) (by first | omega | (unfold u32; omega)) (by first | omega | (unfold u32; omega))]
      simp only [Result.andThen_ok]
      go_wp2_with fail
      go_ret
      exact ⟨congrArg (fun z => Ending.returned (Value.bool z)) (four_eq (byte_cong (by first | omega | (unfold u32; omega) | (rw [Nat.xor_zero]; omega))) (byte_cong (by first | omega | (unfold u32; omega) | (rw [Nat.xor_zero]; omega))) (byte_cong (by first | omega | (unfold u32; omega) | (rw [Nat.xor_zero]; omega))) (byte_cong (by first | omega | (unfold u32; omega) | (rw [Nat.xor_zero]; omega)))), (HBV.out.alloc HBV.out.size _).alloc (Nat.le_trans HBV.out.size (by simp)) _⟩
  by_cases hj4 : j = 4
  · subst hj4
    have hv : ds = ⟨#[37]⟩ := HDS.out
    by_cases hb0 : b = 0
    · subst hb0
      have hr : (O, er, k1) = ([], 12, n) := HR.out
      injection hr with hO hr
      injection hr with hE _
      subst hO hE hv
      clear HR HDS
      have hemp : (ofL ([] : List UInt8)).toList.isEmpty = true := by first | rfl | decide | kernel_rfl
      go_wp2_with fail
      go_ret
      exact ⟨rfl, HBV.out.alloc HBV.out.size _⟩
    · have hbi : ¬ (b : Int) = 0 := by omega
      have hbp : 0 < (b : Int) := by omega
      have hbin : bin ((sg 4).toNat : Int) (a : Int) (b : Int) = some ((a : Int) % (b : Int)) := by
        show (if (b : Int) = 0 then none else _) = _
        rw [if_neg hbi]
        rfl
      have hq0 : 0 ≤ (a : Int) % (b : Int) := Int.emod_nonneg _ hbi
      have hq1 : (a : Int) % (b : Int) < b := Int.emod_lt_of_pos _ hbp
      have hr : (O, er, k1) = ([byte ((a : Int) % (b : Int)), byte (((a : Int) % (b : Int)) / 256), byte (((a : Int) % (b : Int)) / 65536), byte (((a : Int) % (b : Int)) / 16777216)], 0, n) := by have := HR.out; rw [hbin] at this; exact this
      injection hr with hO hr
      injection hr with hE _
      subst hO hE hv
      clear HR HDS
      go_wp2_with fail
      rw [conv4 _ _ (by simp) _ _ _ _ (by first | omega | (unfold u32; omega)) (by first | omega | (unfold u32; omega)) (by first | omega | (unfold u32; omega)) (by first | omega | (unfold u32; omega))]
      simp only [Result.andThen_ok]
      go_wp2_with fail
      go_ret
      exact ⟨congrArg (fun z => Ending.returned (Value.bool z)) (four_eq (byte_cong (by first | omega | (unfold u32; omega) | (rw [Nat.xor_zero]; omega))) (byte_cong (by first | omega | (unfold u32; omega) | (rw [Nat.xor_zero]; omega))) (byte_cong (by first | omega | (unfold u32; omega) | (rw [Nat.xor_zero]; omega))) (byte_cong (by first | omega | (unfold u32; omega) | (rw [Nat.xor_zero]; omega)))), (HBV.out.alloc HBV.out.size _).alloc (Nat.le_trans HBV.out.size (by simp)) _⟩
  by_cases hj5 : j = 5
  · subst hj5
    have hv : ds = ⟨#[94]⟩ := HDS.out
    have hr : (O, er, k1) = ([byte ((((a ^^^ b : Nat) : Nat) : Int)), byte (((((a ^^^ b : Nat) : Nat) : Int)) / 256), byte (((((a ^^^ b : Nat) : Nat) : Int)) / 65536), byte (((((a ^^^ b : Nat) : Nat) : Int)) / 16777216)], 0, n) := HR.out
    injection hr with hO hr
    injection hr with hE _
    subst hO hE hv
    clear HR HDS
    have hxor := u32_xor_nat a b (by omega) (by omega)
    have hx0 : bits .xor .u32 (a : Int) 0 = (a : Int) := by have h0 := u32_xor_nat a 0 ha (by omega); rw [Nat.xor_zero] at h0; exact h0
    have hxl := Nat.xor_lt_two_pow (n := 32) (show a < 2 ^ 32 by omega) (show b < 2 ^ 32 by omega)
    by_cases hb0 : b = 0
    · subst hb0
      go_wp2_with fail
      rw [conv4 _ _ (by simp) _ _ _ _ (by first | omega | (unfold u32; omega)) (by first | omega | (unfold u32; omega)) (by first | omega | (unfold u32; omega)) (by first | omega | (unfold u32; omega))]
      simp only [Result.andThen_ok]
      go_wp2_with fail
      go_ret
      exact ⟨congrArg (fun z => Ending.returned (Value.bool z)) (four_eq (byte_cong (by first | omega | (unfold u32; omega) | (rw [Nat.xor_zero]; omega))) (byte_cong (by first | omega | (unfold u32; omega) | (rw [Nat.xor_zero]; omega))) (byte_cong (by first | omega | (unfold u32; omega) | (rw [Nat.xor_zero]; omega))) (byte_cong (by first | omega | (unfold u32; omega) | (rw [Nat.xor_zero]; omega)))), (HBV.out.alloc HBV.out.size _).alloc (Nat.le_trans HBV.out.size (by simp)) _⟩
    · have hbi : ¬ (b : Int) = 0 := by omega
      go_wp2_with fail
      rw [conv4 _ _ (by simp) _ _ _ _ (by first | omega | (unfold u32; omega)) (by first | omega | (unfold u32; omega)) (by first | omega | (unfold u32; omega)) (by first | omega | (unfold u32; omega))]
      simp only [Result.andThen_ok]
      go_wp2_with fail
      go_ret
      exact ⟨congrArg (fun z => Ending.returned (Value.bool z)) (four_eq (byte_cong (by first | omega | (unfold u32; omega) | (rw [Nat.xor_zero]; omega))) (byte_cong (by first | omega | (unfold u32; omega) | (rw [Nat.xor_zero]; omega))) (byte_cong (by first | omega | (unfold u32; omega) | (rw [Nat.xor_zero]; omega))) (byte_cong (by first | omega | (unfold u32; omega) | (rw [Nat.xor_zero]; omega)))), (HBV.out.alloc HBV.out.size _).alloc (Nat.le_trans HBV.out.size (by simp)) _⟩
  obtain rfl : j = 6 := by omega
  have hv : ds = ⟨#[60]⟩ := HDS.out
  by_cases hlt : (a : Int) < (b : Int)
  · have hr : (O, er, k1) = ([byte (1 : Int), byte ((1 : Int) / 256), byte ((1 : Int) / 65536), byte ((1 : Int) / 16777216)], 0, n) := by
      have := HR.out
      rw [show bin ((sg 6).toNat : Int) (a : Int) (b : Int) = some (1 : Int) from congrArg some (if_pos hlt)] at this
      exact this
    injection hr with hO hr
    injection hr with hE _
    subst hO hE hv
    clear HR HDS
    have hb0 : ¬ (b : Int) = 0 := by omega
    go_wp2_with fail
    rw [conv4 _ _ (by simp) _ _ _ _ (by first | omega | (unfold u32; omega)) (by first | omega | (unfold u32; omega)) (by first | omega | (unfold u32; omega)) (by first | omega | (unfold u32; omega))]
    simp only [Result.andThen_ok]
    go_wp2_with fail
    go_ret
    first | exact ⟨rfl, (HBV.out.alloc HBV.out.size _).alloc (Nat.le_trans HBV.out.size (by simp)) _⟩ | (refine ⟨?_, (HBV.out.alloc HBV.out.size _).alloc (Nat.le_trans HBV.out.size (by simp)) _⟩; exact congrArg (fun z => Ending.returned (Value.bool z)) (by decide))
  · have hr : (O, er, k1) = ([byte (0 : Int), byte ((0 : Int) / 256), byte ((0 : Int) / 65536), byte ((0 : Int) / 16777216)], 0, n) := by
      have := HR.out
      rw [show bin ((sg 6).toNat : Int) (a : Int) (b : Int) = some (0 : Int) from congrArg some (if_neg hlt)] at this
      exact this
    injection hr with hO hr
    injection hr with hE _
    subst hO hE hv
    clear HR HDS
    by_cases hb0 : b = 0
    · subst hb0
      go_wp2_with fail
      rw [conv4 _ _ (by simp) _ _ _ _ (by first | omega | (unfold u32; omega)) (by first | omega | (unfold u32; omega)) (by first | omega | (unfold u32; omega)) (by first | omega | (unfold u32; omega))]
      simp only [Result.andThen_ok]
      go_wp2_with fail
      go_ret
      first | exact ⟨rfl, (HBV.out.alloc HBV.out.size _).alloc (Nat.le_trans HBV.out.size (by simp)) _⟩ | (refine ⟨?_, (HBV.out.alloc HBV.out.size _).alloc (Nat.le_trans HBV.out.size (by simp)) _⟩; exact congrArg (fun z => Ending.returned (Value.bool z)) (by decide))
    · have hbi : ¬ (b : Int) = 0 := by omega
      go_wp2_with fail
      rw [conv4 _ _ (by simp) _ _ _ _ (by first | omega | (unfold u32; omega)) (by first | omega | (unfold u32; omega)) (by first | omega | (unfold u32; omega)) (by first | omega | (unfold u32; omega))]
      simp only [Result.andThen_ok]
      go_wp2_with fail
      go_ret
      first | exact ⟨rfl, (HBV.out.alloc HBV.out.size _).alloc (Nat.le_trans HBV.out.size (by simp)) _⟩ | (refine ⟨?_, (HBV.out.alloc HBV.out.size _).alloc (Nat.le_trans HBV.out.size (by simp)) _⟩; exact congrArg (fun z => Ending.returned (Value.bool z)) (by decide))

end MachineArithmetic
end Go.Proofs.YtfjjdogjihpbnaaDoor
