/- Reconcile: the example that every law checks (awake). -/
import Derived.Test.YtnllocghmnhooaaDoorVa
namespace Go.Proofs.YtnllocghmnhooaaDoor
open Go.RowKit
set_option linter.unusedVariables false
set_option linter.unusedSimpArgs false
namespace Rc
open Bk (bl bl_len bl_ofL ofL_bl ofL_size ofL_append)

theorem rcs_new (w : World) (r : Rec) : Rcs (w.alloc (.cells #[.int .u32 (r.a : Int), .int .i64 (r.s : Int), .string (ofL r.d)] 42)) (some ⟨w.heap.size, 0, none⟩) 1 [r] := by
  have hb := Blk.new w 42 (rc r).toArray
  refine ⟨Nat.le_refl _, by unfold maxLen; simp, fun _ => ⟨w.heap.size, 0, rfl, hb.lt, fun k hk => ?_⟩, (fun h => nomatch h), fun ad h => ⟨w.heap.size, 0, (Option.some.inj h).symm⟩⟩
  match k, hk with
  | 0, _ => exact ⟨hb.cell 0, hb.cell 1, hb.cell 2⟩
def r7 : Rec := onr 7 1 97
theorem r7_val : Val r7 := onr_val (by omega) (by omega) (by omega)
theorem r7_all : ∀ z ∈ [r7], Val z := fun z hz => by rw [List.mem_singleton] at hz; rw [hz]; exact r7_val
theorem r7_st : St [r7] [r7] := ⟨List.pairwise_singleton _ _, fun z hz => hz⟩
theorem nil_st : St [r7] [] := ⟨List.Pairwise.nil, fun z hz => by cases hz⟩
theorem lk_self (r : Rec) : lk [r] (key r) = some r := by unfold lk; rw [List.find?_cons_of_pos (by simp)]
theorem conf1 : conf [r7] [r7] = [] := by
  show cfl [r7] r7 ++ [] = []
  unfold cfl
  have h1 : has [r7] (key r7) = true := has_iff.2 ⟨r7, by simp, rfl⟩
  have h2 : lkv [r7] (key r7) = r7 := by unfold lkv; rw [lk_self]; rfl
  rw [if_pos h1, h2, if_pos rfl]
  rfl
theorem conf0 : conf [r7] [] = [] := by
  show cfl [] r7 ++ [] = []
  unfold cfl
  rw [if_neg (by simp [has])]
  rfl
theorem dlg1 : dlg Hd 200 [r7] [r7] (sm Hd [r7] [] []) = ([r7], [r7], 1) := dlg_agr (agr_sm rfl)
theorem inn_nil (f t : Bs) : inn [] f t = [] := rfl
theorem agr0 : agr Hd [] (sm Hd [r7] [] []) = false := agr_no1 (by
  show ¬ (((inn [] [] []).length : Nat) : Int) = (((inn [r7] [] []).length : Nat) : Int)
  rw [inn_all, inn_all]
  simp)
theorem dlg0 : dlg Hd 200 [] [r7] (sm Hd [r7] [] []) = ([r7], [r7], 3) := by
  have h := dlg_few (n := 199) (x := []) (y := [r7]) (r := sm Hd [r7] [] []) agr0 (by rw [inn_nil]; simp)
  rw [h]
  show (mrg [] (inn [r7] [] []), mrg [r7] (inn [] [] []), 3) = _
  rw [inn_all, inn_nil]
  have e1 : mrg [] [r7] = [r7] := by
    show put [] (List.filter (fun r => !has [] (key r)) [r7]) = [r7]
    rw [List.filter_cons_of_pos (by simp [has])]
    show put (ins r7 []) [] = [r7]
    rfl
  have e2 : mrg [r7] [] = [r7] := rfl
  rw [e1, e2]
set_option maxRecDepth 100000 in
set_option maxHeartbeats 2000000 in
theorem awake_f (w : World) (ht : Bk.Tab w) : Calls Tryd.prog 12 #[] w fun e w' => e = .returned (.bool true) ∧ Below w.heap.size w w' := by
  have HON := Lib.hid (fun W => (show Calls Tryd.prog 28 #[.int .u32 7, .int .i64 1, .int .u8 97] W _ from one_f 7 1 97 (by omega) W))
  have HS1 := Lib.hid (fun W (h : Below w.heap.size w W) A c (k : Rcs W A c [r7]) => sync_f r7_all (by simp) [r7] [r7] r7_st r7_st W (ht.bel h) A A c c k k (by rw [dlg1]; show 1 ≤ 1000000; omega))
  have HS2 := Lib.hid (fun W (h : Below w.heap.size w W) A c (k : Rcs W A c [r7]) => (show Calls Tryd.prog 18 #[.slice A [r7].length c, .slice none 0 0] W _ from sync_f r7_all (by simp) [r7] [] r7_st nil_st W (ht.bel h) A none c 0 k (Rcs.nil_ W) (by rw [dlg0]; show 3 ≤ 1000000; omega)))
  rw [dlg1, conf1] at HS1
  rw [dlg0, conf0] at HS2
  have HSA := Lib.hid (fun W A c B d (k : Rcs W A c [r7]) (j : Rcs W B d [r7]) => same_f [r7] W A B c d k j (by simp))
  have HRV := Lib.hid (show rv (onr 7 1 97) = .agg #[.int .u32 (r7.a : Int), .int .i64 (r7.s : Int), .string (ofL r7.d)] from rfl)
  rw [HRV.out] at HON
  clear ht
  go_enter Tryd.func12, Tryd.ntmps12
  go_wp2_with fail
  refine (HON.out _).mono ?_
  rintro e w1 ⟨rfl, hb1⟩
  have HA := Lib.hid (show Rcs (w1.alloc (.cells #[.int .u32 (r7.a : Int), .int .i64 (r7.s : Int), .string (ofL r7.d)] 42)) (some ⟨w1.heap.size, 0, none⟩) 1 [r7] from rcs_new w1 r7)
  have HB1 := Lib.hid (hb1.alloc hb1.size (.cells #[.int .u32 (r7.a : Int), .int .i64 (r7.s : Int), .string (ofL r7.d)] 42))
  clear hb1
  go_wp2_with fail
  refine (HS1.out _ HB1.out _ _ HA.out).mono ?_
  rintro e w2 ⟨X, Y, C, rfl, ⟨A2, c2, rfl, hx⟩, ⟨B2, d2, rfl, hy⟩, ⟨C2, e2, rfl, _⟩, hb2⟩
  have HA2 := Lib.hid (HA.out.below hb2)
  have HX2 := Lib.hid hx
  have HY2 := Lib.hid hy
  have HB2 := Lib.hid (HB1.out.trans (hb2.mono HB1.out.size))
  clear hb2 hx hy
  go_wp2_with fail
  refine (HS2.out _ HB2.out _ _ HA2.out).mono ?_
  rintro e w3 ⟨X, Y, C, rfl, ⟨A3, c3, rfl, hx⟩, ⟨B3, d3, rfl, hy⟩, ⟨C3, e3, rfl, _⟩, hb3⟩
  have HA3 := Lib.hid (HA2.out.below hb3)
  have HX3 := Lib.hid (HX2.out.below hb3)
  have HY3 := Lib.hid (HY2.out.below hb3)
  have HP3 := Lib.hid hx
  have HQ3 := Lib.hid hy
  have HB3 := Lib.hid (HB2.out.trans (hb3.mono HB2.out.size))
  clear hb3 hx hy
  go_wp2_with fail
  refine (HSA.out _ _ _ _ _ HX3.out HA3.out).mono ?_
  rintro e w4 ⟨rfl, hb4⟩
  have HB4 := Lib.hid (HB3.out.trans (hb4.mono HB3.out.size))
  have HC4 := Lib.hid hb4
  clear hb4
  go_wp2_with fail
  refine (HSA.out _ _ _ _ _ (HY3.out.below HC4.out) (HA3.out.below HC4.out)).mono ?_
  rintro e w5 ⟨rfl, hb5⟩
  have HB5 := Lib.hid (HB4.out.trans (hb5.mono HB4.out.size))
  have HC5 := Lib.hid (HC4.out.trans (hb5.mono HC4.out.size))
  clear hb5
  go_wp2_with fail
  refine (HSA.out _ _ _ _ _ (HP3.out.below HC5.out) (HA3.out.below HC5.out)).mono ?_
  rintro e w6 ⟨rfl, hb6⟩
  have HB6 := Lib.hid (HB5.out.trans (hb6.mono HB5.out.size))
  have HC6 := Lib.hid (HC5.out.trans (hb6.mono HC5.out.size))
  clear hb6
  go_wp2_with fail
  refine (HSA.out _ _ _ _ _ (HQ3.out.below HC6.out) (HA3.out.below HC6.out)).mono ?_
  rintro e w7 ⟨rfl, hb7⟩
  have HB7 := Lib.hid (HB6.out.trans (hb7.mono HB6.out.size))
  clear hb7
  go_wp2_with fail
  go_ret
  exact ⟨rfl, HB7.out⟩
end Rc
end Go.Proofs.YtnllocghmnhooaaDoor
