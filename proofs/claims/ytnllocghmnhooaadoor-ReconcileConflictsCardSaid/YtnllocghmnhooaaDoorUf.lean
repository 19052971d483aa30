/- Reconcile: slices.Insert of one record into a row of the call's own. -/
import Derived.Test.YtnllocghmnhooaaDoorUe
import Derived.Laws.IdiomCopy
import Derived.Lib.Overlaps
import Derived.Lib.AppendZerosOnto
import Derived.Laws.NewBlocks
import Derived.Shelf.Spec.SlicesInsert
namespace Go.Proofs.YtnllocghmnhooaaDoor
open Go.RowKit
set_option linter.unusedVariables false
set_option linter.unusedSimpArgs false
namespace Rc
open Bk (bl bl_len bl_ofL ofL_bl ofL_size ofL_append)

/-- copy(d, s) of elements of 'size' cells: all is read before anything is written -/
theorem run_copy_rows {P : Program} (w : World) (dT sT ty elem : TypeId) (size b o dLen dCap : Nat) (a : Addr) (sLen sCap m : Nat) (cs : List Value)
    (hu : P.underlying dT = some (.slice elem)) (hs : (P.info? elem).map (·.size) = some size) (hm : m = Nat.min sLen dLen) (hn : cs.length = m * size)
    (hsrc : ∀ j v, cs[j]? = some v → w.cell? (a.add j) = some v) (hc : ∀ j, j < cs.length → (w.cell? ⟨b, o + j, none⟩).isSome = true) (hf : ∀ j, j < cs.length → w.frozen? ⟨b, o + j, none⟩ = false) (h1 : ∀ v ∈ cs, v.oneCell' = true) :
    (Builtin.copy_ #[dT, sT] ty #[.slice (some ⟨b, o, none⟩) dLen dCap, .slice (some a) sLen sCap]).run P w = .ok (goInt m) (w.setCells b o cs) := by
  have hl := run_loadCells_list (P := P) w a cs hsrc
  have hst := run_storeCells_cells (P := P) b o cs 0 w (by simpa using hc) (by simpa using hf) h1
  cases hq : P.info? elem with
  | none => simp [hq] at hs
  | some i =>
    have hi : i.size = size := by simpa [hq] using hs
    rw [hn] at hl
    simp [Builtin.copy_, run_underlying hu, Builtin.lenOf, Builtin.firstCells, sizeOf, typeInfo, hq, hi, ← hm, hl, hst]
/-- the cells of a block behind a run of stores -/
def setA (cs : Array Value) (o : Nat) : List Value → Array Value
  | [] => cs
  | v :: r => setA (cs.setIfInBounds o v) (o + 1) r
theorem setA_size : ∀ (vs : List Value) (cs : Array Value) (o : Nat), (setA cs o vs).size = cs.size
  | [], cs, o => rfl
  | v :: r, cs, o => by
    show (setA (cs.setIfInBounds o v) (o + 1) r).size = _
    rw [setA_size r]; simp
theorem setA_list : ∀ (vs : List Value) (cs : Array Value) (o : Nat), o + vs.length ≤ cs.size → (setA cs o vs).toList = cs.toList.take o ++ vs ++ cs.toList.drop (o + vs.length)
  | [], cs, o, h => by simp [setA]
  | v :: r, cs, o, h => by
    have ho : o < cs.size := by simp at h; omega
    have ih := setA_list r (cs.setIfInBounds o v) (o + 1) (by simp at h ⊢; omega)
    show (setA (cs.setIfInBounds o v) (o + 1) r).toList = _
    rw [ih, Array.toList_setIfInBounds]
    have hl : o < cs.toList.length := by simpa using ho
    rw [List.set_eq_take_append_cons_drop, if_pos hl]
    have e1 : (cs.toList.take o).length = o := by simp; omega
    rw [List.take_append, List.drop_append, e1]
    simp only [List.length_cons]
    rw [show o + 1 - o = 1 by omega, show o + 1 + r.length - o = r.length + 1 by omega, List.take_of_length_le (by rw [e1]; omega), show List.drop (o + 1 + r.length) (List.take o cs.toList) = [] from List.drop_eq_nil_of_le (by rw [e1]; omega)]
    simp [List.drop_drop]
    congr 1
    omega
theorem blk_setCells : ∀ (vs : List Value) (o : Nat) {W : World} {g : Nat} {t : TypeId} {cs : Array Value}, Blk W g t cs → Blk (W.setCells g o vs) g t (setA cs o vs)
  | [], o, W, g, t, cs, h => h
  | v :: r, o, W, g, t, cs, h => blk_setCells r (o + 1) (h.set_ o v)
theorem below_setCells : ∀ (vs : List Value) (o : Nat) {B : Nat} {w W : World} {g : Nat}, Below B w W → B ≤ g → Below B w (W.setCells g o vs)
  | [], o, B, w, W, g, h, _ => h
  | v :: r, o, B, w, W, g, h, hg => below_setCells r (o + 1) (h.setCell (p := ⟨g, o, none⟩) hg v) hg
theorem ins_cells (X R S : List Value) (a : Nat) (hR : R.length = 3) (ha : a + 3 ≤ X.length) :
    (((X.take (a + 3) ++ S ++ X.drop (a + 3 + S.length)).take a ++ R ++ (X.take (a + 3) ++ S ++ X.drop (a + 3 + S.length)).drop (a + R.length)).take (a + 3 + S.length)) = X.take a ++ R ++ S := by
  have h3 : (X.take (a + 3)).length = a + 3 := by simp; omega
  have h1 : (X.take (a + 3) ++ S ++ X.drop (a + 3 + S.length)).take a = X.take a := by
    rw [List.append_assoc, List.take_append_of_le_length (by rw [h3]; omega), List.take_take, Nat.min_eq_left (by omega)]
  have h2 : (X.take (a + 3) ++ S ++ X.drop (a + 3 + S.length)).drop (a + R.length) = S ++ X.drop (a + 3 + S.length) := by
    rw [hR, List.append_assoc, List.drop_append, h3, Nat.sub_self, List.drop_zero, List.drop_eq_nil_of_le (by rw [h3]; omega), List.nil_append]
  rw [h1, h2, ← List.append_assoc]
  have h4 : (X.take a ++ R ++ S).length = a + 3 + S.length := by simp; omega
  rw [List.take_append_of_le_length (by rw [h4]; omega), List.take_of_length_le (by rw [h4]; omega)]
theorem rc_one (r : Rec) : ∀ v ∈ rc r, v.oneCell' = true := by
  intro u hu
  simp [rc] at hu
  rcases hu with rfl | rfl | rfl <;> rfl
theorem overlaps_f (w : World) (g o gs os : Nat) (ca cs : Array Value) (la lca lb lcb : Nat) (ha : Blk w g 42 ca) (hb : Blk w gs 42 cs) (hne : g ≠ gs) (hk : cs.size ≠ 0) :
    (callFunc 59 #[.slice (some ⟨g, o, none⟩) la lca, .slice (some ⟨gs, os, none⟩) lb lcb]).run Tryd.prog w = .ok (.value (.bool false)) w := by
  rw [run_callFunc_extern Tryd.func59 (by kernel_rfl) (by kernel_rfl) (by kernel_rfl) (e := Extern.SlicesOverlaps.overlaps #[25, 25] #[4]) (by kernel_rfl),
    Lib.run_overlaps_apart w 25 4 42 Tryd.underlying25 3 Tryd.sizeOf42 ⟨g, o, none⟩ ⟨gs, os, none⟩ la lca lb lcb hne 42 42 ca.size cs.size (by unfold Blk at ha; simp [World.shape?, ha]) (by unfold Blk at hb; simp [World.shape?, hb]) hk (ha.frozen _) (ha.frozen _)]
  rfl
set_option maxRecDepth 100000 in
set_option maxHeartbeats 4000000 in
theorem insert_room (l : List Rec) (r : Rec) (i : Nat) (hi : i < l.length) (w : World) (B gs cap : Nat) (cur : Array Value) (hb : Blk w gs 42 cur) (hBg : B ≤ gs) (hroom : l.length + 1 ≤ cap) (hcm : cap ≤ maxLen)
    (hcsz : cur.size = cap * 3) (htk : cur.toList.take (l.length * 3) = rvs l) (g : Nat) (hg : Blk w g 42 (rc r).toArray) (hne : g ≠ gs) :
    Calls Tryd.prog 45 #[.slice (some ⟨gs, 0, none⟩) l.length cap, .int .i64 (i : Int), .slice (some ⟨g, 0, none⟩) 1 1] w fun e w' => ∃ v', e = .returned v' ∧ Own w' B v' (l.take i ++ r :: l.drop i) ∧ Below B w w' := by
  have hsz : (Tryd.prog.info? 42).map (·.size) = some 3 := by kernel_rfl
  have hov := fun lb cb => overlaps_f w g 0 gs ((i + 1) * 3) (rc r).toArray cur 1 1 lb cb hg hb hne (by omega)
  have hdl : (rvs (l.drop i)).length = (l.length - i) * 3 := by rw [rvs_len, List.length_drop]
  have hcl : ∀ j u, (rvs l)[j]? = some u → w.cell? ⟨gs, j, none⟩ = some u := fun j u h => by
    rw [hb.cell, ← htk, List.getElem?_take] at *
    split at h
    · rw [← h]; simp
    · cases h
  have hcp1 : ∀ ty dc sc, (Builtin.copy_ #[25, 25] ty #[.slice (some ⟨gs, (i + 1) * 3, none⟩) (l.length + 1 - (i + 1)) dc, .slice (some ⟨gs, i * 3, none⟩) (l.length + 1 - i) sc]).run Tryd.prog w.drew = .ok (goInt ((l.length - i : Nat) : Int)) (w.drew.setCells gs ((i + 1) * 3) (rvs (l.drop i))) := fun ty dc sc =>
    run_copy_rows w.drew _ _ ty 42 3 gs ((i + 1) * 3) (l.length + 1 - (i + 1)) dc ⟨gs, i * 3, none⟩ (l.length + 1 - i) sc (l.length - i) (rvs (l.drop i)) Tryd.underlying25 hsz (by simp only [Nat.min_def]; split <;> omega) hdl
      (fun j v hj => by rw [add_plain']; exact hcl (i * 3 + j) v (by rw [← rvs_drop, List.getElem?_drop] at hj; exact hj))
      (fun j hj => by
        show (w.cell? ⟨gs, _, none⟩).isSome = true
        rw [hb.cell, Array.getElem?_eq_getElem (by omega)]; rfl)
      (fun j hj => hb.frozen _) (rvs_one _)
  obtain ⟨W1, hW1⟩ : ∃ W1, W1 = w.drew.setCells gs ((i + 1) * 3) (rvs (l.drop i)) := ⟨_, rfl⟩
  rw [← hW1] at hcp1
  have HB1 := Lib.hid (show Blk W1 gs 42 (setA cur ((i + 1) * 3) (rvs (l.drop i))) by rw [hW1]; exact blk_setCells _ _ hb.drew)
  have HB2 := Lib.hid (show Below B w W1 by rw [hW1]; exact below_setCells _ _ (show Below B w w.drew from below_drewN (Below.refl _ _) 1) hBg)
  have hG1 : W1.cell? ⟨g, 0, none⟩ = some (.int .u32 (r.a : Int)) ∧ W1.cell? ⟨g, 1, none⟩ = some (.int .i64 (r.s : Int)) ∧ W1.cell? ⟨g, 2, none⟩ = some (.string (ofL r.d)) := by
    have k : ∀ j, W1.cell? ⟨g, j, none⟩ = (rc r).toArray[j]? := fun j => by
      rw [hW1, World.cell?_setCells_out gs _ _ _ _ (fun h _ => absurd h hne)]
      exact hg.cell j
    exact ⟨k 0, k 1, k 2⟩
  have hcp2 : ∀ (W : World), W.heap = W1.heap → ∀ ty dc, (Builtin.copy_ #[25, 25] ty #[.slice (some ⟨gs, i * 3, none⟩) (l.length + 1 - i) dc, .slice (some ⟨g, 0, none⟩) 1 1]).run Tryd.prog W = .ok (goInt ((1 : Nat) : Int)) (W.setCells gs (i * 3) (rc r)) := fun W hW ty dc =>
    run_copy_rows W _ _ ty 42 3 gs (i * 3) (l.length + 1 - i) dc ⟨g, 0, none⟩ 1 1 1 (rc r) Tryd.underlying25 hsz (by simp only [Nat.min_def]; split <;> omega) rfl
      (fun j v hj => by
        rw [add_own, show W.cell? ⟨g, j, none⟩ = W1.cell? ⟨g, j, none⟩ by unfold World.cell?; rw [hW]]
        have hj3 : j < 3 := (List.getElem?_eq_some_iff.1 hj).1
        rcases (show j = 0 ∨ j = 1 ∨ j = 2 by omega) with rfl | rfl | rfl
        · rw [hG1.1]; exact hj
        · rw [hG1.2.1]; exact hj
        · rw [hG1.2.2]; exact hj)
      (fun j hj => by
        have hj3 : j < 3 := hj
        rw [show W.cell? ⟨gs, i * 3 + j, none⟩ = W1.cell? ⟨gs, i * 3 + j, none⟩ by unfold World.cell?; rw [hW], HB1.out.cell, Array.getElem?_eq_getElem (by rw [setA_size]; omega)]; rfl)
      (fun j hj => Blk.frozen (w := W) (show W.heap[gs]? = _ by rw [hW]; exact HB1.out) _) (rc_one r)
  have HE := Lib.hid (show ∀ W : World, W.heap = W1.heap → Own (W.setCells gs (i * 3) (rc r)) B (.slice (some ⟨gs, 0, none⟩) (l.length + 1) cap) (l.take i ++ r :: l.drop i) by
    intro W hW
    have hB3 := blk_setCells (rc r) (i * 3) (show Blk W gs 42 _ from (by unfold Blk; rw [hW]; exact HB1.out))
    have hlen : (l.take i ++ r :: l.drop i).length = l.length + 1 := by simp; omega
    refine ⟨by rw [rvs_len], Or.inr ⟨gs, cap, _, by rw [hlen], hBg, hB3, by rw [hlen]; exact hroom, hcm, by rw [setA_size, setA_size]; exact hcsz, ?_⟩⟩
    rw [setA_list _ _ _ (by rw [setA_size]; show i * 3 + 3 ≤ _; omega), setA_list _ _ _ (by rw [hdl]; omega), hlen]
    have e1 : cur.toList.take (i * 3) = rvs (l.take i) := by
      rw [← rvs_take, ← htk, List.take_take, Nat.min_eq_left (by omega)]
    have key := ins_cells cur.toList (rc r) (rvs (l.drop i)) (i * 3) rfl (by simp; omega)
    rw [e1] at key
    rw [rvs_app, show rvs (r :: l.drop i) = rc r ++ rvs (l.drop i) from rfl, ← List.append_assoc, ← key, show (i + 1) * 3 = i * 3 + 3 by omega, show (l.length + 1) * 3 = i * 3 + 3 + (rvs (l.drop i)).length by rw [hdl]; omega])
  obtain ⟨n, hn⟩ : ∃ n, n = l.length := ⟨_, rfl⟩
  rw [← hn] at hi hroom hcp1 hcp2 HE ⊢
  have mixed : Tryd.prog.follows Departure.mixedOrders = true := by kernel_rfl
  have hz2 : ¬ ((i : Int) = (n : Int)) := by omega
  have hw1 : IntKind.i64.wrap ((i : Int) + 1) = (i : Int) + 1 := IntWalk.i64_in _ (by unfold maxLen at hcm; omega)
  have hw2 : IntKind.i64.wrap ((n : Int) + 1) = (n : Int) + 1 := IntWalk.i64_in _ (by unfold maxLen at hcm; omega)
  have hb1 : (0 : Int) ≤ (i : Int) + 1 := by omega
  have hin : i ≤ n := by omega
  have htn : ((i : Int) + 1).toNat = i + 1 := by omega
  have htm : ((n : Int) + 1).toNat = n + 1 := by omega
  have hb2 : ¬ (cap = i + 1) := by omega
  have hb4 : ¬ (cap = i) := by omega
  have hb5 : ¬ ((n : Int) + 1 > (cap : Int)) := by omega
  have hb6 : (n : Int) + 1 ≤ (cap : Int) := by omega
  have hb7 : (i : Int) + 1 ≤ (n : Int) + 1 := by omega
  have hb8 : (i : Int) ≤ (n : Int) + 1 := by omega
  have hb9 : (i : Int) ≤ (n : Int) := by omega
  clear hn hcl hdl hsz hb hg hcsz htk
  go_enter Tryd.func45, Tryd.ntmps45
  go_wp2_with (simp only [hov])
  go_region_law_o (refine step_copy_runI rfl _ _ 25 25 rfl (.slice (some ⟨gs, (i + 1) * 3, none⟩) (n + 1 - (i + 1)) (cap - (i + 1))) (.slice (some ⟨gs, i * 3, none⟩) (n + 1 - i) (cap - i)) (by simp [Act.eval, Act.put]) (by simp [Act.eval, Act.put]) (hcp1 3 (cap - (i + 1)) (cap - i)) ?_)
  go_wp2_with (at_builtin; refine wpList_copy_runI _ rfl _ _ 25 25 rfl _ _ rfl rfl (hcp2 _ rfl _ _) ?_)
  go_ret
  exact ⟨_, rfl, HE.out _ (by rw [hW1]), below_setCells _ _ (by rw [← hW1]; exact HB2.out) hBg⟩
theorem one_sl (r : Rec) {w : World} {g : Nat} (hg : Blk w g 42 (rc r).toArray) : Sl w 3 (some ⟨g, 0, none⟩) 1 1 (rvs [r]) := by
  have h := Blk.sl (n := 1) (size := 3) hg rfl (by unfold maxLen; omega)
  exact h
set_option maxRecDepth 100000 in
set_option maxHeartbeats 2000000 in
theorem insert_end (l : List Rec) (r : Rec) (w : World) (B : Nat) (v : Value) (ho : Own w B v l) (hB : B ≤ w.heap.size) (hl : l.length ≤ 1000000) (g : Nat) (hg : Blk w g 42 (rc r).toArray) :
    Calls Tryd.prog 45 #[v, .int .i64 (l.length : Int), .slice (some ⟨g, 0, none⟩) 1 1] w fun e w' => ∃ v', e = .returned v' ∧ Own w' B v' (l ++ [r]) ∧ Below B w w' := by
  obtain ⟨i0, hi, hz0, hz1, hz2⟩ := info_parts'
  have HS := Lib.hid (one_sl r hg)
  have HO := Lib.hid ho
  have HF := Lib.hid ho.2
  obtain ⟨n, hn⟩ : ∃ n, n = l.length := ⟨_, rfl⟩
  have HN := Lib.hid hn
  rw [← hn] at hl HF ⊢
  clear hn hg ho
  rcases HF.out with ⟨rfl, rfl⟩ | ⟨gs, cap, cur, rfl, _, _, hnc, hcm, _⟩
  · have HO2 := Lib.hid (show w.ownsRow B 42 3 (.slice none 0 0) 0 (rvs l) by have := HO.out; unfold Own at this; rw [← HN.out] at this; exact this)
    show Calls Tryd.prog 45 #[.slice none 0 0, .int .i64 0, .slice (some ⟨g, 0, none⟩) 1 1] w _
    go_enter Tryd.func45, Tryd.ntmps45
    go_wp2_with (at_builtin; refine wpl_append_sl _ rfl _ _ _ rfl B 42 i0 (.agg #[.int .u32 0, .int .i64 0, .string ⟨#[]⟩]) 3 32 Tryd.underlying25 hi hz0 hz1 hz2 rfl (by decide) _ 0 (rvs l) rfl HO2.out (some ⟨g, 0, none⟩) 1 1 (rvs [r]) rfl HS.out (rvs_one _) (by unfold maxLen; omega) (by omega) hB ?_; intro v' w8 hown hgrow _)
    have HO9 := Lib.hid (show Own w8 B v' (l ++ [r]) by unfold Own; rw [rvs_app, List.length_append, ← HN.out]; exact hown)
    have HB9 := Lib.hid (show Below B w w8 from (Below.refl _ w).grown hgrow hB (fun j e => (HO2.out.lt j e).1))
    clear hown hgrow
    go_wp2_with fail
    go_ret
    exact ⟨_, rfl, HO9.out, HB9.out⟩
  · have HO2 := Lib.hid (show w.ownsRow B 42 3 (.slice (some ⟨gs, 0, none⟩) n cap) n (rvs l) by have := HO.out; unfold Own at this; rw [← HN.out] at this; exact this)
    have hnn : (n : Int) ≤ (n : Int) := by omega
    go_enter Tryd.func45, Tryd.ntmps45
    go_wp2_with (at_builtin; refine wpl_append_sl _ rfl _ _ _ rfl B 42 i0 (.agg #[.int .u32 0, .int .i64 0, .string ⟨#[]⟩]) 3 32 Tryd.underlying25 hi hz0 hz1 hz2 rfl (by decide) _ n (rvs l) rfl HO2.out (some ⟨g, 0, none⟩) 1 1 (rvs [r]) rfl HS.out (rvs_one _) (by unfold maxLen; omega) (by omega) hB ?_; intro v' w8 hown hgrow _)
    all_goals have HO9 := Lib.hid (show Own w8 B v' (l ++ [r]) by unfold Own; rw [rvs_app, List.length_append, ← HN.out]; exact hown)
    all_goals have HB9 := Lib.hid (show Below B w w8 from (Below.refl _ w).grown hgrow hB (fun j e => (HO2.out.lt j e).1))
    all_goals clear hown hgrow
    all_goals go_wp2_with fail
    all_goals go_ret
    all_goals exact ⟨_, rfl, HO9.out, HB9.out⟩
theorem ins_cells2 (X R S : List Value) (a : Nat) (hR : R.length = 3) (ha : a ≤ X.length) :
    (((X.take a ++ R ++ X.drop (a + R.length)).take (a + 3) ++ S ++ (X.take a ++ R ++ X.drop (a + R.length)).drop (a + 3 + S.length)).take (a + 3 + S.length)) = X.take a ++ R ++ S := by
  have h3 : (X.take a ++ R).length = a + 3 := by simp; omega
  have h1 : (X.take a ++ R ++ X.drop (a + R.length)).take (a + 3) = X.take a ++ R := by
    rw [List.take_append_of_le_length (by rw [h3]; omega), List.take_of_length_le (by rw [h3]; omega)]
  rw [h1]
  have h4 : (X.take a ++ R ++ S).length = a + 3 + S.length := by simp; omega
  rw [List.take_append_of_le_length (by rw [h4]; omega), List.take_of_length_le (by rw [h4]; omega)]
set_option maxRecDepth 100000 in
set_option maxHeartbeats 4000000 in
theorem insert_grow (l : List Rec) (r : Rec) (i : Nat) (hi : i < l.length) (w : World) (B gs cap : Nat) (cur : Array Value) (hb : Blk w gs 42 cur) (hB : B ≤ w.heap.size) (hnc : l.length ≤ cap) (hroom : cap < l.length + 1) (hl : l.length ≤ 1000000)
    (hcsz : cur.size = cap * 3) (htk : cur.toList.take (l.length * 3) = rvs l) (g : Nat) (hg : Blk w g 42 (rc r).toArray) :
    Calls Tryd.prog 45 #[.slice (some ⟨gs, 0, none⟩) l.length cap, .int .i64 (i : Int), .slice (some ⟨g, 0, none⟩) 1 1] w fun e w' => ∃ v', e = .returned v' ∧ Own w' B v' (l.take i ++ r :: l.drop i) ∧ Below B w w' := by
  obtain ⟨i0, hi0, hz0, hz1, hz2⟩ := info_parts'
  have hsz : (Tryd.prog.info? 42).map (·.size) = some 3 := by kernel_rfl
  have hdl : (rvs (l.drop i)).length = (l.length - i) * 3 := by rw [rvs_len, List.length_drop]
  have hcl : ∀ j u, (rvs l)[j]? = some u → w.cell? ⟨gs, j, none⟩ = some u := fun j u h => by
    rw [hb.cell, ← htk, List.getElem?_take] at *
    split at h
    · rw [← h]; simp
    · cases h
  have hold : (Builtin.firstCells i0.size i (.slice (some ⟨gs, 0, none⟩) i cap)).run Tryd.prog w.drew = .ok (rvs (l.take i)).toArray w.drew := by
    rw [hz1]
    exact run_firstCells_some w.drew 3 i ⟨gs, 0, none⟩ i cap (rvs (l.take i)) (by rw [rvs_len, List.length_take, Nat.min_eq_left (by omega)]) (fun j v hj => by
      rw [add_own]
      refine hcl j v ?_
      rw [← rvs_take, List.getElem?_take] at hj
      split at hj
      · exact hj
      · cases hj)
  obtain ⟨G, hG⟩ : ∃ G, G = grownCap w (l.length + 1) cap 42 := ⟨_, rfl⟩
  have hik : i + (l.length + 1 - i) = l.length + 1 := by omega
  have hkk : (l.length : Int) + 1 - (i : Int) = ((l.length + 1 - i : Nat) : Int) := by omega
  have hGn : l.length + 1 ≤ G := by rw [hG]; exact grownCap_ge w _ _ _
  have hGm : G ≤ maxLen := by rw [hG]; exact grownCap_le_maxLen w _ _ _ (by unfold maxLen; omega)
  obtain ⟨ROW, hROW⟩ : ∃ ROW : Array Value, ROW = (rvs (l.take i)).toArray ++ Builtin.zeroCells (Value.agg #[.int .u32 0, .int .i64 0, .string ⟨#[]⟩]).cells (l.length + 1 - i) ++ Builtin.zeroCells (Value.agg #[.int .u32 0, .int .i64 0, .string ⟨#[]⟩]).cells (G - (l.length + 1)) := ⟨_, rfl⟩
  have hrz : ∀ ty, (Builtin.append_ #[25, 3] ty #[.slice (some ⟨gs, 0, none⟩) i cap, .int .i64 ((l.length : Int) + 1 - (i : Int))]).run Tryd.prog w =
      .ok (.slice (some ⟨w.heap.size, 0, none⟩) (l.length + 1) G) (w.drew.alloc (.cells ROW 42)) := fun ty => by
    have h := Lib.run_append_grow_zeros w 25 3 ty 42 i0 _ .i64 .i64 Tryd.underlying25 Tryd.underlying3 hi0 hz0 (some ⟨gs, 0, none⟩) i cap (rvs (l.take i)) hold (l.length + 1 - i) (by omega) (by omega) (by omega) (by omega) (by rw [hz2]; omega) (by rw [hz2, hik]; exact growslice_fits hroom (by omega))
    rw [hik, ← hG, ← hROW] at h
    rw [hkk]
    exact h
  have hRsz : ROW.size = G * 3 := by
    rw [hROW]
    have h1 : (rvs (l.take i)).length = i * 3 := by rw [rvs_len, List.length_take, Nat.min_eq_left (by omega)]
    simp [Builtin.zeroCells, Value.cells, h1]
    omega
  have hRtk : ROW.toList.take (i * 3) = rvs (l.take i) := by
    have h1 : (rvs (l.take i)).length = i * 3 := by rw [rvs_len, List.length_take, Nat.min_eq_left (by omega)]
    rw [hROW, Array.toList_append, Array.toList_append, List.append_assoc, List.take_append_of_le_length (by simp [h1]), List.take_of_length_le (by simp [h1])]
  have hgw : g < w.heap.size := hg.lt
  have hgsw : gs < w.heap.size := hb.lt
  obtain ⟨N, hN⟩ : ∃ N, N = w.heap.size := ⟨_, rfl⟩
  have hBN : B ≤ N := by omega
  have hgN : g ≠ N := by omega
  have hgsN : gs ≠ N := by omega
  obtain ⟨W1, hW1⟩ : ∃ W1, W1 = w.drew.alloc (.cells ROW 42) := ⟨_, rfl⟩
  rw [← hN, ← hW1] at hrz
  have HB1 := Lib.hid (show Blk W1 N 42 ROW by rw [hW1, hN]; exact Blk.new w.drew _ _)
  have hOld : ∀ b j, b < w.heap.size → W1.cell? ⟨b, j, none⟩ = w.cell? ⟨b, j, none⟩ := fun b j hb => by rw [hW1, World.cell?_alloc_past (w := w.drew) _ b j hb]; rfl
  have hcpA : ∀ (W : World), W.heap = W1.heap → ∀ ty dc, (Builtin.copy_ #[25, 25] ty #[.slice (some ⟨N, i * 3, none⟩) (l.length + 1 - i) dc, .slice (some ⟨g, 0, none⟩) 1 1]).run Tryd.prog W = .ok (goInt ((1 : Nat) : Int)) (W.setCells N (i * 3) (rc r)) := fun W hW ty dc =>
    run_copy_rows W _ _ ty 42 3 N (i * 3) (l.length + 1 - i) dc ⟨g, 0, none⟩ 1 1 1 (rc r) Tryd.underlying25 hsz (by simp only [Nat.min_def]; split <;> omega) rfl
      (fun j v hj => by
        rw [add_own, show W.cell? ⟨g, j, none⟩ = W1.cell? ⟨g, j, none⟩ by unfold World.cell?; rw [hW], hOld g j hgw, hg.cell]
        simpa using hj)
      (fun j hj => by
        have hj3 : j < 3 := hj
        rw [show W.cell? ⟨N, i * 3 + j, none⟩ = W1.cell? ⟨N, i * 3 + j, none⟩ by unfold World.cell?; rw [hW], HB1.out.cell, Array.getElem?_eq_getElem (by omega)]; rfl)
      (fun j hj => Blk.frozen (w := W) (show W.heap[N]? = _ by rw [hW]; exact HB1.out) _) (rc_one r)
  have HB2 := Lib.hid (blk_setCells (rc r) (i * 3) HB1.out)
  have hcpB : ∀ (W : World), W.heap = (W1.setCells N (i * 3) (rc r)).heap → ∀ ty dc sc, (Builtin.copy_ #[25, 25] ty #[.slice (some ⟨N, (i + 1) * 3, none⟩) (l.length + 1 - (i + 1)) dc, .slice (some ⟨gs, i * 3, none⟩) (l.length - i) sc]).run Tryd.prog W = .ok (goInt ((l.length - i : Nat) : Int)) (W.setCells N ((i + 1) * 3) (rvs (l.drop i))) := fun W hW ty dc sc =>
    run_copy_rows W _ _ ty 42 3 N ((i + 1) * 3) (l.length + 1 - (i + 1)) dc ⟨gs, i * 3, none⟩ (l.length - i) sc (l.length - i) (rvs (l.drop i)) Tryd.underlying25 hsz (by simp only [Nat.min_def]; split <;> omega) hdl
      (fun j v hj => by
        rw [add_plain', show W.cell? ⟨gs, i * 3 + j, none⟩ = (W1.setCells N (i * 3) (rc r)).cell? ⟨gs, i * 3 + j, none⟩ by unfold World.cell?; rw [hW], World.cell?_setCells_out N _ _ _ _ (fun h _ => absurd h hgsN), hOld gs _ hgsw]
        exact hcl (i * 3 + j) v (by rw [← rvs_drop, List.getElem?_drop] at hj; exact hj))
      (fun j hj => by
        rw [show W.cell? ⟨N, (i + 1) * 3 + j, none⟩ = (W1.setCells N (i * 3) (rc r)).cell? ⟨N, (i + 1) * 3 + j, none⟩ by unfold World.cell?; rw [hW], HB2.out.cell, Array.getElem?_eq_getElem (by rw [setA_size]; omega)]; rfl)
      (fun j hj => Blk.frozen (w := W) (show W.heap[N]? = _ by rw [hW]; exact HB2.out) _) (rvs_one _)
  have HE := Lib.hid (show ∀ W : World, W.heap = (W1.setCells N (i * 3) (rc r)).heap → Own (W.setCells N ((i + 1) * 3) (rvs (l.drop i))) B (.slice (some ⟨N, 0, none⟩) (l.length + 1) G) (l.take i ++ r :: l.drop i) by
    intro W hW
    have hB3 := blk_setCells (rvs (l.drop i)) ((i + 1) * 3) (show Blk W N 42 _ from (by unfold Blk; rw [hW]; exact HB2.out))
    have hlen : (l.take i ++ r :: l.drop i).length = l.length + 1 := by simp; omega
    refine ⟨by rw [rvs_len], Or.inr ⟨N, G, _, by rw [hlen], hBN, hB3, by rw [hlen]; exact hGn, hGm, by rw [setA_size, setA_size]; exact hRsz, ?_⟩⟩
    rw [setA_list _ _ _ (by rw [setA_size, hdl]; omega), setA_list _ _ _ (by show i * 3 + 3 ≤ _; omega), hlen]
    have key := ins_cells2 ROW.toList (rc r) (rvs (l.drop i)) (i * 3) rfl (by simp; omega)
    rw [hRtk] at key
    rw [rvs_app, show rvs (r :: l.drop i) = rc r ++ rvs (l.drop i) from rfl, ← List.append_assoc, ← key, hRtk, show (i + 1) * 3 = i * 3 + 3 by omega, show (l.length + 1) * 3 = i * 3 + 3 + (rvs (l.drop i)).length by rw [hdl]; omega])
  have HBL := Lib.hid (show Below B w W1 by rw [hW1]; exact (show Below B w w.drew from below_drewN (Below.refl _ _) 1).alloc (by show B ≤ w.heap.size; exact hB) _)
  obtain ⟨n, hn⟩ : ∃ n, n = l.length := ⟨_, rfl⟩
  rw [← hn] at hi hroom hnc hcpA hcpB hrz HE hGn ⊢
  have mixed : Tryd.prog.follows Departure.mixedOrders = true := by kernel_rfl
  have hz2' : ¬ ((i : Int) = (n : Int)) := by omega
  have hw1 : IntKind.i64.wrap ((i : Int) + 1) = (i : Int) + 1 := IntWalk.i64_in _ (by omega)
  have hw2 : IntKind.i64.wrap ((n : Int) + 1) = (n : Int) + 1 := IntWalk.i64_in _ (by omega)
  have hw3 : IntKind.i64.wrap ((n : Int) + 1 - (i : Int)) = (n : Int) + 1 - (i : Int) := IntWalk.i64_in _ (by omega)
  have hb1 : (0 : Int) ≤ (i : Int) + 1 := by omega
  have hin : i ≤ n := by omega
  have hic : i ≤ cap := by omega
  have htn : ((i : Int) + 1).toNat = i + 1 := by omega
  have hGi : ¬ (G = i) := by omega
  have hGim : ¬ (G = i + 1) := by omega
  have hb4 : ¬ (cap = i) := by omega
  have hb5 : (cap : Int) < (n : Int) + 1 := by omega
  have hb7 : (i : Int) + 1 ≤ (n : Int) + 1 := by omega
  have hb8 : (i : Int) ≤ (n : Int) + 1 := by omega
  have hb9 : (i : Int) ≤ (n : Int) := by omega
  have hG63 : G ≤ 9223372036854775807 := by unfold maxLen at hGm; omega
  clear hn hcl hdl hsz hb hg hcsz htk hold hik hkk hROW hRsz hRtk hOld hl hG hgw hgsw hW1 hN
  go_enter Tryd.func45, Tryd.ntmps45
  go_wp2_with (first
    | (at_builtin; refine Lib.wpList_append_run _ rfl _ _ _ _ rfl _ _ rfl rfl _ _ (hrz _) ?_)
    | (at_builtin; refine wpList_copy_runI _ rfl _ _ 25 25 rfl _ _ rfl rfl (hcpA _ rfl _ _) ?_))
  go_region_law_o (refine step_copy_runI rfl _ _ 25 25 rfl (.slice (some ⟨N, (i + 1) * 3, none⟩) (n + 1 - (i + 1)) (G - (i + 1))) (.slice (some ⟨gs, i * 3, none⟩) (n - i) (cap - i)) (by simp [Act.eval, Act.put]) (by simp [Act.eval, Act.put]) (hcpB (W1.setCells N (i * 3) (rc r)).drew rfl 3 (G - (i + 1)) (cap - i)) ?_)
  go_wp2_with fail
  go_ret
  exact ⟨_, rfl, HE.out _ rfl, below_setCells _ _ (show Below B w (W1.setCells N (i * 3) (rc r)).drew from below_drewN (below_setCells _ _ HBL.out hBN) 1) hBN⟩
theorem insert_f (l : List Rec) (r : Rec) (i : Nat) (hi : i ≤ l.length) (w : World) (B : Nat) (v : Value) (ho : Own w B v l) (hB : B ≤ w.heap.size) (hl : l.length ≤ 1000000) (g : Nat) (hg : Blk w g 42 (rc r).toArray) (hne : v.ownBlock ≠ some g) :
    Calls Tryd.prog 45 #[v, .int .i64 (i : Int), .slice (some ⟨g, 0, none⟩) 1 1] w fun e w' => ∃ v', e = .returned v' ∧ Own w' B v' (l.take i ++ r :: l.drop i) ∧ Below B w w' := by
  rcases Nat.lt_or_ge i l.length with h | h
  · rcases ho.2 with ⟨_, h0⟩ | ⟨gs, cap, cur, rfl, hBg, hb, hnc, hcm, hcs, htk⟩
    · omega
    · have hne' : g ≠ gs := fun e => hne (by rw [e]; rfl)
      rcases Nat.lt_or_ge cap (l.length + 1) with hc | hc
      · exact insert_grow l r i h w B gs cap cur hb hB hnc hc hl hcs htk g hg
      · exact insert_room l r i h w B gs cap cur hb hBg hc hcm hcs htk g hg hne'
  · have e : i = l.length := by omega
    subst e
    have := insert_end l r w B v ho hB hl g hg
    rwa [show l.take l.length ++ r :: l.drop l.length = l ++ [r] by simp]
end Rc
end Go.Proofs.YtnllocghmnhooaaDoor
