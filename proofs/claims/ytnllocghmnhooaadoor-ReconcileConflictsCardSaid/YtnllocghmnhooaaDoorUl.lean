/- Reconcile: the reference's Add of a record whose key is not there (steleref57.Add). -/
import Derived.Test.YtnllocghmnhooaaDoorUk
namespace Go.Proofs.YtnllocghmnhooaaDoor
open Go.RowKit
set_option linter.unusedVariables false
set_option linter.unusedSimpArgs false
namespace Rc
open Bk (bl bl_len bl_ofL ofL_bl ofL_size ofL_append)

theorem ktri' {x y : Bs} (h : ¬ x < y) (k : x ≠ y) : y < x := by
  by_cases e : y < x
  · exact e
  · exact absurd (ktri h e) k
/-- what Add has written behind k records, where the new one belongs at i -/
def outA (l : List Rec) (r : Rec) (i k : Nat) : List Rec := if k ≤ i then l.take k else l.take i ++ r :: (l.take k).drop i
theorem outA_zero (l : List Rec) (r : Rec) (i : Nat) : outA l r i 0 = [] := by unfold outA; rw [if_pos (Nat.zero_le _)]; rfl
theorem outA_lo {l : List Rec} (r : Rec) {i k : Nat} (h : k < l.length) (hi : k < i) : outA l r i (k + 1) = outA l r i k ++ [l[k]] := by
  unfold outA
  rw [if_pos (by omega), if_pos (by omega), List.take_succ_eq_append_getElem h]
theorem outA_at {l : List Rec} (r : Rec) {k : Nat} (h : k < l.length) : outA l r k (k + 1) = (outA l r k k ++ [r]) ++ [l[k]] := by
  unfold outA
  rw [if_neg (by omega), if_pos (Nat.le_refl _), List.take_succ_eq_append_getElem h, List.drop_append_of_le_length (by rw [List.length_take]; omega)]
  rw [List.drop_eq_nil_of_le (by rw [List.length_take]; omega)]
  simp
theorem outA_hi {l : List Rec} (r : Rec) {i k : Nat} (h : k < l.length) (hi : i < k) : outA l r i (k + 1) = outA l r i k ++ [l[k]] := by
  unfold outA
  rw [if_neg (by omega), if_neg (by omega), List.take_succ_eq_append_getElem h, List.drop_append_of_le_length (by rw [List.length_take]; omega)]
  simp
theorem outA_len (l : List Rec) (r : Rec) (i k : Nat) : (outA l r i k).length ≤ l.length + 1 := by
  unfold outA
  split
  · rw [List.length_take]; omega
  · simp; omega
theorem outA_end (l : List Rec) (r : Rec) (h : idx l (key r) < l.length) : outA l r (idx l (key r)) l.length = ins r l := by
  unfold outA ins
  rw [if_neg (by omega), List.take_length]
theorem outA_end' (l : List Rec) (r : Rec) (h : ¬ idx l (key r) < l.length) : outA l r (idx l (key r)) l.length ++ [r] = ins r l := by
  have := idx_le l (key r)
  have e : idx l (key r) = l.length := by omega
  unfold outA ins
  rw [e, if_pos (Nat.le_refl _), List.take_length, List.drop_length]
/-- append of one record, other blocks kept -/
theorem wpl_app2 {ops : Array Oper} {rest : List Oper} {o : Oper} {a : Act} {Q : Exit → Act → World → Prop} {w W : World} (hgd : o.guard = none) (s x : Operand)
    (ho : o.op = .call { callee := .builtin .append, args := #[s, x], argTypes := #[25, 25] })
    (v : Value) (l : List Rec) (r : Rec) (hs : a.eval s = v) (hown : Own W w.heap.size v l) (hx : a.eval x = .slice (some ⟨W.heap.size, 0, none⟩) 1 1) (hl : l.length ≤ 1000000) (hb : Below w.heap.size w W)
    (h : ∀ v' w', Own w' w.heap.size v' (l ++ [r]) → Below w.heap.size w w' → (∀ g t cs, Blk W g t cs → v.ownBlock ≠ some g → Blk w' g t cs) → wpList Tryd.prog ops Q rest (a.put o.dst v') w') :
    wpList Tryd.prog ops Q (o :: rest) a (W.alloc (.cells #[.int .u32 (r.a : Int), .int .i64 (r.s : Int), .string (ofL r.d)] 42)) := by
  obtain ⟨i0, hi, hz0, hz1, hz2⟩ := info_parts'
  have HO := Lib.hid (Own.alloc hown (.cells (rc r).toArray 42))
  have HB := hb.alloc hb.size (.cells (rc r).toArray 42)
  exact wpl_append_sl _ hgd s x _ ho w.heap.size 42 i0 (.agg #[.int .u32 0, .int .i64 0, .string ⟨#[]⟩]) 3 32 Tryd.underlying25 hi hz0 hz1 hz2 rfl (by decide) v l.length (rvs l) hs HO.out (some ⟨W.heap.size, 0, none⟩) 1 1 (rvs [r]) hx (one_sl r (Blk.new W 42 (rc r).toArray)) (rvs_one _) (by unfold maxLen; omega) (by omega) HB.size
    (fun v' w' h1 h2 _ => h v' w' (by unfold Own; rw [rvs_app, List.length_append]; exact h1) (HB.grown h2 HB.size (fun j e => (HO.out.lt j e).1)) fun g t cs hg hne => by
      have k := hg.alloc (.cells (rc r).toArray 42)
      exact k.grown h2 (fun e => hne e.symm))
theorem less_kk (x y : Bs) : Op.bytesLess (ofL x).toList (ofL y).toList = decide (x < y) := by rw [less_eq, bl_ofL]
theorem tl_neq {x y : Bs} (h : x ≠ y) : ((ofL x).toList == (ofL y).toList) = false := by
  rw [Lib.toList_data, Lib.toList_data, beq_eq_false_iff_ne]
  exact fun e => h (by simpa [ofL] using e)
theorem tl_neq' {x y : Bs} (h : x ≠ y) : ¬ (ofL x).toList = (ofL y).toList := by
  rw [Lib.toList_data, Lib.toList_data]
  exact fun e => h (by simpa [ofL] using e)

set_option maxRecDepth 100000 in
set_option maxHeartbeats 4000000 in
theorem radd_f (l : List Rec) (r : Rec) (hv : ∀ x ∈ l, Val x) (hr : Val r) (hs : Srt l) (hn : has l (key r) = false) (w : World) (A : Option Addr) (c : Nat) (h : Rcs w A c l) (hl : l.length ≤ 100000) :
    Calls Tryd.prog 29 #[.slice A l.length c, rv r] w (AddPost w (ins r l)) := by
  have HV := Lib.hid (fun W => rvalid_f r hr W)
  have HKR := Lib.hid (fun W => rkey_f r hr W)
  have HK := Lib.hid (fun k (hk : k < l.length) W => rkey_f l[k] (hv _ (List.getElem_mem hk)) W)
  have HNE := Lib.hid (fun k (hk : k < l.length) => (has_not.1 hn l[k] (List.getElem_mem hk) : key l[k] ≠ key r))
  have HLO := Lib.hid (show ∀ k, (hk : k < l.length) → k < idx l (key r) → key l[k] < key r from fun k hk h => idx_lo hs h)
  have HHI := Lib.hid (show ∀ k, (hk : k < l.length) → idx l (key r) ≤ k → key r < key l[k] from fun k hk h => ktri' (idx_hi hs h hk) (has_not.1 hn l[k] (List.getElem_mem hk)))
  have HE1 := Lib.hid (outA_end l r)
  have HE2 := Lib.hid (outA_end' l r)
  have HRC := Lib.hid (fun W (hb : Below w.heap.size w W) => h.below hb)
  have hil := idx_le l (key r)
  obtain ⟨i, hi⟩ : ∃ i, i = idx l (key r) := ⟨_, rfl⟩
  rw [← hi] at HLO HHI HE1 HE2 hil
  have HLa := Lib.hid (show ∀ k, (hk : k < l.length) → k < i → outA l r i (k + 1) = outA l r i k ++ [l[k]] from fun k hk h => outA_lo r hk h)
  have HAa := Lib.hid (show ∀ k, (hk : k < l.length) → k = i → outA l r i (k + 1) = (outA l r i k ++ [r]) ++ [l[k]] from fun k hk h => by subst h; exact outA_at r hk)
  have HHa := Lib.hid (show ∀ k, (hk : k < l.length) → i < k → outA l r i (k + 1) = outA l r i k ++ [l[k]] from fun k hk h => outA_hi r hk h)
  have HOL := Lib.hid (fun k => outA_len l r i k)
  have HO0 := Lib.hid (outA_zero l r i)
  have hcm : c ≤ 9223372036854775807 := h.max
  have hlc := h.le
  obtain ⟨n, hnn⟩ : ∃ n, n = l.length := ⟨_, rfl⟩
  have HN := Lib.hid hnn
  rw [← hnn] at hl hlc hil HOL HE1 HE2 ⊢
  clear hi hnn hv hr hs hn h
  unfold rv at HV HKR HK ⊢
  go_enter Tryd.func29, Tryd.ntmps29
  go_wp2_with fail
  refine (HV.out _).mono ?_
  rintro e w2 ⟨rfl, hb⟩
  have hb0 := (Below.refl w.heap.size w).alloc (Nat.le_refl _) (.cells #[.int .u32 (r.a : Int), .int .i64 (r.s : Int), .string (ofL r.d)] 42)
  have HB0 := Lib.hid (hb0.trans (hb.mono hb0.size))
  have hR := (Blk.new w 42 (rc r).toArray).below hb
  have HR2 := Lib.hid (fun W (k : Below w2.heap.size w2 W) => hR.below k)
  have hgr2 : w.heap.size < w2.heap.size := hR.lt
  clear hb hb0 hR HV
  go_wp2_with fail
  go_loopw [7, 8, 19] (fun y z x W => ∃ k : Nat, k ≤ n ∧ x = .int .i64 (k : Int) ∧ z = .bool (decide (i < k)) ∧ Hid (Own W w2.heap.size y (outA l r i k)) ∧ Hid (Below w2.heap.size w2 W)) (fun _ _ x _ => n - (intOf x).toNat)
  case atStart => exact ⟨0, Nat.zero_le _, rfl, by simp, Lib.hid (by rw [HO0.out]; exact own_zero _ (Nat.le_refl _)), Lib.hid ((Below.refl _ _).alloc (Nat.le_refl _) _)⟩
  case round =>
    obtain ⟨k, hk, rfl, rfl, HO, HB⟩ := hrel
    by_cases hkn : k < n
    · have hkl : k < l.length := by rw [← HN.out]; exact hkn
      obtain ⟨g, o, rfl, hat⟩ := (HRC.out _ (HB0.out.trans (HB.out.mono HB0.out.size))).mem (by omega)
      obtain ⟨c0, c1, c2⟩ := hat.2 k hkl
      have HKX := Lib.hid (HK.out k hkl)
      have HNX := Lib.hid (HNE.out k hkl)
      have HLX := Lib.hid (HLO.out k hkl)
      have HHX := Lib.hid (HHI.out k hkl)
      have HLAX := Lib.hid (HLa.out k hkl)
      have HAAX := Lib.hid (HAa.out k hkl)
      have HHAX := Lib.hid (HHa.out k hkl)
      obtain ⟨x, hr⟩ : ∃ r, l[k] = r := ⟨_, rfl⟩
      rw [hr] at c0 c1 c2 HKX HNX HLX HHX HLAX HAAX HHAX
      clear hat hr
      have HL1 := Lib.hid (HOL.out k)
      have hne1 := tl_neq HNX.out
      have hne2 := tl_neq' HNX.out
      have hb2 := less_kk (key r) (key x)
      have HNO := Lib.hid (fun (v : Value) (h : Own wr w2.heap.size v (outA l r i k)) => ((fun e => absurd (h.lt _ e).2 (Nat.lt_irrefl _)) : v.ownBlock ≠ some wr.heap.size))
      have HXa := Lib.hid (Blk.new wr 42 (rc x).toArray)
      have HRa := Lib.hid ((HR2.out _ HB.out).alloc (.cells (rc x).toArray 42))
      have HOa := Lib.hid (Own.alloc HO.out (.cells (rc x).toArray 42))
      have HBa := Lib.hid (HB.out.alloc HB.out.size (.cells (rc x).toArray 42))
      obtain ⟨W1, hW1⟩ : ∃ V, V = wr.alloc (.cells #[.int .u32 (x.a : Int), .int .i64 (x.s : Int), .string (ofL x.d)] 42) := ⟨_, rfl⟩
      have HW1 := Lib.hid hW1
      obtain ⟨gx, hgx⟩ : ∃ g, g = wr.heap.size := ⟨_, rfl⟩
      have HGX := Lib.hid hgx
      have HXb := Lib.hid (show Blk W1 gx 42 (rc x).toArray by rw [HW1.out, HGX.out]; exact HXa.out)
      have HRb := Lib.hid (show Blk W1 w.heap.size 42 (rc r).toArray by rw [HW1.out]; exact HRa.out)
      have HOb := Lib.hid (show Own W1 w2.heap.size u7 (outA l r i k) by rw [HW1.out]; exact HOa.out)
      have HBb := Lib.hid (show Below w2.heap.size w2 W1 by rw [HW1.out]; exact HBa.out)

      go_wp2_with fail
      try rw [← hW1]
      try rw [← hgx]
      try rw [← hgx] at HNO
      clear hW1 hgx HXa HRa HOa HBa HGX HW1 c0 c1 c2
      have HXd := Lib.hid (HXb.out).drew
      have HRd := Lib.hid (HRb.out).drew
      go_region_held3 (fun V => V.cell? ⟨gx, 0, none⟩ = some (.int .u32 (x.a : Int)) ∧ V.cell? ⟨gx, 1, none⟩ = some (.int .i64 (x.s : Int)) ∧ V.cell? ⟨gx, 2, none⟩ = some (.string (ofL x.d)) ∧ V.cell? ⟨w.heap.size, 0, none⟩ = some (.int .u32 (r.a : Int)) ∧ V.cell? ⟨w.heap.size, 1, none⟩ = some (.int .i64 (r.s : Int)) ∧ V.cell? ⟨w.heap.size, 2, none⟩ = some (.string (ofL r.d)))
        (first | exact ⟨(HXd.out).cell 0, (HXd.out).cell 1, (HXd.out).cell 2, (HRd.out).cell 0, (HRd.out).cell 1, (HRd.out).cell 2⟩ | exact ⟨((HXd.out).below HB4.out).cell 0, ((HXd.out).below HB4.out).cell 1, ((HXd.out).below HB4.out).cell 2, ((HRd.out).below HB4.out).cell 0, ((HRd.out).below HB4.out).cell 1, ((HRd.out).below HB4.out).cell 2⟩ | exact ⟨(((HXd.out).below HB4.out).below HB5.out).cell 0, (((HXd.out).below HB4.out).below HB5.out).cell 1, (((HXd.out).below HB4.out).below HB5.out).cell 2, (((HRd.out).below HB4.out).below HB5.out).cell 0, (((HRd.out).below HB4.out).below HB5.out).cell 1, (((HRd.out).below HB4.out).below HB5.out).cell 2⟩)
        (first
          | (go_at_call 32; (with_reducible refine (HKX.out _).mono ?_); rintro e w4 ⟨rfl, hb4⟩; have HB4 := Lib.hid hb4; clear hb4)
          | (go_at_call 32; (with_reducible refine (HKR.out _).mono ?_); rintro e w5 ⟨rfl, hb5⟩; have HB5 := Lib.hid hb5; clear hb5))
      have w6X := Lib.hid ((HXd.out.below HB4.out).below HB5.out)
      have w6R := Lib.hid ((HRd.out.below HB4.out).below HB5.out)
      have hbb : Below (W1).heap.size W1 w5 := ((below_drewN (Below.refl _ _) 1 : Below (W1).heap.size W1 (W1).drew).trans HB4.out).trans (HB5.out.mono HB4.out.size)
      have w6O := Lib.hid (Own.below HOb.out hbb)
      have w6B := Lib.hid ((HBb.out).trans (hbb.mono (HBb.out).size))
      clear hbb HB4 HB5 HXd HRd
      obtain ⟨w6, hw6⟩ : ∃ q, q = w5 := ⟨w5, rfl⟩
      subst hw6
      by_cases hik : i < k
      · have HEQ := Lib.hid (HHAX.out hik)
        have e1 : decide (i < k) = true := decide_eq_true hik
        simp only [e1]
        go_wp2_with fail
        go_quiet (fail)
        have HXd := Lib.hid (show Blk (w6.drewN nq) gx 42 (rc x).toArray from w6X.out)
        have HRd := Lib.hid (show Blk (w6.drewN nq) w.heap.size 42 (rc r).toArray from w6R.out)
        have HOd := Lib.hid (show Own (w6.drewN nq) w2.heap.size u7 (outA l r i k) from Own.below w6O.out (below_drewN (Below.refl _ _) nq))
        have HBd := Lib.hid (show Below w2.heap.size w2 (w6.drewN nq) from below_drewN w6B.out nq)
        obtain ⟨w7, hw7⟩ : ∃ q, q = w6.drewN nq := ⟨_, rfl⟩
        rw [← hw7] at HXd HRd HOd HBd ⊢
        clear hw7 w6X w6R w6O w6B
        have c0 : w7.cell? ⟨gx, 0, none⟩ = some (.int .u32 (x.a : Int)) := HXd.out.cell 0
        have c1 : w7.cell? ⟨gx, 1, none⟩ = some (.int .i64 (x.s : Int)) := HXd.out.cell 1
        have c2 : w7.cell? ⟨gx, 2, none⟩ = some (.string (ofL x.d)) := HXd.out.cell 2
        have d0 : w7.cell? ⟨w.heap.size, 0, none⟩ = some (.int .u32 (r.a : Int)) := HRd.out.cell 0
        have d1 : w7.cell? ⟨w.heap.size, 1, none⟩ = some (.int .i64 (r.s : Int)) := HRd.out.cell 1
        have d2 : w7.cell? ⟨w.heap.size, 2, none⟩ = some (.string (ofL r.d)) := HRd.out.cell 2
        go_wp2_with (at_builtin; refine wpl_app rfl _ _ rfl _ (outA l r i k) x rfl HOd.out rfl (by have := HL1.out; omega) HBd.out ?_; intro v' w8 hown hb8)
        have HO9 := Lib.hid hown
        have HB9 := Lib.hid hb8
        clear hown hb8
        go_wp2_with fail
        go_roundw
        case rel => exact ⟨k + 1, by omega, by go_num, by simp; omega, by rw [HEQ.out]; exact HO9, HB9⟩
        case measure => simp [intOf]; omega
      · have e1 : decide (i < k) = false := decide_eq_false hik
        simp only [e1]
        go_wp2_with fail
        have HXd := Lib.hid (w6X.out).drew
        have HRd := Lib.hid (w6R.out).drew
        go_region_held3 (fun V => V.cell? ⟨gx, 0, none⟩ = some (.int .u32 (x.a : Int)) ∧ V.cell? ⟨gx, 1, none⟩ = some (.int .i64 (x.s : Int)) ∧ V.cell? ⟨gx, 2, none⟩ = some (.string (ofL x.d)) ∧ V.cell? ⟨w.heap.size, 0, none⟩ = some (.int .u32 (r.a : Int)) ∧ V.cell? ⟨w.heap.size, 1, none⟩ = some (.int .i64 (r.s : Int)) ∧ V.cell? ⟨w.heap.size, 2, none⟩ = some (.string (ofL r.d)))
          (first | exact ⟨(HXd.out).cell 0, (HXd.out).cell 1, (HXd.out).cell 2, (HRd.out).cell 0, (HRd.out).cell 1, (HRd.out).cell 2⟩ | exact ⟨((HXd.out).below HB4.out).cell 0, ((HXd.out).below HB4.out).cell 1, ((HXd.out).below HB4.out).cell 2, ((HRd.out).below HB4.out).cell 0, ((HRd.out).below HB4.out).cell 1, ((HRd.out).below HB4.out).cell 2⟩ | exact ⟨(((HXd.out).below HB4.out).below HB5.out).cell 0, (((HXd.out).below HB4.out).below HB5.out).cell 1, (((HXd.out).below HB4.out).below HB5.out).cell 2, (((HRd.out).below HB4.out).below HB5.out).cell 0, (((HRd.out).below HB4.out).below HB5.out).cell 1, (((HRd.out).below HB4.out).below HB5.out).cell 2⟩)
          (first
            | (go_at_call 32; (with_reducible refine (HKX.out _).mono ?_); rintro e w4 ⟨rfl, hb4⟩; have HB4 := Lib.hid hb4; clear hb4)
            | (go_at_call 32; (with_reducible refine (HKR.out _).mono ?_); rintro e w5 ⟨rfl, hb5⟩; have HB5 := Lib.hid hb5; clear hb5))
        have w7X := Lib.hid ((HXd.out.below HB4.out).below HB5.out)
        have w7R := Lib.hid ((HRd.out.below HB4.out).below HB5.out)
        have hbb : Below (w6).heap.size w6 w5 := ((below_drewN (Below.refl _ _) 1 : Below (w6).heap.size w6 (w6).drew).trans HB4.out).trans (HB5.out.mono HB4.out.size)
        have w7O := Lib.hid (Own.below w6O.out hbb)
        have w7B := Lib.hid ((w6B.out).trans (hbb.mono (w6B.out).size))
        clear hbb HB4 HB5 HXd HRd
        obtain ⟨w7, hw7⟩ : ∃ q, q = w5 := ⟨w5, rfl⟩
        subst hw7
        have c0 : w7.cell? ⟨gx, 0, none⟩ = some (.int .u32 (x.a : Int)) := w7X.out.cell 0
        have c1 : w7.cell? ⟨gx, 1, none⟩ = some (.int .i64 (x.s : Int)) := w7X.out.cell 1
        have c2 : w7.cell? ⟨gx, 2, none⟩ = some (.string (ofL x.d)) := w7X.out.cell 2
        have d0 : w7.cell? ⟨w.heap.size, 0, none⟩ = some (.int .u32 (r.a : Int)) := w7R.out.cell 0
        have d1 : w7.cell? ⟨w.heap.size, 1, none⟩ = some (.int .i64 (r.s : Int)) := w7R.out.cell 1
        have d2 : w7.cell? ⟨w.heap.size, 2, none⟩ = some (.string (ofL r.d)) := w7R.out.cell 2
        by_cases hki : k = i
        · have HEQ := Lib.hid (HAAX.out hki)
          have e2 : Op.bytesLess (ofL (key r)).toList (ofL (key x)).toList = true := by rw [hb2]; exact decide_eq_true (HHX.out (by omega))
          have e3 : Op.bytesLess (ofL (key x)).toList (ofL (key r)).toList = false := by rw [less_kk]; exact decide_eq_false (kasym (HHX.out (by omega)))
          simp only [e3, Bool.not_true, Bool.not_false]
          have HG := Lib.hid (HNO.out u7 HO.out)
          go_wp2_with (first
            | (at_builtin; refine wpl_app2 rfl _ _ rfl _ (outA l r i k) r rfl w7O.out rfl (by have := HL1.out; omega) w7B.out ?_; intro v' w8 hown hb8 hk8
               have HO8 := Lib.hid hown
               have HB8 := Lib.hid hb8
               have HX8 := Lib.hid (hk8 _ _ _ w7X.out HG.out)
               clear hown hb8 hk8 c0 c1 c2
               have c0 : w8.cell? ⟨gx, 0, none⟩ = some (.int .u32 (x.a : Int)) := HX8.out.cell 0
               have c1 : w8.cell? ⟨gx, 1, none⟩ = some (.int .i64 (x.s : Int)) := HX8.out.cell 1
               have c2 : w8.cell? ⟨gx, 2, none⟩ = some (.string (ofL x.d)) := HX8.out.cell 2)
            | (at_builtin; refine wpl_app rfl _ _ rfl _ (outA l r i k ++ [r]) x rfl HO8.out rfl (by have := HL1.out; simp; omega) HB8.out ?_; intro v9 w9 hown hb8
               have HO9 := Lib.hid hown
               have HB9 := Lib.hid hb8
               clear hown hb8))
          go_wp2_with fail
          go_roundw
          case rel => exact ⟨k + 1, by omega, by go_num, by simp; omega, by rw [HEQ.out]; exact HO9, HB9⟩
          case measure => simp [intOf]; omega
        · have HEQ := Lib.hid (HLAX.out (by omega))
          have e2 : Op.bytesLess (ofL (key r)).toList (ofL (key x)).toList = false := by rw [hb2]; exact decide_eq_false (fun e => kirr _ (ktr e (HLX.out (by omega))))
          have e3 : Op.bytesLess (ofL (key x)).toList (ofL (key r)).toList = true := by rw [less_kk]; exact decide_eq_true (HLX.out (by omega))
          simp only [e3, Bool.not_true, Bool.not_false]
          go_wp2_with (at_builtin; refine wpl_app rfl _ _ rfl _ (outA l r i k) x rfl w7O.out rfl (by have := HL1.out; omega) w7B.out ?_; intro v' w8 hown hb8)
          have HO9 := Lib.hid hown
          have HB9 := Lib.hid hb8
          clear hown hb8
          go_wp2_with fail
          go_roundw
          case rel => exact ⟨k + 1, by omega, by go_num, by simp; omega, by rw [HEQ.out]; exact HO9, HB9⟩
          case measure => simp [intOf]; omega
    · obtain rfl : n = k := by omega
      have HRw := Lib.hid (HR2.out _ HB.out)
      have d0 : wr.cell? ⟨w.heap.size, 0, none⟩ = some (.int .u32 (r.a : Int)) := HRw.out.cell 0
      have d1 : wr.cell? ⟨w.heap.size, 1, none⟩ = some (.int .i64 (r.s : Int)) := HRw.out.cell 1
      have d2 : wr.cell? ⟨w.heap.size, 2, none⟩ = some (.string (ofL r.d)) := HRw.out.cell 2
      by_cases hik : i < n
      · have e1 : decide (i < n) = true := decide_eq_true hik
        simp only [e1]
        go_wp2_with fail
        go_ret2
        exact ⟨u7, rfl, by rw [← HE1.out hik]; exact own_mono HO.out HB0.out.size, HB0.out.trans (HB.out.mono HB0.out.size)⟩
      · have e1 : decide (i < n) = false := decide_eq_false hik
        simp only [e1]
        go_wp2_with (at_builtin; refine wpl_app rfl _ _ rfl _ (outA l r i n) r rfl HO.out rfl (by have := HOL.out n; omega) HB.out ?_; intro v' w8 hown hb8)
        go_ret2
        exact ⟨v', rfl, by rw [← HE2.out hik]; exact own_mono hown HB0.out.size, HB0.out.trans (hb8.mono HB0.out.size)⟩
end Rc
end Go.Proofs.YtnllocghmnhooaaDoor
