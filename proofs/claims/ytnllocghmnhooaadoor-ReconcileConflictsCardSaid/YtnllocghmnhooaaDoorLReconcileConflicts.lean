/- The core of the law ReconcileConflicts: it returns true. -/
import Derived.Test.YtnllocghmnhooaaDoorVd
import Derived.Test.YtnllocghmnhooaaDoorVe
import Derived.RegionTactic
import Derived.Deep.QuietTactic
import Derived.BigQuiet
namespace Go.Proofs.YtnllocghmnhooaaDoor
open Go.RowKit
set_option linter.unusedVariables false
set_option linter.unusedSimpArgs false
namespace ReconcileConflicts
open Rc
open Bk (bl bl_len bl_ofL ofL_bl ofL_size ofL_append)
theorem wnt_snoc {b : List Rec} (r : Rec) {j : Nat} (h : j < b.length) : wnt (b.take (j + 1)) r = wnt (b.take j) r ++ (if key r = key b[j] ∧ r ≠ b[j] then [r, b[j]] else []) := by
  unfold wnt
  rw [List.take_succ_eq_append_getElem h, List.flatMap_append]
  simp
theorem wnt_len (r : Rec) : ∀ (b : List Rec), (wnt b r).length ≤ 2 * b.length
  | [] => by simp [wnt]
  | s :: b => by
    have h2 := wnt_len r b
    show ((if key r = key s ∧ r ≠ s then [r, s] else []) ++ wnt b r).length ≤ _
    rw [List.length_append, List.length_cons]
    split <;> simp <;> omega
/-- append of two records; other blocks are kept -/
theorem wpl_app22k {ops : Array Oper} {rest : List Oper} {o : Oper} {a : Act} {Q : Exit → Act → World → Prop} {w W : World} (hgd : o.guard = none) (s x : Operand)
    (ho : o.op = .call { callee := .builtin .append, args := #[s, x], argTypes := #[25, 25] })
    (v : Value) (l : List Rec) (r z : Rec) (hs : a.eval s = v) (hown : Own W w.heap.size v l) (m : Nat) (hx : a.eval x = .slice (some ⟨m, 0, none⟩) 2 2) (hm : m = W.heap.size) (hl : l.length ≤ 1000000) (hb : Below w.heap.size w W)
    (h : ∀ v' w', Own w' w.heap.size v' (l ++ [r, z]) → Below w.heap.size w w' → (∀ g t cs, Blk W g t cs → v.ownBlock ≠ some g → Blk w' g t cs ∧ v'.ownBlock ≠ some g) → wpList Tryd.prog ops Q rest (a.put o.dst v') w') :
    wpList Tryd.prog ops Q (o :: rest) a (W.alloc (.cells #[.int .u32 (r.a : Int), .int .i64 (r.s : Int), .string (ofL r.d), .int .u32 (z.a : Int), .int .i64 (z.s : Int), .string (ofL z.d)] 42)) := by
  subst hm
  obtain ⟨i0, hi, hz0, hz1, hz2⟩ := info_parts'
  have HO := Lib.hid (Own.alloc hown (.cells (rvs [r, z]).toArray 42))
  have HB := hb.alloc hb.size (.cells (rvs [r, z]).toArray 42)
  exact wpl_append_sl _ hgd s x _ ho w.heap.size 42 i0 (.agg #[.int .u32 0, .int .i64 0, .string ⟨#[]⟩]) 3 32 Tryd.underlying25 hi hz0 hz1 hz2 rfl (by decide) v l.length (rvs l) hs HO.out (some ⟨W.heap.size, 0, none⟩) 2 2 (rvs [r, z]) hx (Blk.sl (n := 2) (size := 3) (Blk.new W 42 (rvs [r, z]).toArray) rfl (by unfold maxLen; omega)) (rvs_one _) (by unfold maxLen; omega) (by omega) HB.size
    (fun v' w' h1 h2 h3 => h v' w' (by unfold Own; rw [rvs_app, List.length_append]; exact h1) (HB.grown h2 HB.size (fun j e => (HO.out.lt j e).1)) fun g t cs hg hne => ⟨(hg.alloc (.cells (rvs [r, z]).toArray 42)).grown h2 (fun e => hne e.symm), fun e => by
      rcases h3 with h3 | h3
      · rw [h3] at e; exact hne e
      · rw [h3, asz] at e
        have := hg.lt
        injection e with e
        omega⟩)
set_option maxRecDepth 100000 in
set_option maxHeartbeats 4000000 in
theorem kept_f (l own : List Rec) (hsub : own.Sublist l) (w : World) (A B : Option Addr) (ca cb : Nat) (ha : Rcs w A ca l) (hb : Rcs w B cb own) (hl : l.length ≤ 100000) (ho : own.length ≤ 100000) :
    Calls Tryd.prog 23 #[.slice A l.length ca, .slice B own.length cb] w fun e w' => e = .returned (.bool true) ∧ Below w.heap.size w w' := by
  have HA := Lib.hid (fun W (h : Below w.heap.size w W) => ha.below h)
  have HO := Lib.hid (fun W (h : Below w.heap.size w W) => hb.below h)
  have hca : ca ≤ 9223372036854775807 := ha.max
  have hcb : cb ≤ 9223372036854775807 := hb.max
  have hlca := ha.le
  have hlcb := hb.le
  have HDL := Lib.hid (fun k (hk : k < l.length) => (List.drop_eq_getElem_cons hk : l.drop k = l[k] :: l.drop (k + 1)))
  have HDO := Lib.hid (fun k (hk : k < own.length) => (List.drop_eq_getElem_cons hk : own.drop k = own[k] :: own.drop (k + 1)))
  have HEL := Lib.hid (show l.drop l.length = [] from List.drop_length)
  have HEO := Lib.hid (fun i (h : own.drop i = []) => (List.drop_eq_nil_iff.1 h : own.length ≤ i))
  have HNO := Lib.hid (fun i (h : own.length ≤ i) => (List.drop_eq_nil_iff.2 h : own.drop i = []))
  have HS0 := Lib.hid (show (own.drop 0).Sublist (l.drop 0) by rw [List.drop_zero, List.drop_zero]; exact hsub)
  obtain ⟨n, hn⟩ : ∃ n, n = l.length := ⟨_, rfl⟩
  obtain ⟨m, hm⟩ : ∃ m, m = own.length := ⟨_, rfl⟩
  have HN := Lib.hid hn
  have HM := Lib.hid hm
  rw [← hn] at hl hlca HEL ⊢
  rw [← hm] at ho hlcb HEO HNO ⊢
  clear hn hm ha hb hsub
  go_enter Tryd.func23, Tryd.ntmps23
  go_wp2_with fail
  go_loopw [5, 10] (fun y x W => ∃ (i k : Nat), i ≤ m ∧ k ≤ n ∧ y = .int .i64 (i : Int) ∧ x = .int .i64 (k : Int) ∧ Hid ((own.drop i).Sublist (l.drop k)) ∧ Hid (Below w.heap.size w W)) (fun _ x _ => n - (intOf x).toNat)
  case atStart => exact ⟨0, 0, Nat.zero_le _, Nat.zero_le _, rfl, rfl, HS0, Lib.hid (Below.refl _ _)⟩
  case round =>
    obtain ⟨i, k, hi, hk, rfl, rfl, HS, HB⟩ := hrel
    by_cases hkn : k < n
    · have hkl : k < l.length := by rw [← HN.out]; exact hkn
      obtain ⟨g, o, rfl, hat⟩ := (HA.out _ HB.out).mem (by omega)
      obtain ⟨c0, c1, c2⟩ := hat.2 k hkl
      have hdl := HDL.out k hkl
      obtain ⟨r, hr⟩ : ∃ r, l[k] = r := ⟨_, rfl⟩
      rw [hr] at c0 c1 c2 hdl
      have HDK := Lib.hid hdl
      clear hat hr hdl
      have HXa := Lib.hid (Blk.new wr 42 (rc r).toArray)
      have HBa := Lib.hid (HB.out.alloc HB.out.size (.cells (rc r).toArray 42))
      obtain ⟨W1, hW1⟩ : ∃ V, V = wr.alloc (.cells #[.int .u32 (r.a : Int), .int .i64 (r.s : Int), .string (ofL r.d)] 42) := ⟨_, rfl⟩
      have HW1 := Lib.hid hW1
      obtain ⟨gx, hgx⟩ : ∃ g, g = wr.heap.size := ⟨_, rfl⟩
      have HGX := Lib.hid hgx
      have HX1 := Lib.hid (show Blk W1 gx 42 (rc r).toArray by rw [HW1.out, HGX.out]; exact HXa.out)
      have HB1 := Lib.hid (show Below w.heap.size w W1 by rw [HW1.out]; exact HBa.out)
      by_cases him : i < m
      · have hio : i < own.length := by rw [← HM.out]; exact him
        have hiI : (i : Int) < (m : Int) := by omega
        have hi0 : (0 : Int) ≤ (i : Int) := by omega
        obtain ⟨g', o', rfl, hat⟩ := (HO.out _ HB1.out).mem (by omega)
        obtain ⟨d0, d1, d2⟩ := hat.2 i hio
        have hdo := HDO.out i hio
        obtain ⟨s, hs⟩ : ∃ s, own[i] = s := ⟨_, rfl⟩
        rw [hs] at d0 d1 d2 hdo
        have hsub := HS.out
        rw [HDK.out, hdo] at hsub
        have HSU := Lib.hid hsub
        have HDOI := Lib.hid hdo
        clear hat hs hdo hsub
        have e0 : W1.cell? ⟨gx, 0, none⟩ = some (.int .u32 (r.a : Int)) := HX1.out.cell 0
        have e1 : W1.cell? ⟨gx, 1, none⟩ = some (.int .i64 (r.s : Int)) := HX1.out.cell 1
        have e2 : W1.cell? ⟨gx, 2, none⟩ = some (.string (ofL r.d)) := HX1.out.cell 2
        go_wp2_with fail
        rw [← hW1, ← hgx]
        clear hW1 hgx HXa HBa HGX HW1 c0 c1 c2
        by_cases q : s = r
        · subst q
          have HN1 := Lib.hid (sub_step_eq HSU.out)
          go_quiet (fail)
          have HB9 := Lib.hid (show Below w.heap.size w (W1.drewN nq) from below_drewN HB1.out nq)
          clear d0 d1 d2 e0 e1 e2
          go_wp2_with fail
          go_roundw
          case rel => exact ⟨i + 1, k + 1, by omega, by omega, by go_num, by go_num, HN1, HB9⟩
          case measure => simp [intOf]; omega
        · have HN1 := Lib.hid (show (own.drop i).Sublist (l.drop (k + 1)) by rw [HDOI.out]; exact sub_step_ne HSU.out (fun e => q e.symm))
          by_cases qa : s.a = r.a
          · rw [qa] at d0
            by_cases qs : s.s = r.s
            · rw [qs] at d1
              have qd : r.d ≠ s.d := fun e => q (by cases s; cases r; simp_all)
              have f1 := tl_neq qd
              have f2 := tl_neq' qd
              have f3 : ¬ ofL r.d = ofL s.d := fun e => qd (by rw [← bl_ofL r.d, ← bl_ofL s.d, e])
              go_quiet (fail)
              have HB9 := Lib.hid (show Below w.heap.size w (W1.drewN nq) from below_drewN HB1.out nq)
              clear d0 d1 d2 e0 e1 e2
              go_wp2_with fail
              go_roundw
              case rel => exact ⟨i, k + 1, by omega, by omega, rfl, by go_num, HN1, HB9⟩
              case measure => simp [intOf]; omega
            · have f1 : ((r.s : Int) == (s.s : Int)) = false := by simp; omega
              have f2 : ¬ (r.s : Int) = (s.s : Int) := by omega
              have f3 : ¬ r.s = s.s := by omega
              go_quiet (fail)
              have HB9 := Lib.hid (show Below w.heap.size w (W1.drewN nq) from below_drewN HB1.out nq)
              clear d0 d1 d2 e0 e1 e2
              go_wp2_with fail
              go_roundw
              case rel => exact ⟨i, k + 1, by omega, by omega, rfl, by go_num, HN1, HB9⟩
              case measure => simp [intOf]; omega
          · have f1 : ((r.a : Int) == (s.a : Int)) = false := by simp; omega
            have f2 : ¬ (r.a : Int) = (s.a : Int) := by omega
            have f3 : ¬ r.a = s.a := by omega
            go_quiet (fail)
            have HB9 := Lib.hid (show Below w.heap.size w (W1.drewN nq) from below_drewN HB1.out nq)
            clear d0 d1 d2 e0 e1 e2
            go_wp2_with fail
            go_roundw
            case rel => exact ⟨i, k + 1, by omega, by omega, rfl, by go_num, HN1, HB9⟩
            case measure => simp [intOf]; omega
      · have HN1 := Lib.hid (show (own.drop i).Sublist (l.drop (k + 1)) by rw [HNO.out i (by omega)]; exact List.nil_sublist _)
        have hmi : ¬ (i : Int) < (m : Int) := by omega
        have hmi2 : decide ((i : Int) < (m : Int)) = false := by simp; omega
        go_wp2_with fail
        rw [← hW1]
        try rw [← hgx]
        clear hW1 hgx HXa HBa HGX HW1 c0 c1 c2
        go_quiet (fail)
        have HB9 := Lib.hid (show Below w.heap.size w (W1.drewN nq) from below_drewN HB1.out nq)
        go_wp2_with fail
        go_roundw
        case rel => exact ⟨i, k + 1, by omega, by omega, rfl, by go_num, HN1, HB9⟩
        case measure => simp [intOf]; omega
    · obtain rfl : n = k := by omega
      have him := HEO.out i (by have h := HS.out; rw [HEL.out] at h; exact List.sublist_nil.1 h)
      obtain rfl : i = m := by omega
      go_wp2_with fail
      go_ret
      exact ⟨rfl, HB.out⟩
set_option maxRecDepth 100000 in
set_option maxHeartbeats 4000000 in
theorem core (w : World) (ht : Bk.Tab w) (A : Option Addr) (c : Nat) (l : List Itm) (h : Its w A c l) (hla : ∀ i ∈ l, i.a < 256 ∧ i.s < 256 ∧ i.w < 256) :
    Calls Tryd.prog 7 #[.slice A l.length c] w fun e w' => e = .returned (.bool true) ∧ Below w.heap.size w w' := by
  have HAW := Lib.hid (fun W (k : Below w.heap.size w W) => awake_f W (ht.bel k))
  by_cases hl : l.length ≤ 60
  · have HLI := Lib.hid (lists_f l hla w A c h hl)
    obtain ⟨s1, s2, l1, l2⟩ := lf hl
    have hU := us_val l
    have hUl := us_small hl
    have hcn := count_ok s1 s2 l1 l2 hUl 200
    have hfu := fuel_ok s1 s2 l1 l2 (sm Hd (lsts l).1 [] [])
    obtain ⟨U, hUe⟩ : ∃ U, U = Us l := ⟨_, rfl⟩
    obtain ⟨a, hae⟩ : ∃ a, a = (lsts l).1 := ⟨_, rfl⟩
    obtain ⟨b, hbe⟩ : ∃ b, b = (lsts l).2 := ⟨_, rfl⟩
    rw [← hUe] at s1 s2 hU hUl
    rw [← hae] at HLI s1 l1 hcn hfu
    rw [← hbe] at HLI s2 l2 hcn hfu
    clear hUe hae hbe
    have hva : ∀ z ∈ a, Val z := fun z hz => hU z (s1.mem z hz)
    have hvb : ∀ z ∈ b, Val z := fun z hz => hU z (s2.mem z hz)
    have HSY := Lib.hid (fun W (k : Below w.heap.size w W) A B ca cb (ha : Rcs W A ca a) (hb : Rcs W B cb b) => sync_f hU (by omega) a b s1 s2 W (ht.bel k) A B ca cb ha hb hcn)
    have hsub := dlg_sub Hd 200 b a (sm Hd a [] [])
    have hst := dlg_st Hd 200 (sm Hd a [] []) s2 s1
    have hl1 := hst.1.len
    have hl2 := hst.2.len
    obtain ⟨D, hD⟩ : ∃ D, D = dlg Hd 200 b a (sm Hd a [] []) := ⟨_, rfl⟩
    rw [← hD] at HSY hsub hl1 hl2
    have HKX := Lib.hid (fun W A B ca cb (ha : Rcs W A ca D.2.1) (hb : Rcs W B cb a) => kept_f D.2.1 a hsub.2 W A B ca cb ha hb (by omega) (by omega))
    have HKY := Lib.hid (fun W A B ca cb (ha : Rcs W A ca D.1) (hb : Rcs W B cb b) => kept_f D.1 b hsub.1 W A B ca cb ha hb (by omega) (by omega))
    have HSA := Lib.hid (fun W A B ca cb (k : Rcs W A ca (conf a b)) (j : Rcs W B cb (conf a b)) => same_f (conf a b) W A B ca cb k j (Nat.le_trans (conf_len b a) (by omega)))
    have HKA := Lib.hid (fun k (hk : k < a.length) W (h : Below w.heap.size w W) => key_f a[k] (hva _ (List.getElem_mem hk)) W (ht.bel h))
    have HKB := Lib.hid (fun k (hk : k < b.length) W (h : Below w.heap.size w W) => key_f b[k] (hvb _ (List.getElem_mem hk)) W (ht.bel h))
    have HVA := Lib.hid (fun k (hk : k < a.length) => hva _ (List.getElem_mem hk))
    have HVB := Lib.hid (fun k (hk : k < b.length) => hvb _ (List.getElem_mem hk))
    have HF := Lib.hid (fun k (hk : k < a.length) => (show conf (a.take (k + 1)) b = conf (a.take k) b ++ wnt b a[k] by rw [conf_snoc b hk, wnt_eq s2.srt hvb (hva _ (List.getElem_mem hk))]))
    have HFL := Lib.hid (fun k => conf_take a b k)
    have HFE := Lib.hid (show conf (a.take a.length) b = conf a b by rw [List.take_length])
    have HWS := Lib.hid (fun r j (hj : j < b.length) => wnt_snoc r hj)
    have HWL := Lib.hid (fun r j => (show (wnt (b.take j) r).length ≤ 120 from Nat.le_trans (wnt_len r _) (by rw [List.length_take]; omega)))
    have HTE := Lib.hid (show b.take b.length = b from List.take_length)
    obtain ⟨n, hn⟩ : ∃ n, n = a.length := ⟨_, rfl⟩
    obtain ⟨m, hm⟩ : ∃ m, m = b.length := ⟨_, rfl⟩
    have HN := Lib.hid hn
    have HM := Lib.hid hm
    rw [← hn] at l1 HFL HFE HSY HKX
    rw [← hm] at l2 HTE HSY HKY
    clear hD hst hsub hcn hfu hva hvb s1 s2 hU hUl ht h hla hl hn hm hl1 hl2
    go_enter Tryd.func7, Tryd.ntmps7
    go_wp2_with fail
    refine HLI.out.mono ?_
    rintro e w1 ⟨_, _, rfl, ⟨A1, c1, rfl, ha⟩, ⟨A2, c2, rfl, hb⟩, hb1⟩
    rw [← HN.out, ← HM.out]
    have HA1 := Lib.hid ha
    have HB1' := Lib.hid hb
    have HB1 := Lib.hid hb1
    clear hb1 ha hb
    go_wp2_with fail
    refine (HSY.out _ HB1.out _ _ _ _ HA1.out HB1'.out).mono ?_
    rintro e w2 ⟨_, _, _, rfl, ⟨X1, x1, rfl, hx⟩, ⟨Y1, y1, rfl, hy⟩, ⟨C1, z1, rfl, hz⟩, hb2⟩
    have HB2 := Lib.hid (HB1.out.trans (hb2.mono HB1.out.size))
    have HA2 := Lib.hid (HA1.out.below hb2)
    have HB2' := Lib.hid (HB1'.out.below hb2)
    clear hb2
    have HX2 := Lib.hid hx
    have HY2 := Lib.hid hy
    have HZ2 := Lib.hid hz
    have hca : c1 ≤ 9223372036854775807 := HA2.out.max
    have hcb : c2 ≤ 9223372036854775807 := HB2'.out.max
    have hlca : n ≤ c1 := by rw [HN.out]; exact HA2.out.le
    have hlcb : m ≤ c2 := by rw [HM.out]; exact HB2'.out.le
    clear hx hy hz
    go_wp2_with fail
    go_loopw [10, 35] (fun y x W => ∃ k : Nat, k ≤ n ∧ x = .int .i64 (k : Int) ∧ Hid (Own W w2.heap.size y (conf (a.take k) b)) ∧ Hid (Below w2.heap.size w2 W)) (fun _ x _ => n - (intOf x).toNat)
    case atStart => exact ⟨0, Nat.zero_le _, rfl, Lib.hid (own_nil _ _), Lib.hid (Below.refl _ _)⟩
    case round =>
      obtain ⟨k, hk, rfl, HO, HB⟩ := hrel
      by_cases hkn : k < n
      · have hkl : k < a.length := by rw [← HN.out]; exact hkn
        obtain ⟨g, o, rfl, hat⟩ := (HA2.out.below HB.out).mem (by omega)
        obtain ⟨d0, d1, d2⟩ := hat.2 k hkl
        have HK1 := Lib.hid (HKA.out k hkl)
        have HF1 := Lib.hid (HF.out k hkl)
        have HV1 := Lib.hid (HVA.out k hkl)
        have HL1 := Lib.hid (HFL.out k)
        obtain ⟨r, hr⟩ : ∃ r, a[k] = r := ⟨_, rfl⟩
        rw [hr] at d0 d1 d2 HK1 HF1 HV1
        clear hat hr
        unfold rv at HK1
        obtain ⟨L, hL⟩ : ∃ L, L = conf (a.take k) b := ⟨_, rfl⟩
        rw [← hL] at HF1 HO HL1
        clear hL
        have HXa := Lib.hid (Blk.new wr 42 (rc r).toArray)
        have HOa := Lib.hid (Own.alloc HO.out (.cells (rc r).toArray 42))
        have HBa := Lib.hid (HB.out.alloc HB.out.size (.cells (rc r).toArray 42))
        have HNa := Lib.hid (show u10.ownBlock ≠ some wr.heap.size from fun e => absurd (HO.out.lt _ e).2 (Nat.lt_irrefl _))
        obtain ⟨W1, hW1⟩ : ∃ V, V = wr.alloc (.cells #[.int .u32 (r.a : Int), .int .i64 (r.s : Int), .string (ofL r.d)] 42) := ⟨_, rfl⟩
        have HW1 := Lib.hid hW1
        obtain ⟨gx, hgx⟩ : ∃ g, g = wr.heap.size := ⟨_, rfl⟩
        have HGX := Lib.hid hgx
        have HX1 := Lib.hid (show Blk W1 gx 42 (rc r).toArray by rw [HW1.out, HGX.out]; exact HXa.out)
        have HO1 := Lib.hid (show Own W1 w2.heap.size u10 L by rw [HW1.out]; exact HOa.out)
        have HB1 := Lib.hid (show Below w2.heap.size w2 W1 by rw [HW1.out]; exact HBa.out)
        have HN1 := Lib.hid (show u10.ownBlock ≠ some gx by rw [HGX.out]; exact HNa.out)
        go_wp2_with fail
        rw [← hW1, ← hgx]
        clear hW1 hgx HXa HOa HBa HGX HW1 d0 d1 d2 HO HB HNa
        go_loopw [10, 41] (fun y x W => ∃ j : Nat, j ≤ m ∧ x = .int .i64 (j : Int) ∧ Hid (Own W w2.heap.size y (L ++ wnt (b.take j) r)) ∧ Hid (Blk W gx 42 (rc r).toArray) ∧ Hid (y.ownBlock ≠ some gx) ∧ Hid (Below w2.heap.size w2 W)) (fun _ x _ => m - (intOf x).toNat)
        case atStart => exact ⟨0, Nat.zero_le _, rfl, Lib.hid (by rw [List.take_zero]; show Own W1 w2.heap.size u10 (L ++ []); rw [List.append_nil]; exact HO1.out), HX1, HN1, HB1⟩
        case round =>
          obtain ⟨j, hj, rfl, HO, HX, HNN, HB⟩ := hrel
          by_cases hjm : j < m
          · have hjl : j < b.length := by rw [← HM.out]; exact hjm
            obtain ⟨g', o', rfl, hat⟩ := (HB2'.out.below HB.out).mem (by omega)
            obtain ⟨d0, d1, d2⟩ := hat.2 j hjl
            have HK2 := Lib.hid (HKB.out j hjl)
            have HWJ := Lib.hid (HWS.out r j hjl)
            have HV2 := Lib.hid (HVB.out j hjl)
            have HWJL := Lib.hid (HWL.out r j)
            obtain ⟨s, hs⟩ : ∃ s, b[j] = s := ⟨_, rfl⟩
            rw [hs] at d0 d1 d2 HK2 HWJ HV2
            clear hat hs
            unfold rv at HK2
            have HYa := Lib.hid (Blk.new wr 42 (rc s).toArray)
            have HXa := Lib.hid (HX.out.alloc (.cells (rc s).toArray 42))
            have HOa := Lib.hid (Own.alloc HO.out (.cells (rc s).toArray 42))
            have HBa := Lib.hid (HB.out.alloc HB.out.size (.cells (rc s).toArray 42))
            obtain ⟨W4, hW4⟩ : ∃ V, V = wr.alloc (.cells #[.int .u32 (s.a : Int), .int .i64 (s.s : Int), .string (ofL s.d)] 42) := ⟨_, rfl⟩
            have HW4 := Lib.hid hW4
            obtain ⟨gz, hgz⟩ : ∃ g, g = wr.heap.size := ⟨_, rfl⟩
            have HGZ := Lib.hid hgz
            have HNZ := Lib.hid (show u10.ownBlock ≠ some gz from fun e => by rw [hgz] at e; exact absurd (HO.out.lt _ e).2 (Nat.lt_irrefl _))
            have HY5 := Lib.hid (show Blk W4.drew gz 42 (rc s).toArray by rw [HW4.out, HGZ.out]; exact HYa.out)
            have HX5 := Lib.hid (show Blk W4.drew gx 42 (rc r).toArray by rw [HW4.out]; exact HXa.out)
            have HO5 := Lib.hid (show Own W4.drew w2.heap.size u10 (L ++ wnt (b.take j) r) by rw [HW4.out]; exact Own.below HOa.out (below_drewN (Below.refl _ _) 1))
            have HB5 := Lib.hid (show Below w2.heap.size w2 W4.drew by rw [HW4.out]; exact below_drewN HBa.out 1)
            have HW5 := Lib.hid (HB2.out.trans (HB5.out.mono HB2.out.size))
            have HN7 := HNN
            go_wp2_with fail
            rw [← hW4, ← hgz]
            clear hW4 hgz HYa HXa HOa HBa HGZ HW4 d0 d1 d2 HO HX HB HNN
            by_cases q1 : key r = key s
            · obtain ⟨qa, qs⟩ := key_inj HV1.out HV2.out q1
              have g1 : ((ofL (key r)).toList == (ofL (key s)).toList) = true := by rw [q1]; simp
              have g2 : (ofL (key r)).toList = (ofL (key s)).toList := by rw [q1]
              have hrc : rc s = [.int .u32 (r.a : Int), .int .i64 (r.s : Int), .string (ofL s.d)] := by unfold rc; rw [← qa, ← qs]
              rw [hrc] at HY5
              rw [← qa, ← qs] at HK2
              by_cases q2 : r.d = s.d
              · have q3 : r = s := by cases r; cases s; simp_all
                rw [if_neg (fun e => e.2 q3), List.append_nil] at HWJ
                rw [← q2] at HY5 HK2
                have g3 : ((ofL r.d).toList == (ofL r.d).toList) = true := by simp
                clear qa qs q1 q2 hrc q3
                go_region_held3 (fun V => V.cell? ⟨gx, 0, none⟩ = some (.int .u32 (r.a : Int)) ∧ V.cell? ⟨gx, 1, none⟩ = some (.int .i64 (r.s : Int)) ∧ V.cell? ⟨gx, 2, none⟩ = some (.string (ofL r.d)) ∧ V.cell? ⟨gz, 0, none⟩ = some (.int .u32 (r.a : Int)) ∧ V.cell? ⟨gz, 1, none⟩ = some (.int .i64 (r.s : Int)) ∧ V.cell? ⟨gz, 2, none⟩ = some (.string (ofL r.d)))
                  (first | exact ⟨(HX5.out).cell 0, (HX5.out).cell 1, (HX5.out).cell 2, (HY5.out).cell 0, (HY5.out).cell 1, (HY5.out).cell 2⟩ | exact ⟨(HX6.out).cell 0, (HX6.out).cell 1, (HX6.out).cell 2, (HY6.out).cell 0, (HY6.out).cell 1, (HY6.out).cell 2⟩ | exact ⟨(HX7.out).cell 0, (HX7.out).cell 1, (HX7.out).cell 2, (HY7.out).cell 0, (HY7.out).cell 1, (HY7.out).cell 2⟩)
                  (first
                    | (go_at_call 22; (with_reducible refine (HK1.out _ HW5.out).mono ?_); rintro e w6 ⟨rfl, hb6⟩; have HX6 := Lib.hid (HX5.out.below hb6); have HY6 := Lib.hid (HY5.out.below hb6); have HO6 := Lib.hid (Own.below HO5.out hb6); have HB6 := Lib.hid (HB5.out.trans (hb6.mono HB5.out.size)); have HW6 := Lib.hid (HW5.out.trans (hb6.mono HW5.out.size)); clear hb6)
                    | (go_at_call 22; (with_reducible refine (HK2.out _ HW6.out).mono ?_); rintro e w7 ⟨rfl, hb7⟩; have HX7 := Lib.hid (HX6.out.below hb7); have HY7 := Lib.hid (HY6.out.below hb7); have HO7 := Lib.hid (Own.below HO6.out hb7); have HB7 := Lib.hid (HB6.out.trans (hb7.mono HB6.out.size)); clear hb7))
                go_wp2_with fail
                go_roundw
                case rel => exact ⟨j + 1, by omega, by go_num, by rw [HWJ.out]; exact HO7, HX7, HN7, HB7⟩
                case measure => simp [intOf]; omega
              · have q3 : r ≠ s := fun e => q2 (by rw [e])
                rw [if_pos ⟨q1, q3⟩] at HWJ
                have f1 := tl_neq q2
                have f2 := tl_neq' q2
                have f3 : ¬ ofL r.d = ofL s.d := fun e => q2 (by rw [← bl_ofL r.d, ← bl_ofL s.d, e])
                have hse : s = ⟨r.a, r.s, s.d⟩ := by cases s; simp_all
                have HSE := Lib.hid hse
                clear qa qs q1 q2 hrc q3 hse
                go_region_held3 (fun V => V.cell? ⟨gx, 0, none⟩ = some (.int .u32 (r.a : Int)) ∧ V.cell? ⟨gx, 1, none⟩ = some (.int .i64 (r.s : Int)) ∧ V.cell? ⟨gx, 2, none⟩ = some (.string (ofL r.d)) ∧ V.cell? ⟨gz, 0, none⟩ = some (.int .u32 (r.a : Int)) ∧ V.cell? ⟨gz, 1, none⟩ = some (.int .i64 (r.s : Int)) ∧ V.cell? ⟨gz, 2, none⟩ = some (.string (ofL s.d)))
                  (first | exact ⟨(HX5.out).cell 0, (HX5.out).cell 1, (HX5.out).cell 2, (HY5.out).cell 0, (HY5.out).cell 1, (HY5.out).cell 2⟩ | exact ⟨(HX6.out).cell 0, (HX6.out).cell 1, (HX6.out).cell 2, (HY6.out).cell 0, (HY6.out).cell 1, (HY6.out).cell 2⟩ | exact ⟨(HX7.out).cell 0, (HX7.out).cell 1, (HX7.out).cell 2, (HY7.out).cell 0, (HY7.out).cell 1, (HY7.out).cell 2⟩)
                  (first
                    | (go_at_call 22; (with_reducible refine (HK1.out _ HW5.out).mono ?_); rintro e w6 ⟨rfl, hb6⟩; have HX6 := Lib.hid (HX5.out.below hb6); have HY6 := Lib.hid (HY5.out.below hb6); have HO6 := Lib.hid (Own.below HO5.out hb6); have HB6 := Lib.hid (HB5.out.trans (hb6.mono HB5.out.size)); have HW6 := Lib.hid (HW5.out.trans (hb6.mono HW5.out.size)); clear hb6)
                    | (go_at_call 22; (with_reducible refine (HK2.out _ HW6.out).mono ?_); rintro e w7 ⟨rfl, hb7⟩; have HX7 := Lib.hid (HX6.out.below hb7); have HY7 := Lib.hid (HY6.out.below hb7); have HO7 := Lib.hid (Own.below HO6.out hb7); have HB7 := Lib.hid (HB6.out.trans (hb7.mono HB6.out.size)); clear hb7))
                have e0 : w7.cell? ⟨gx, 0, none⟩ = some (.int .u32 (r.a : Int)) := HX7.out.cell 0
                have e1 : w7.cell? ⟨gx, 1, none⟩ = some (.int .i64 (r.s : Int)) := HX7.out.cell 1
                have e2 : w7.cell? ⟨gx, 2, none⟩ = some (.string (ofL r.d)) := HX7.out.cell 2
                have e3 : w7.cell? ⟨gz, 0, none⟩ = some (.int .u32 (r.a : Int)) := HY7.out.cell 0
                have e4 : w7.cell? ⟨gz, 1, none⟩ = some (.int .i64 (r.s : Int)) := HY7.out.cell 1
                have e5 : w7.cell? ⟨gz, 2, none⟩ = some (.string (ofL s.d)) := HY7.out.cell 2
                go_wp2_with (at_builtin; refine wpl_app22k rfl _ _ rfl _ (L ++ wnt (b.take j) r) r ⟨r.a, r.s, s.d⟩ rfl HO7.out _ rfl rfl (by have := HL1.out; have := HWJL.out; rw [List.length_append]; omega) HB7.out ?_; intro v' w8 hown hb8 hk8)
                have HO9 := Lib.hid hown
                have HB9 := Lib.hid hb8
                have HX9 := Lib.hid (hk8 _ _ _ HX7.out HN7.out).1
                have HN9 := Lib.hid (hk8 _ _ _ HX7.out HN7.out).2
                clear hown hb8 hk8 e0 e1 e2 e3 e4 e5
                go_wp2_with fail
                go_roundw
                case rel => exact ⟨j + 1, by omega, by go_num, by rw [HWJ.out, ← List.append_assoc]; rw [← HSE.out] at HO9; exact HO9, HX9, HN9, HB9⟩
                case measure => simp [intOf]; omega
            · rw [if_neg (fun e => q1 e.1), List.append_nil] at HWJ
              have f1 := tl_neq q1
              have f2 := tl_neq' q1
              clear q1
              have c0 : W4.drew.cell? ⟨gx, 0, none⟩ = some (.int .u32 (r.a : Int)) := HX5.out.cell 0
              have c1 : W4.drew.cell? ⟨gx, 1, none⟩ = some (.int .i64 (r.s : Int)) := HX5.out.cell 1
              have c2 : W4.drew.cell? ⟨gx, 2, none⟩ = some (.string (ofL r.d)) := HX5.out.cell 2
              have d0 : W4.drew.cell? ⟨gz, 0, none⟩ = some (.int .u32 (s.a : Int)) := HY5.out.cell 0
              have d1 : W4.drew.cell? ⟨gz, 1, none⟩ = some (.int .i64 (s.s : Int)) := HY5.out.cell 1
              have d2 : W4.drew.cell? ⟨gz, 2, none⟩ = some (.string (ofL s.d)) := HY5.out.cell 2
              have mixed : Tryd.prog.follows Departure.mixedOrders = true := by kernel_rfl
              go_region_with (first
                | (go_at_call 22; (with_reducible refine (HK1.out _ HW5.out).mono ?_); rintro e w6 ⟨rfl, hb6⟩; have HX6 := Lib.hid (HX5.out.below hb6); have HY6 := Lib.hid (HY5.out.below hb6); have HO6 := Lib.hid (Own.below HO5.out hb6); have HB6 := Lib.hid (HB5.out.trans (hb6.mono HB5.out.size)); have HW6 := Lib.hid (HW5.out.trans (hb6.mono HW5.out.size)); clear hb6
                   have k0 : w6.cell? ⟨gx, 0, none⟩ = some (.int .u32 (r.a : Int)) := HX6.out.cell 0
                   have k1 : w6.cell? ⟨gx, 1, none⟩ = some (.int .i64 (r.s : Int)) := HX6.out.cell 1
                   have k2 : w6.cell? ⟨gx, 2, none⟩ = some (.string (ofL r.d)) := HX6.out.cell 2
                   have k3 : w6.cell? ⟨gz, 0, none⟩ = some (.int .u32 (s.a : Int)) := HY6.out.cell 0
                   have k4 : w6.cell? ⟨gz, 1, none⟩ = some (.int .i64 (s.s : Int)) := HY6.out.cell 1
                   have k5 : w6.cell? ⟨gz, 2, none⟩ = some (.string (ofL s.d)) := HY6.out.cell 2)
                | (go_at_call 22; (with_reducible refine (HK2.out _ HW6.out).mono ?_); rintro e w7 ⟨rfl, hb7⟩; have HX7 := Lib.hid (HX6.out.below hb7); have HY7 := Lib.hid (HY6.out.below hb7); have HO7 := Lib.hid (Own.below HO6.out hb7); have HB7 := Lib.hid (HB6.out.trans (hb7.mono HB6.out.size)); clear hb7))
              all_goals go_wp2_with fail
              all_goals go_roundw
              all_goals first
                | exact ⟨j + 1, by omega, by go_num, by rw [HWJ.out]; exact HO7, HX7, HN7, HB7⟩
                | (simp [intOf]; omega)
          · obtain rfl : m = j := by omega
            rw [HTE.out, ← HF1.out] at HO
            go_wp2_with fail
            go_roundw
            case rel => exact ⟨k + 1, by omega, by go_num, HO, HB⟩
            case measure => simp [intOf]; omega
      · obtain rfl : n = k := by omega
        rw [HFE.out] at HO
        obtain ⟨CW, cw, hcw, hrw⟩ := HO.out.rcs
        have HWN := Lib.hid hrw
        subst hcw
        have HBW := Lib.hid (HB2.out.trans (HB.out.mono HB2.out.size))
        go_wp2_with fail
        refine (HSA.out _ _ _ _ _ (HZ2.out.below HB.out) HWN.out).mono ?_
        rintro e w3 ⟨rfl, hb3⟩
        have HC3 := Lib.hid (HB.out.trans (hb3.mono HB.out.size))
        have HB3 := Lib.hid (HBW.out.trans (hb3.mono HBW.out.size))
        clear hb3
        go_wp2_with fail
        refine (HKX.out _ _ _ _ _ (HX2.out.below HC3.out) (HA2.out.below HC3.out)).mono ?_
        rintro e w4 ⟨rfl, hb4⟩
        have HC4 := Lib.hid (HC3.out.trans (hb4.mono HC3.out.size))
        have HB4 := Lib.hid (HB3.out.trans (hb4.mono HB3.out.size))
        clear hb4
        go_wp2_with fail
        refine (HKY.out _ _ _ _ _ (HY2.out.below HC4.out) (HB2'.out.below HC4.out)).mono ?_
        rintro e w5 ⟨rfl, hb5⟩
        have HB5 := Lib.hid (HB4.out.trans (hb5.mono HB4.out.size))
        clear hb5
        go_wp2_with fail
        refine (HAW.out _ HB5.out).mono ?_
        rintro e w6 ⟨rfl, hb6⟩
        have HB6 := Lib.hid (HB5.out.trans (hb6.mono HB5.out.size))
        clear hb6
        go_wp2_with fail
        go_ret
        exact ⟨rfl, HB6.out⟩
  · have HLI := Lib.hid (lists_no l w A c hl)
    clear ht h hla hl
    go_enter Tryd.func7, Tryd.ntmps7
    go_wp2_with fail
    refine HLI.out.mono ?_
    rintro e w1 ⟨rfl, hb1⟩
    have HB1 := Lib.hid hb1
    clear hb1
    go_wp2_with fail
    refine (HAW.out _ HB1.out).mono ?_
    rintro e w2 ⟨rfl, hb2⟩
    have HB2 := Lib.hid (HB1.out.trans (hb2.mono HB1.out.size))
    clear hb2
    go_wp2_with fail
    go_ret
    exact ⟨rfl, HB2.out⟩
end ReconcileConflicts
end Go.Proofs.YtnllocghmnhooaaDoor
