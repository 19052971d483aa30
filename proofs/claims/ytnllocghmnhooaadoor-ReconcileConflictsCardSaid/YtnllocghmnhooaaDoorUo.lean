/- Reconcile: Answer of the program. -/
import Derived.Test.YtnllocghmnhooaaDoorUm
namespace Go.Proofs.YtnllocghmnhooaaDoor
open Go.RowKit
set_option linter.unusedVariables false
set_option linter.unusedSimpArgs false
namespace Rc
open Bk (bl bl_len bl_ofL ofL_bl ofL_size ofL_append nstr nstrs)

/-- the slice '.slice A ps.length c' holds the summaries ps -/
structure Rgs (W : World) (A : Option Addr) (c : Nat) (ps : List Rng) : Prop where
  le : ps.length ≤ c
  max : c ≤ maxLen
  mem : 0 < ps.length → ∃ g o, A = some ⟨g, o, none⟩ ∧ g < W.heap.size ∧ ∀ k, (h : k < ps.length) → W.cell? ⟨g, o + k * 4, none⟩ = some (.string (ofL ps[k].f)) ∧ W.cell? ⟨g, o + k * 4 + 1, none⟩ = some (.string (ofL ps[k].t)) ∧ W.cell? ⟨g, o + k * 4 + 2, none⟩ = some (.int .i64 ps[k].n) ∧ W.cell? ⟨g, o + k * 4 + 3, none⟩ = some (.string (ofL ps[k].d))
theorem Rgs.nil (W : World) (A : Option Addr) : Rgs W A 0 [] := ⟨Nat.le_refl _, Nat.zero_le _, fun h => absurd h (by simp)⟩
theorem Rgs.below {W W' : World} {A : Option Addr} {c : Nat} {ps : List Rng} (h : Rgs W A c ps) (hb : Below W.heap.size W W') : Rgs W' A c ps :=
  ⟨h.le, h.max, fun h0 => by
    obtain ⟨g, o, e, hlt, hat⟩ := h.mem h0
    exact ⟨g, o, e, Nat.lt_of_lt_of_le hlt hb.size, fun k hk => by
      obtain ⟨h1, h2, h3, h4⟩ := hat k hk
      exact ⟨(hb.cell (p := ⟨g, _, none⟩) hlt).trans h1, (hb.cell (p := ⟨g, _, none⟩) hlt).trans h2, (hb.cell (p := ⟨g, _, none⟩) hlt).trans h3, (hb.cell (p := ⟨g, _, none⟩) hlt).trans h4⟩⟩⟩
def rgc (r : Rng) : List Value := [.string (ofL r.f), .string (ofL r.t), .int .i64 r.n, .string (ofL r.d)]
theorem Rgs.two {W : World} {g : Nat} {a b : Rng} (h : Blk W g 24 (rgc a ++ rgc b).toArray) : Rgs W (some ⟨g, 0, none⟩) 2 [a, b] :=
  ⟨Nat.le_refl _, by unfold maxLen; simp, fun _ => ⟨g, 0, rfl, h.lt, fun k hk => by
    match k, hk with
    | 0, _ => exact ⟨h.cell 0, h.cell 1, h.cell 2, h.cell 3⟩
    | 1, _ => exact ⟨h.cell 4, h.cell 5, h.cell 6, h.cell 7⟩⟩⟩
def RgV (W : World) (v : Value) (ps : List Rng) : Prop := ∃ A c, v = .slice A ps.length c ∧ Rgs W A c ps
theorem RgV.new2 (W : World) (o : Obj) (a b : Rng) : RgV ((W.alloc o).alloc (.cells (rgc a ++ rgc b).toArray 24)) (.slice (some ⟨W.heap.size + 1, 0, none⟩) 2 2) [a, b] := by
  have h := Blk.new (W.alloc o) 24 (rgc a ++ rgc b).toArray
  rw [asz] at h
  exact ⟨_, 2, rfl, Rgs.two h⟩
def RcV (W : World) (v : Value) (l : List Rec) : Prop := ∃ A c, v = .slice A l.length c ∧ Rcs W A c l
theorem RgV.below {W W' : World} {v : Value} {ps : List Rng} (h : RgV W v ps) (hb : Below W.heap.size W W') : RgV W' v ps := by
  obtain ⟨A, c, e, k⟩ := h
  exact ⟨A, c, e, k.below hb⟩
theorem RcV.below {W W' : World} {v : Value} {l : List Rec} (h : RcV W v l) (hb : Below W.heap.size W W') : RcV W' v l := by
  obtain ⟨A, c, e, k⟩ := h
  exact ⟨A, c, e, k.below hb⟩
/-- what Answer answers: the parts, the records -/
def prts (l : List Rec) (r : Rng) : List Rng :=
  if agr Hd l r then [] else if (inn l r.f r.t).length ≤ 4 then [] else [sm Hd l r.f (mid (inn l r.f r.t)), sm Hd l (mid (inn l r.f r.t)) r.t]
def recs (l : List Rec) (r : Rng) : List Rec := if agr Hd l r then [] else if (inn l r.f r.t).length ≤ 4 then inn l r.f r.t else []
def AnsP (w : World) (l : List Rec) (r : Rng) (e : Ending) (w' : World) : Prop :=
  ∃ P R, e = .returned (.tuple #[P, R, .bool (agr Hd l r)]) ∧ RgV w' P (prts l r) ∧ RcV w' R (recs l r) ∧ Below w.heap.size w w'
theorem RgV.nil_ (W : World) : RgV W (.slice none 0 0) [] := ⟨none, 0, rfl, Rgs.nil _ _⟩
theorem RcV.nil_ (W : World) : RcV W (.slice none 0 0) [] := ⟨none, 0, rfl, Rcs.nil_ _⟩
theorem RgV.zero_ (W : World) (g : Nat) : RgV W (.slice (some ⟨g, 0, none⟩) 0 0) [] := ⟨_, 0, rfl, Rgs.nil _ _⟩
theorem RcV.zero_ (W : World) (g : Nat) : RcV W (.slice (some ⟨g, 0, none⟩) 0 0) [] := ⟨_, 0, rfl, ⟨Nat.le_refl _, Nat.zero_le _, fun h => absurd h (by simp), (fun h => nomatch h), fun ad h => ⟨g, 0, (Option.some.inj h).symm⟩⟩⟩
theorem ans_agr {w w' : World} {l : List Rec} {r : Rng} {P R : Value} (h : agr Hd l r = true) (hp : RgV w' P []) (hr : RcV w' R []) (hb : Below w.heap.size w w') : AnsP w l r (.returned (.tuple #[P, R, .bool true])) w' := by
  refine ⟨P, R, by rw [h], ?_, ?_, hb⟩
  · unfold prts; rw [if_pos h]; exact hp
  · unfold recs; rw [if_pos h]; exact hr
theorem ans_few {w w' : World} {l : List Rec} {r : Rng} {P R : Value} (h : agr Hd l r = false) (h4 : (inn l r.f r.t).length ≤ 4) (hp : RgV w' P []) (hr : RcV w' R (inn l r.f r.t)) (hb : Below w.heap.size w w') : AnsP w l r (.returned (.tuple #[P, R, .bool false])) w' := by
  refine ⟨P, R, by rw [h], ?_, ?_, hb⟩
  · unfold prts; rw [if_neg (by rw [h]; simp), if_pos h4]; exact hp
  · unfold recs; rw [if_neg (by rw [h]; simp), if_pos h4]; exact hr
theorem ans_parts {w w' : World} {l : List Rec} {r : Rng} {P R : Value} (h : agr Hd l r = false) (h4 : ¬ (inn l r.f r.t).length ≤ 4) (hp : RgV w' P [sm Hd l r.f (mid (inn l r.f r.t)), sm Hd l (mid (inn l r.f r.t)) r.t]) (hr : RcV w' R []) (hb : Below w.heap.size w w') : AnsP w l r (.returned (.tuple #[P, R, .bool false])) w' := by
  refine ⟨P, R, by rw [h], ?_, ?_, hb⟩
  · unfold prts; rw [if_neg (by rw [h]; simp), if_neg h4]; exact hp
  · unfold recs; rw [if_neg (by rw [h]; simp), if_neg h4]; exact hr
theorem agr_yes {l : List Rec} {r : Rng} (h1 : ((inn l r.f r.t).length : Int) = r.n) (h2 : Hd (inn l r.f r.t) = r.d) : agr Hd l r = true := by simp [agr, h1, h2]
theorem agr_no1 {l : List Rec} {r : Rng} (h1 : ¬ ((inn l r.f r.t).length : Int) = r.n) : agr Hd l r = false := by simp [agr, h1]
theorem agr_no2 {l : List Rec} {r : Rng} (h2 : Hd (inn l r.f r.t) ≠ r.d) : agr Hd l r = false := by simp [agr, h2]

set_option maxRecDepth 100000 in
set_option maxHeartbeats 4000000 in
theorem answer_f (l : List Rec) (hv : ∀ x ∈ l, Val x) (hs : Srt l) (r : Rng) (w : World) (ht : Bk.Tab w) (A : Option Addr) (c : Nat) (h : Rcs w A c l) (hl : l.length ≤ 5000) :
    Calls Tryd.prog 14 #[.slice A l.length c, rgv r] w (AnsP w l r) := by
  have HS := Lib.hid (fun f t W (hb : Below w.heap.size w W) => sum_f l hv hs f t W (ht.bel hb) A c (h.below hb) hl)
  have HIN := Lib.hid (fun W (hb : Below w.heap.size w W) => within_f l hv (ofL r.f) (ofL r.t) W (ht.bel hb) A c (h.below hb) (by omega))
  have HKK := Lib.hid (fun x (hx : Val x) W (hb : Below w.heap.size w W) => key_f x hx W (ht.bel hb))
  rw [bl_ofL, bl_ofL] at HIN
  have HMID := Lib.hid (fun (k : Nat) (hk : k < (inn l r.f r.t).length) (e : k = (inn l r.f r.t).length / 2) => (show mid (inn l r.f r.t) = key (inn l r.f r.t)[k] by subst e; exact mid_eq hk))
  have HY := Lib.hid (fun h1 h2 => agr_yes (l := l) (r := r) h1 h2)
  have HN1 := Lib.hid (fun h1 => agr_no1 (l := l) (r := r) h1)
  have HN2 := Lib.hid (fun h2 => agr_no2 (l := l) (r := r) h2)
  have HP1 := Lib.hid (fun w' P R => ans_agr (w := w) (w' := w') (l := l) (r := r) (P := P) (R := R))
  have HP2 := Lib.hid (fun w' P R => ans_few (w := w) (w' := w') (l := l) (r := r) (P := P) (R := R))
  have HP3 := Lib.hid (fun w' P R => ans_parts (w := w) (w' := w') (l := l) (r := r) (P := P) (R := R))
  have HLV := Lib.hid (show ∀ x ∈ inn l r.f r.t, Val x from fun x hx => hv x (inn_mem.1 hx).1)
  have HLL := Lib.hid (show (inn l r.f r.t).length ≤ 5000 from Nat.le_trans (inn_len _ _ _) hl)
  have HSM := Lib.hid (show rgv (sm Hd l r.f r.t) = .agg #[.string (ofL r.f), .string (ofL r.t), .int .i64 ((inn l r.f r.t).length : Int), .string (ofL (Hd (inn l r.f r.t)))] from rfl)
  obtain ⟨L, hL⟩ : ∃ L, L = inn l r.f r.t := ⟨_, rfl⟩
  rw [← hL] at HIN HMID HY HN1 HN2 HP2 HP3 HLV HLL HSM
  have HQL := Lib.hid (fun f t => (show rgv (sm Hd l f t) = .agg #[.string (ofL f), .string (ofL t), .int .i64 (sm Hd l f t).n, .string (ofL (sm Hd l f t).d)] from rfl))
  obtain ⟨n, hn⟩ : ∃ n, n = l.length := ⟨_, rfl⟩
  rw [← hn] at HS HIN ⊢
  clear hn hL h hv hs ht
  obtain ⟨rf, hrf⟩ : ∃ x, x = r.f := ⟨_, rfl⟩
  obtain ⟨rt, hrt⟩ : ∃ x, x = r.t := ⟨_, rfl⟩
  show Calls Tryd.prog 14 #[.slice A n c, .agg #[.string (ofL r.f), .string (ofL r.t), .int .i64 r.n, .string (ofL r.d)]] w _
  rw [← hrf, ← hrt] at HSM HIN HP3 ⊢
  clear hrf hrt
  have HS0 := Lib.hid (HS.out rf rt)
  go_enter Tryd.func14, Tryd.ntmps14
  go_wp2_with fail
  have HX := Lib.hid (Blk.new w 24 #[.string (ofL rf), .string (ofL rt), .int .i64 r.n, .string (ofL r.d)])
  have HB := Lib.hid ((Below.refl _ w).alloc (Nat.le_refl _) (.cells #[.string (ofL rf), .string (ofL rt), .int .i64 r.n, .string (ofL r.d)] 24))
  refine (HS0.out _ HB.out).mono ?_
  rintro e w1 ⟨rfl, hb⟩
  rw [HSM.out]
  have HX1 := Lib.hid (HX.out.below hb)
  have HB1 := Lib.hid (HB.out.trans (hb.mono HB.out.size))
  clear hb HX HB
  have HX2 := Lib.hid (HX1.out.alloc (.cells #[.string (ofL rf), .string (ofL rt), .int .i64 (L.length : Int), .string (ofL (Hd L))] 24))
  have HB2 := Lib.hid (HB1.out.alloc HB1.out.size (.cells #[.string (ofL rf), .string (ofL rt), .int .i64 (L.length : Int), .string (ofL (Hd L))] 24))
  have c0 : w1.cell? ⟨w.heap.size, 0, none⟩ = some (.string (ofL rf)) := HX1.out.cell 0
  have c1 : w1.cell? ⟨w.heap.size, 1, none⟩ = some (.string (ofL rt)) := HX1.out.cell 1
  have c2 : w1.cell? ⟨w.heap.size, 2, none⟩ = some (.int .i64 r.n) := HX1.out.cell 2
  have c3 : w1.cell? ⟨w.heap.size, 3, none⟩ = some (.string (ofL r.d)) := HX1.out.cell 3
  have e0 := HX2.out.cell 0
  have e1 := HX2.out.cell 1
  have e2 := HX2.out.cell 2
  have e3 := HX2.out.cell 3
  simp only [List.getElem?_toArray, List.getElem?_cons_zero, List.getElem?_cons_succ] at e0 e1 e2 e3
  by_cases q1 : (L.length : Int) = r.n
  · have f1 : ((L.length : Int) == r.n) = true := by rw [q1]; simp
    by_cases q2 : Hd L = r.d
    · have f2 : ((ofL (Hd L)).toList == (ofL r.d).toList) = true := by rw [q2]; simp
      have f3 : (ofL (Hd L)).toList = (ofL r.d).toList := by rw [q2]
      have HA := Lib.hid (HY.out q1 q2)
      clear q1 q2
      go_wp2_with fail
      go_ret3
      exact HP1.out _ _ _ HA.out (RgV.nil_ _) (RcV.nil_ _) HB2.out
    · have f2 := tl_neq q2
      have f3 := tl_neq' q2
      have HA := Lib.hid (HN2.out q2)
      clear q1 q2
      go_wp2_with fail
      refine (HIN.out _ HB2.out).mono ?_
      rintro e w3 ho
      obtain ⟨R, cr, rfl, hR, hb⟩ := ho.rcs
      have HX3 := Lib.hid (HX2.out.below hb)
      have HB3 := Lib.hid (HB2.out.trans (hb.mono HB2.out.size))
      have HRR := Lib.hid hR
      have hcr := hR.le
      have hcm : cr ≤ 9223372036854775807 := hR.max
      clear hb ho hR c0 c1 c2 c3 e0 e1 e2 e3
      by_cases h4 : L.length ≤ 4
      · have h4I : (L.length : Int) ≤ 4 := by omega
        go_wp2_with fail
        go_ret3
        exact HP2.out _ _ _ HA.out h4 (RgV.nil_ _) ⟨R, cr, rfl, HRR.out⟩ HB3.out
      · have h4I : ¬ (L.length : Int) ≤ 4 := by omega
        obtain ⟨m, hm⟩ : ∃ m, m = L.length / 2 := ⟨_, rfl⟩
        have hml : m < L.length := by omega
        have hmlI : (m : Int) < (L.length : Int) := by omega
        have hm0I : (0 : Int) ≤ (m : Int) := by omega
        have v5 : (L.length : Int) / 2 = (m : Int) := by omega
        have v6 : Int.tdiv (L.length : Int) 2 = (m : Int) := by rw [Int.tdiv_eq_ediv_of_nonneg (by omega)]; exact v5
        have v4 : IntKind.i64.wrap (m : Int) = (m : Int) := IntWalk.i64_in _ (by have := HLL.out; omega)
        have HM := Lib.hid (HMID.out m hml hm)
        obtain ⟨g, o, rfl, hat⟩ := HRR.out.mem (by omega)
        obtain ⟨d0, d1, d2⟩ := hat.2 m hml
        have HKX := Lib.hid (HKK.out L[m] (HLV.out _ (List.getElem_mem hml)))
        obtain ⟨x, hx⟩ : ∃ x, L[m] = x := ⟨_, rfl⟩
        rw [hx] at d0 d1 d2 HKX HM
        clear hat hx hm
        unfold rv at HKX
        go_wp2_with fail
        refine (HKX.out _ HB3.out).mono ?_
        rintro e w4 ⟨rfl, hb⟩
        rw [← HM.out]
        have HX4 := Lib.hid (HX3.out.below hb)
        have HB4 := Lib.hid (HB3.out.trans (hb.mono HB3.out.size))
        clear hb d0 d1 d2 HKX
        obtain ⟨km, hkm⟩ : ∃ z, z = mid L := ⟨_, rfl⟩
        rw [← hkm] at HP3 ⊢
        clear hkm HM
        have HSA := Lib.hid (HS.out rf km)
        have HSB := Lib.hid (HS.out km rt)
        obtain ⟨pa, hpa⟩ : ∃ p, p = sm Hd l rf km := ⟨_, rfl⟩
        obtain ⟨pb, hpb⟩ : ∃ p, p = sm Hd l km rt := ⟨_, rfl⟩
        rw [← hpa] at HSA HP3
        rw [← hpb] at HSB HP3
        clear hpa hpb
        have HVA := Lib.hid (show rgv pa = .agg #[.string (ofL pa.f), .string (ofL pa.t), .int .i64 pa.n, .string (ofL pa.d)] from rfl)
        have HVB := Lib.hid (show rgv pb = .agg #[.string (ofL pb.f), .string (ofL pb.t), .int .i64 pb.n, .string (ofL pb.d)] from rfl)
        rw [HVA.out] at HSA
        rw [HVB.out] at HSB
        have HXd := Lib.hid HX4.out.drew
        have HBd := Lib.hid (show Below w.heap.size w w4.drew from below_drewN HB4.out 1)
        have HXe := Lib.hid (fun o => HXd.out.alloc o)
        have HBe := Lib.hid (fun o => HBd.out.alloc HBd.out.size o)
        go_wp2_with fail
        go_region_held3 (fun V => V.cell? ⟨w.heap.size, 0, none⟩ = some (.string (ofL rf)) ∧ V.cell? ⟨w.heap.size, 1, none⟩ = some (.string (ofL rt)))
          (first | exact ⟨(HXd.out).cell 0, (HXd.out).cell 1⟩ | exact ⟨(HXe.out _).cell 0, (HXe.out _).cell 1⟩ | exact ⟨(HX5.out).cell 0, (HX5.out).cell 1⟩ | exact ⟨(HX5e.out _).cell 0, (HX5e.out _).cell 1⟩ | exact ⟨(HX6.out).cell 0, (HX6.out).cell 1⟩ | exact ⟨(HX6.out.alloc _).cell 0, (HX6.out.alloc _).cell 1⟩ | exact ⟨((HX6.out.alloc _).alloc _).cell 0, ((HX6.out.alloc _).alloc _).cell 1⟩)
          (first
            | (go_at_call 34; (with_reducible refine (HSA.out _ ?_).mono ?_); (first | exact HBd.out | exact HBe.out _); rintro e w5 ⟨rfl, hb5⟩
               have HX5 := Lib.hid (show Blk w5 w.heap.size 24 _ from by first | exact HXd.out.below hb5 | exact (HXe.out _).below hb5)
               have HB5 := Lib.hid (show Below w.heap.size w w5 from by first | exact HBd.out.trans (hb5.mono HBd.out.size) | exact (HBe.out _).trans (hb5.mono (HBe.out _).size))
               have HX5e := Lib.hid (fun o => HX5.out.alloc o)
               have HB5e := Lib.hid (fun o => HB5.out.alloc HB5.out.size o)
               clear hb5)
            | (go_at_call 34; (with_reducible refine (HSB.out _ ?_).mono ?_); (first | exact HB5.out | exact HB5e.out _); rintro e w6 ⟨rfl, hb6⟩
               have HX6 := Lib.hid (show Blk w6 w.heap.size 24 _ from by first | exact HX5.out.below hb6 | exact (HX5e.out _).below hb6)
               have HB6 := Lib.hid (show Below w.heap.size w w6 from by first | exact HB5.out.trans (hb6.mono HB5.out.size) | exact (HB5e.out _).trans (hb6.mono (HB5e.out _).size))
               clear hb6))
        all_goals go_wp2_with fail
        all_goals go_ret3
        all_goals (refine HP3.out _ _ _ HA.out h4 ?_ (RcV.nil_ _) ?_)
        all_goals first
          | exact ⟨_, 2, rfl, Rgs.two (Blk.new w6 _ _)⟩
          | exact ⟨_, 2, rfl, Rgs.two ((Blk.new w6 _ _).alloc _)⟩
          | exact RgV.new2 w6 _ _ _
          | exact HB6.out.alloc HB6.out.size _
          | exact (HB6.out.alloc HB6.out.size _).alloc (HB6.out.alloc HB6.out.size _).size _
  · have f1 : ((L.length : Int) == r.n) = false := by simpa using q1
    have f2 : ¬ (L.length : Int) = r.n := q1
    have HA := Lib.hid (HN1.out q1)
    clear q1
    go_wp2_with fail
    refine (HIN.out _ HB2.out).mono ?_
    rintro e w3 ho
    obtain ⟨R, cr, rfl, hR, hb⟩ := ho.rcs
    have HX3 := Lib.hid (HX2.out.below hb)
    have HB3 := Lib.hid (HB2.out.trans (hb.mono HB2.out.size))
    have HRR := Lib.hid hR
    have hcr := hR.le
    have hcm : cr ≤ 9223372036854775807 := hR.max
    clear hb ho hR c0 c1 c2 c3 e0 e1 e2 e3
    by_cases h4 : L.length ≤ 4
    · have h4I : (L.length : Int) ≤ 4 := by omega
      go_wp2_with fail
      go_ret3
      exact HP2.out _ _ _ HA.out h4 (RgV.nil_ _) ⟨R, cr, rfl, HRR.out⟩ HB3.out
    · have h4I : ¬ (L.length : Int) ≤ 4 := by omega
      obtain ⟨m, hm⟩ : ∃ m, m = L.length / 2 := ⟨_, rfl⟩
      have hml : m < L.length := by omega
      have hmlI : (m : Int) < (L.length : Int) := by omega
      have hm0I : (0 : Int) ≤ (m : Int) := by omega
      have v5 : (L.length : Int) / 2 = (m : Int) := by omega
      have v6 : Int.tdiv (L.length : Int) 2 = (m : Int) := by rw [Int.tdiv_eq_ediv_of_nonneg (by omega)]; exact v5
      have v4 : IntKind.i64.wrap (m : Int) = (m : Int) := IntWalk.i64_in _ (by have := HLL.out; omega)
      have HM := Lib.hid (HMID.out m hml hm)
      obtain ⟨g, o, rfl, hat⟩ := HRR.out.mem (by omega)
      obtain ⟨d0, d1, d2⟩ := hat.2 m hml
      have HKX := Lib.hid (HKK.out L[m] (HLV.out _ (List.getElem_mem hml)))
      obtain ⟨x, hx⟩ : ∃ x, L[m] = x := ⟨_, rfl⟩
      rw [hx] at d0 d1 d2 HKX HM
      clear hat hx hm
      unfold rv at HKX
      go_wp2_with fail
      refine (HKX.out _ HB3.out).mono ?_
      rintro e w4 ⟨rfl, hb⟩
      rw [← HM.out]
      have HX4 := Lib.hid (HX3.out.below hb)
      have HB4 := Lib.hid (HB3.out.trans (hb.mono HB3.out.size))
      clear hb d0 d1 d2 HKX
      obtain ⟨km, hkm⟩ : ∃ z, z = mid L := ⟨_, rfl⟩
      rw [← hkm] at HP3 ⊢
      clear hkm HM
      have HSA := Lib.hid (HS.out rf km)
      have HSB := Lib.hid (HS.out km rt)
      obtain ⟨pa, hpa⟩ : ∃ p, p = sm Hd l rf km := ⟨_, rfl⟩
      obtain ⟨pb, hpb⟩ : ∃ p, p = sm Hd l km rt := ⟨_, rfl⟩
      rw [← hpa] at HSA HP3
      rw [← hpb] at HSB HP3
      clear hpa hpb
      have HVA := Lib.hid (show rgv pa = .agg #[.string (ofL pa.f), .string (ofL pa.t), .int .i64 pa.n, .string (ofL pa.d)] from rfl)
      have HVB := Lib.hid (show rgv pb = .agg #[.string (ofL pb.f), .string (ofL pb.t), .int .i64 pb.n, .string (ofL pb.d)] from rfl)
      rw [HVA.out] at HSA
      rw [HVB.out] at HSB
      have HXd := Lib.hid HX4.out.drew
      have HBd := Lib.hid (show Below w.heap.size w w4.drew from below_drewN HB4.out 1)
      have HXe := Lib.hid (fun o => HXd.out.alloc o)
      have HBe := Lib.hid (fun o => HBd.out.alloc HBd.out.size o)
      go_wp2_with fail
      go_region_held3 (fun V => V.cell? ⟨w.heap.size, 0, none⟩ = some (.string (ofL rf)) ∧ V.cell? ⟨w.heap.size, 1, none⟩ = some (.string (ofL rt)))
        (first | exact ⟨(HXd.out).cell 0, (HXd.out).cell 1⟩ | exact ⟨(HXe.out _).cell 0, (HXe.out _).cell 1⟩ | exact ⟨(HX5.out).cell 0, (HX5.out).cell 1⟩ | exact ⟨(HX5e.out _).cell 0, (HX5e.out _).cell 1⟩ | exact ⟨(HX6.out).cell 0, (HX6.out).cell 1⟩ | exact ⟨(HX6.out.alloc _).cell 0, (HX6.out.alloc _).cell 1⟩ | exact ⟨((HX6.out.alloc _).alloc _).cell 0, ((HX6.out.alloc _).alloc _).cell 1⟩)
        (first
          | (go_at_call 34; (with_reducible refine (HSA.out _ ?_).mono ?_); (first | exact HBd.out | exact HBe.out _); rintro e w5 ⟨rfl, hb5⟩
             have HX5 := Lib.hid (show Blk w5 w.heap.size 24 _ from by first | exact HXd.out.below hb5 | exact (HXe.out _).below hb5)
             have HB5 := Lib.hid (show Below w.heap.size w w5 from by first | exact HBd.out.trans (hb5.mono HBd.out.size) | exact (HBe.out _).trans (hb5.mono (HBe.out _).size))
             have HX5e := Lib.hid (fun o => HX5.out.alloc o)
             have HB5e := Lib.hid (fun o => HB5.out.alloc HB5.out.size o)
             clear hb5)
          | (go_at_call 34; (with_reducible refine (HSB.out _ ?_).mono ?_); (first | exact HB5.out | exact HB5e.out _); rintro e w6 ⟨rfl, hb6⟩
             have HX6 := Lib.hid (show Blk w6 w.heap.size 24 _ from by first | exact HX5.out.below hb6 | exact (HX5e.out _).below hb6)
             have HB6 := Lib.hid (show Below w.heap.size w w6 from by first | exact HB5.out.trans (hb6.mono HB5.out.size) | exact (HB5e.out _).trans (hb6.mono (HB5e.out _).size))
             clear hb6))
      all_goals go_wp2_with fail
      all_goals go_ret3
      all_goals (refine HP3.out _ _ _ HA.out h4 ?_ (RcV.nil_ _) ?_)
      all_goals first
        | exact ⟨_, 2, rfl, Rgs.two (Blk.new w6 _ _)⟩
        | exact ⟨_, 2, rfl, Rgs.two ((Blk.new w6 _ _).alloc _)⟩
        | exact RgV.new2 w6 _ _ _
        | exact HB6.out.alloc HB6.out.size _
        | exact (HB6.out.alloc HB6.out.size _).alloc (HB6.out.alloc HB6.out.size _).size _
end Rc
end Go.Proofs.YtnllocghmnhooaaDoor
