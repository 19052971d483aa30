/- The core of the law ReconcileAnswer: it returns true. -/
import Derived.Test.YtnllocghmnhooaaDoorVd
import Derived.Test.YtnllocghmnhooaaDoorUp
namespace Go.Proofs.YtnllocghmnhooaaDoor
open Go.RowKit
set_option linter.unusedVariables false
set_option linter.unusedSimpArgs false
namespace ReconcileAnswer
open Rc
open Bk (bl bl_len bl_ofL ofL_bl ofL_size ofL_append)
theorem rgs_three {W : World} {g : Nat} {a b c : Rng} (h : Blk W g 24 (rgc a ++ rgc b ++ rgc c).toArray) : Rgs W (some ⟨g, 0, none⟩) 3 [a, b, c] :=
  ⟨Nat.le_refl _, by unfold maxLen; simp, fun _ => ⟨g, 0, rfl, h.lt, fun k hk => by
    match k, hk with
    | 0, _ => exact ⟨h.cell 0, h.cell 1, h.cell 2, h.cell 3⟩
    | 1, _ => exact ⟨h.cell 4, h.cell 5, h.cell 6, h.cell 7⟩
    | 2, _ => exact ⟨h.cell 8, h.cell 9, h.cell 10, h.cell 11⟩⟩⟩
theorem prts_len (l : List Rec) (r : Rng) : (prts l r).length ≤ 100000 := by
  unfold prts
  split
  · simp
  · split
    · simp
    · simp
theorem recs_len (l : List Rec) (r : Rng) (h : l.length ≤ 100000) : (recs l r).length ≤ 100000 := by
  unfold recs
  split
  · simp
  · split
    · exact Nat.le_trans (inn_len _ _ _) h
    · simp
set_option maxRecDepth 100000 in
set_option maxHeartbeats 4000000 in
theorem core (w : World) (ht : Bk.Tab w) (A : Option Addr) (c : Nat) (l : List Itm) (h : Its w A c l) (hla : ∀ i ∈ l, i.a < 256 ∧ i.s < 256 ∧ i.w < 256) (r : Rng) :
    Calls Tryd.prog 3 #[.slice A l.length c, rgv r] w fun e w' => e = .returned (.bool true) ∧ Below w.heap.size w w' := by
  have HAW := Lib.hid (fun W (k : Below w.heap.size w W) => awake_f W (ht.bel k))
  by_cases hl : l.length ≤ 60
  · have HLI := Lib.hid (fun W (k : Below w.heap.size w W) => lists_f l hla W A c (h.below k) hl)
    obtain ⟨s1, s2, l1, l2⟩ := lf hl
    have hU := us_val l
    have hUl := us_small hl
    have hcn := count_ok s1 s2 l1 l2 hUl 200
    have hfu := fuel_ok s1 s2 l1 l2 (sm Hd (lsts l).1 [] [])
    obtain ⟨U, hUe⟩ : ∃ U, U = Us l := ⟨_, rfl⟩
    obtain ⟨a, hae⟩ : ∃ a, a = (lsts l).1 := ⟨_, rfl⟩
    obtain ⟨b, hbe⟩ : ∃ b, b = (lsts l).2 := ⟨_, rfl⟩
    rw [← hUe] at s1 s2 hU hUl
    rw [← hae] at HLI s1 l1 hcn hfu
    rw [← hbe] at HLI s2 l2 hcn hfu
    clear hUe hae hbe
    have hva : ∀ z ∈ a, Val z := fun z hz => hU z (s1.mem z hz)
    have hvb : ∀ z ∈ b, Val z := fun z hz => hU z (s2.mem z hz)
    have HS0 := Lib.hid (fun W B cb (hb : Rcs W B cb b) => rsum_f b hvb r.f r.t W B cb hb (by omega))
    have HS1 := Lib.hid (fun W A ca (ha : Rcs W A ca a) => rsum_f a hva r.f r.t W A ca ha (by omega))
    have HAN := Lib.hid (fun s W (k : Below w.heap.size w W) A ca (ha : Rcs W A ca a) => answer_f a hva s1.srt s W (ht.bel k) A ca ha (by omega))
    have HRN := Lib.hid (fun s W A ca (ha : Rcs W A ca a) => ranswer_f a hva s W A ca ha (by omega))
    have HPL := Lib.hid (fun s => prts_len a s)
    have HRL := Lib.hid (fun s => recs_len a s (by omega))
    have HSR := Lib.hid (fun L (h : L.length ≤ 100000) W A B ca cb (k : Rgs W A ca L) (j : Rgs W B cb L) => samer_f L W A B ca cb k j h)
    have HSA := Lib.hid (fun L (h : L.length ≤ 100000) W A B ca cb (k : Rcs W A ca L) (j : Rcs W B cb L) => same_f L W A B ca cb k j h)
    obtain ⟨sb, hsb⟩ : ∃ g, g = sm Hd b r.f r.t := ⟨_, rfl⟩
    obtain ⟨sa, hsa⟩ : ∃ g, g = sm Hd a r.f r.t := ⟨_, rfl⟩
    rw [← hsb] at HS0
    rw [← hsa] at HS1
    have z0 : (ofL r.f).size = r.f.length := ofL_size _
    have z1 : (ofL r.t).size = r.t.length := ofL_size _
    have z2 : (ofL r.d).size = r.d.length := ofL_size _
    unfold rgv at HS0 HS1 HAN HRN ⊢
    clear hcn hfu hva hvb s1 s2 hU hUl ht h hla hl l1 l2 hsa hsb
    go_enter Tryd.func3, Tryd.ntmps3
    have HX0 := Lib.hid (Blk.new w 24 #[.string (ofL r.f), .string (ofL r.t), .int .i64 r.n, .string (ofL r.d)])
    have HB0 := Lib.hid ((Below.refl w.heap.size w).alloc (Nat.le_refl _) (.cells #[.string (ofL r.f), .string (ofL r.t), .int .i64 r.n, .string (ofL r.d)] 24))
    go_wp2_with fail
    refine (HLI.out _ HB0.out).mono ?_
    rintro e w1 ⟨_, _, rfl, ⟨A1, c1, rfl, ha⟩, ⟨A2, c2, rfl, hb⟩, hb1⟩
    have HA1 := Lib.hid ha
    have HB1' := Lib.hid hb
    have HX1 := Lib.hid (HX0.out.below hb1)
    have HB1 := Lib.hid (HB0.out.trans (hb1.mono HB0.out.size))
    clear hb1 ha hb HX0 HB0
    have k0 : w1.cell? ⟨w.heap.size, 0, none⟩ = some (.string (ofL r.f)) := HX1.out.cell 0
    have k1 : w1.cell? ⟨w.heap.size, 1, none⟩ = some (.string (ofL r.t)) := HX1.out.cell 1
    have k2 : w1.cell? ⟨w.heap.size, 2, none⟩ = some (.int .i64 r.n) := HX1.out.cell 2
    have k3 : w1.cell? ⟨w.heap.size, 3, none⟩ = some (.string (ofL r.d)) := HX1.out.cell 3
    by_cases q0 : 20 < (ofL r.f).size
    · have p0 : (20 : Int) < ((ofL r.f).size : Int) := by omega
      clear q0
      go_wp2_with fail
      refine (HAW.out _ HB1.out).mono ?_
      rintro e w9 ⟨rfl, hb9⟩
      have HB9 := Lib.hid (HB1.out.trans (hb9.mono HB1.out.size))
      clear hb9
      go_wp2_with fail
      go_ret
      exact ⟨rfl, HB9.out⟩
    · have p0 : ¬ (20 : Int) < ((ofL r.f).size : Int) := by omega
      by_cases q1 : 20 < (ofL r.t).size
      · have p1 : (20 : Int) < ((ofL r.t).size : Int) := by omega
        clear q0 q1
        go_wp2_with fail
        refine (HAW.out _ HB1.out).mono ?_
        rintro e w9 ⟨rfl, hb9⟩
        have HB9 := Lib.hid (HB1.out.trans (hb9.mono HB1.out.size))
        clear hb9
        go_wp2_with fail
        go_ret
        exact ⟨rfl, HB9.out⟩
      · have p1 : ¬ (20 : Int) < ((ofL r.t).size : Int) := by omega
        by_cases q2 : 40 < (ofL r.d).size
        · have p2 : (40 : Int) < ((ofL r.d).size : Int) := by omega
          clear q0 q1 q2
          go_wp2_with fail
          refine (HAW.out _ HB1.out).mono ?_
          rintro e w9 ⟨rfl, hb9⟩
          have HB9 := Lib.hid (HB1.out.trans (hb9.mono HB1.out.size))
          clear hb9
          go_wp2_with fail
          go_ret
          exact ⟨rfl, HB9.out⟩
        · have p2 : ¬ (40 : Int) < ((ofL r.d).size : Int) := by omega
          clear q0 q1 q2
          go_wp2_with fail
          refine (HS0.out _ _ _ HB1'.out).mono ?_
          rintro e w2 ⟨rfl, hb2⟩
          have HA2 := Lib.hid (HA1.out.below hb2)
          have HX2 := Lib.hid (HX1.out.below hb2)
          have HB2 := Lib.hid (HB1.out.trans (hb2.mono HB1.out.size))
          clear hb2 k0 k1 k2 k3 p0 p1 p2 z0 z1 z2
          have ha3 := HA2.out.below ((Below.refl w2.heap.size w2).alloc (Nat.le_refl _) (.cells (rgc sb).toArray 24))
          have hx3 := HX2.out.alloc (.cells (rgc sb).toArray 24)
          have ho3 := Blk.new w2 24 (rgc sb).toArray
          have hb3 := HB2.out.alloc HB2.out.size (.cells (rgc sb).toArray 24)
          go_wp2_with fail
          obtain ⟨W3, hW3⟩ : ∃ V, V = w2.alloc (.cells #[.string (ofL sb.f), .string (ofL sb.t), .int .i64 sb.n, .string (ofL sb.d)] 24) := ⟨_, rfl⟩
          obtain ⟨go, hgo⟩ : ∃ g, g = w2.heap.size := ⟨_, rfl⟩
          have HA5 := Lib.hid (show Rcs W3.drew A1 c1 a by rw [hW3]; exact ha3.drewN 1)
          have HX5 := Lib.hid (show Blk W3.drew w.heap.size 24 #[.string (ofL r.f), .string (ofL r.t), .int .i64 r.n, .string (ofL r.d)] by rw [hW3]; exact hx3)
          have HO5 := Lib.hid (show Blk W3.drew go 24 (rgc sb).toArray by rw [hW3, hgo]; exact ho3)
          have HB5 := Lib.hid (show Below w.heap.size w W3.drew by rw [hW3]; exact below_drewN hb3 1)
          rw [← hW3, ← hgo]
          clear hW3 hgo ha3 hx3 ho3 hb3 HA2 HX2 HB2 HX1 HA1 HB1 HB1'
          go_region_held3 (fun V => V.cell? ⟨w.heap.size, 0, none⟩ = some (.string (ofL r.f)) ∧ V.cell? ⟨w.heap.size, 1, none⟩ = some (.string (ofL r.t)) ∧ V.cell? ⟨w.heap.size, 2, none⟩ = some (.int .i64 r.n) ∧ V.cell? ⟨w.heap.size, 3, none⟩ = some (.string (ofL r.d)) ∧ V.cell? ⟨go, 0, none⟩ = some (.string (ofL sb.f)) ∧ V.cell? ⟨go, 1, none⟩ = some (.string (ofL sb.t)) ∧ V.cell? ⟨go, 2, none⟩ = some (.int .i64 sb.n) ∧ V.cell? ⟨go, 3, none⟩ = some (.string (ofL sb.d)))
            (first | exact ⟨(HX5.out).cell 0, (HX5.out).cell 1, (HX5.out).cell 2, (HX5.out).cell 3, (HO5.out).cell 0, (HO5.out).cell 1, (HO5.out).cell 2, (HO5.out).cell 3⟩ | exact ⟨(HX6.out).cell 0, (HX6.out).cell 1, (HX6.out).cell 2, (HX6.out).cell 3, (HO6.out).cell 0, (HO6.out).cell 1, (HO6.out).cell 2, (HO6.out).cell 3⟩ | exact ⟨(HX6.out.alloc _).cell 0, (HX6.out.alloc _).cell 1, (HX6.out.alloc _).cell 2, (HX6.out.alloc _).cell 3, (HO6.out.alloc _).cell 0, (HO6.out.alloc _).cell 1, (HO6.out.alloc _).cell 2, (HO6.out.alloc _).cell 3⟩)
            (first
              | (go_at_call 13; (with_reducible refine (HS1.out _ _ _ HA5.out).mono ?_); rintro e w6 ⟨rfl, hb6⟩; have HA6 := Lib.hid (HA5.out.below hb6); have HX6 := Lib.hid (HX5.out.below hb6); have HO6 := Lib.hid (HO5.out.below hb6); have HB6 := Lib.hid (HB5.out.trans (hb6.mono HB5.out.size)); clear hb6))
          have HP7 := Lib.hid (rgs_three (Blk.new w6 24 (rgc r ++ rgc sb ++ rgc sa).toArray))
          have HA7 := Lib.hid (HA6.out.below ((Below.refl w6.heap.size w6).alloc (Nat.le_refl _) (.cells (rgc r ++ rgc sb ++ rgc sa).toArray 24)))
          have HB7 := Lib.hid (HB6.out.alloc HB6.out.size (.cells (rgc r ++ rgc sb ++ rgc sa).toArray 24))
          obtain ⟨w7, hw7⟩ : ∃ V, V = w6.alloc (.cells #[.string (ofL r.f), .string (ofL r.t), .int .i64 r.n, .string (ofL r.d), .string (ofL sb.f), .string (ofL sb.t), .int .i64 sb.n, .string (ofL sb.d), .string (ofL sa.f), .string (ofL sa.t), .int .i64 sa.n, .string (ofL sa.d)] 24) := ⟨_, rfl⟩
          have HP8 := Lib.hid (fun W (k : Below w7.heap.size w7 W) => (show Rgs W (some ⟨w6.heap.size, 0, none⟩) 3 [r, sb, sa] by rw [hw7] at k; exact HP7.out.below k))
          have HA8 := Lib.hid (fun W (k : Below w7.heap.size w7 W) => (show Rcs W A1 c1 a by rw [hw7] at k; exact HA7.out.below k))
          have HB8 := Lib.hid (show Below w.heap.size w w7 by rw [hw7]; exact HB7.out)
          obtain ⟨gp, hgp⟩ : ∃ g, g = w6.heap.size := ⟨_, rfl⟩
          go_wp2_with fail
          rw [← hw7]
          rw [← hgp] at HP8 ⊢
          obtain ⟨ps, hps⟩ : ∃ ps, ps = [r, sb, sa] := ⟨_, rfl⟩
          have HPN := Lib.hid (show ps.length = 3 by rw [hps]; rfl)
          rw [← hps] at HP8
          clear hps hw7 hgp HP7 HA7 HB7 HA5 HA6 HX5 HX6 HO5 HO6 HB5 HB6
          go_loopw [60] (fun x W => ∃ k : Nat, k ≤ 3 ∧ x = .int .i64 (k : Int) ∧ Hid (Below w7.heap.size w7 W)) (fun x _ => 3 - (intOf x).toNat)
          case atStart => exact ⟨0, by omega, rfl, Lib.hid (Below.refl _ _)⟩
          case round =>
            obtain ⟨k, hk, rfl, HB⟩ := hrel
            by_cases hk3 : k < 3
            · have hkp : k < ps.length := by rw [HPN.out]; exact hk3
              have hk3I : (k : Int) < 3 := by omega
              obtain ⟨g, o, he, _, hat⟩ := (HP8.out _ HB.out).mem (by rw [HPN.out]; omega)
              injection he with he
              injection he with he1 he2 he3
              subst he1
              subst he2
              clear he3
              obtain ⟨d0, d1, d2, d3⟩ := hat k hkp
              rw [Nat.zero_add] at d0 d1 d2 d3
              obtain ⟨s, hs⟩ : ∃ s, ps[k] = s := ⟨_, rfl⟩
              rw [hs] at d0 d1 d2 d3
              have HAs := Lib.hid (HAN.out s)
              have HRs := Lib.hid (HRN.out s)
              have HPs := Lib.hid (HPL.out s)
              have HLs := Lib.hid (HRL.out s)
              obtain ⟨q, hq⟩ : ∃ q, q = agr Hd a s := ⟨_, rfl⟩
              have HQ := Lib.hid hq
              clear hat hs hq
              have f1 : (q != q) = false := by simp
              have HXa := Lib.hid (Blk.new wr 24 (rgc s).toArray)
              have HBa := Lib.hid (HB.out.alloc HB.out.size (.cells (rgc s).toArray 24))
              go_wp2_with fail
              refine (HAs.out _ (HB8.out.trans (HBa.out.mono HB8.out.size)) _ _ (HA8.out _ HBa.out)).mono ?_
              rintro e w8 ⟨_, _, rfl, ⟨P1, p1, rfl, hp⟩, ⟨R1, r1, rfl, hr⟩, hb8⟩
              rw [← HQ.out]
              have HP1 := Lib.hid hp
              have HR1 := Lib.hid hr
              have HX8 := Lib.hid (HXa.out.below hb8)
              have HB9 := Lib.hid (HBa.out.trans (hb8.mono HBa.out.size))
              clear hp hr hb8 d0 d1 d2 d3
              have e0 : w8.cell? ⟨wr.heap.size, 0, none⟩ = some (.string (ofL s.f)) := HX8.out.cell 0
              have e1 : w8.cell? ⟨wr.heap.size, 1, none⟩ = some (.string (ofL s.t)) := HX8.out.cell 1
              have e2 : w8.cell? ⟨wr.heap.size, 2, none⟩ = some (.int .i64 s.n) := HX8.out.cell 2
              have e3 : w8.cell? ⟨wr.heap.size, 3, none⟩ = some (.string (ofL s.d)) := HX8.out.cell 3
              go_wp2_with fail
              refine (HRs.out _ _ _ (HA8.out _ HB9.out)).mono ?_
              rintro e w10 ⟨_, _, rfl, ⟨P2, p2, rfl, hp⟩, ⟨R2, r2, rfl, hr⟩, hb10⟩
              rw [← HQ.out]
              have HP2 := Lib.hid hp
              have HR2 := Lib.hid hr
              have HP1b := Lib.hid (HP1.out.below hb10)
              have HR1b := Lib.hid (HR1.out.below hb10)
              have HB10 := Lib.hid (HB9.out.trans (hb10.mono HB9.out.size))
              clear hp hr hb10 e0 e1 e2 e3
              go_wp2_with fail
              refine (HSR.out _ HPs.out _ _ _ _ _ HP1b.out HP2.out).mono ?_
              rintro e w11 ⟨rfl, hb11⟩
              have HR1c := Lib.hid (HR1b.out.below hb11)
              have HR2c := Lib.hid (HR2.out.below hb11)
              have HB11 := Lib.hid (HB10.out.trans (hb11.mono HB10.out.size))
              clear hb11
              go_wp2_with fail
              refine (HSA.out _ HLs.out _ _ _ _ _ HR1c.out HR2c.out).mono ?_
              rintro e w12 ⟨rfl, hb12⟩
              have HB12 := Lib.hid (HB11.out.trans (hb12.mono HB11.out.size))
              clear hb12
              go_wp2_with fail
              go_roundw
              case rel => exact ⟨k + 1, by omega, by go_num, HB12⟩
              case measure => simp [intOf]; omega
            · obtain rfl : k = 3 := by omega
              go_wp2_with fail
              refine (HAW.out _ (HB8.out.trans (HB.out.mono HB8.out.size))).mono ?_
              rintro e w9 ⟨rfl, hb9⟩
              have HB9 := Lib.hid ((HB8.out.trans (HB.out.mono HB8.out.size)).trans (hb9.mono (HB8.out.trans (HB.out.mono HB8.out.size)).size))
              clear hb9
              go_wp2_with fail
              go_ret
              exact ⟨rfl, HB9.out⟩
  · have HLI := Lib.hid (fun W => lists_no l W A c hl)
    clear ht h hla hl
    have HB0 := Lib.hid ((Below.refl w.heap.size w).alloc (Nat.le_refl _) (.cells #[.string (ofL r.f), .string (ofL r.t), .int .i64 r.n, .string (ofL r.d)] 24))
    unfold rgv
    go_enter Tryd.func3, Tryd.ntmps3
    go_wp2_with fail
    refine (HLI.out _).mono ?_
    rintro e w1 ⟨rfl, hb1⟩
    have HB1 := Lib.hid (HB0.out.trans (hb1.mono HB0.out.size))
    clear hb1
    go_wp2_with fail
    refine (HAW.out _ HB1.out).mono ?_
    rintro e w2 ⟨rfl, hb2⟩
    have HB2 := Lib.hid (HB1.out.trans (hb2.mono HB1.out.size))
    clear hb2
    go_wp2_with fail
    go_ret
    exact ⟨rfl, HB2.out⟩
end ReconcileAnswer
end Go.Proofs.YtnllocghmnhooaaDoor
