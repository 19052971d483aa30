/- The core of the law ReconcileSync: it returns true. -/
import Derived.Test.YtnllocghmnhooaaDoorVd
namespace Go.Proofs.YtnllocghmnhooaaDoor
open Go.RowKit
set_option linter.unusedVariables false
set_option linter.unusedSimpArgs false
namespace ReconcileSync
open Rc
set_option maxRecDepth 100000 in
set_option maxHeartbeats 4000000 in
theorem core (w : World) (ht : Bk.Tab w) (A : Option Addr) (c : Nat) (l : List Itm) (h : Its w A c l) (hla : ∀ i ∈ l, i.a < 256 ∧ i.s < 256 ∧ i.w < 256) :
    Calls Tryd.prog 4 #[.slice A l.length c] w fun e w' => e = .returned (.bool true) ∧ Below w.heap.size w w' := by
  have HAW := Lib.hid (fun W (k : Below w.heap.size w W) => awake_f W (ht.bel k))
  by_cases hl : l.length ≤ 60
  · have HLI := Lib.hid (lists_f l hla w A c h hl)
    obtain ⟨s1, s2, l1, l2⟩ := lf hl
    have hU := us_val l
    have hUl := us_small hl
    have hcn := count_ok s1 s2 l1 l2 hUl 200
    have hfu := fuel_ok s1 s2 l1 l2 (sm Hd (lsts l).1 [] [])
    obtain ⟨U, hUe⟩ : ∃ U, U = Us l := ⟨_, rfl⟩
    obtain ⟨a, hae⟩ : ∃ a, a = (lsts l).1 := ⟨_, rfl⟩
    obtain ⟨b, hbe⟩ : ∃ b, b = (lsts l).2 := ⟨_, rfl⟩
    rw [← hUe] at s1 s2 hU hUl
    rw [← hae] at HLI s1 l1 hcn hfu
    rw [← hbe] at HLI s2 l2 hcn hfu
    clear hUe hae hbe
    have hva : ∀ z ∈ a, Val z := fun z hz => hU z (s1.mem z hz)
    have hvb : ∀ z ∈ b, Val z := fun z hz => hU z (s2.mem z hz)
    have HSY := Lib.hid (fun W (k : Below w.heap.size w W) A B ca cb (ha : Rcs W A ca a) (hb : Rcs W B cb b) => sync_f hU (by omega) a b s1 s2 W (ht.bel k) A B ca cb ha hb hcn)
    have HRS := Lib.hid (fun W A B ca cb (ha : Rcs W A ca a) (hb : Rcs W B cb b) => rsync_f hU (by omega) a b s1 s2 W A B ca cb ha hb (by rw [← hfu]; exact hcn))
    rw [← hfu] at HRS
    have HDI := Lib.hid (fun W (k : Below w.heap.size w W) A B ca cb (ha : Rcs W A ca a) (hb : Rcs W B cb b) => diff_f a b hva hvb W (ht.bel k) A B ca cb ha hb (by omega) (by omega))
    have HRD := Lib.hid (fun W A B ca cb (ha : Rcs W A ca a) (hb : Rcs W B cb b) => rdiff_f a b hva hvb W A B ca cb ha hb (by omega) (by omega))
    obtain ⟨D, hD⟩ : ∃ D, D = dlg Hd 200 b a (sm Hd a [] []) := ⟨_, rfl⟩
    have hst := dlg_st Hd 200 (sm Hd a [] []) s2 s1
    have hl1 := hst.1.len
    have hl2 := hst.2.len
    rw [← hD] at HSY HRS hl1 hl2
    have HC3 := Lib.hid (show (conf a b).length ≤ 100000 from Nat.le_trans (conf_len b a) (by omega))
    have HDL := Lib.hid (show (dif a b).length ≤ 100000 from Nat.le_trans (List.length_filter_le _ _) (by omega))
    have HSA := Lib.hid (fun L (h : L.length ≤ 100000) W A B ca cb (k : Rcs W A ca L) (j : Rcs W B cb L) => same_f L W A B ca cb k j h)
    clear hD hst hcn hfu hva hvb s1 s2 hU ht h hla hl l1 l2
    go_enter Tryd.func4, Tryd.ntmps4
    go_wp2_with fail
    refine HLI.out.mono ?_
    rintro e w1 ⟨_, _, rfl, ⟨A1, c1, rfl, ha⟩, ⟨A2, c2, rfl, hb⟩, hb1⟩
    have HA1 := Lib.hid ha
    have HB1' := Lib.hid hb
    have HB1 := Lib.hid hb1
    clear hb1 ha hb
    go_wp2_with fail
    refine (HSY.out _ HB1.out _ _ _ _ HA1.out HB1'.out).mono ?_
    rintro e w2 ⟨_, _, _, rfl, ⟨X1, x1, rfl, hx⟩, ⟨Y1, y1, rfl, hy⟩, ⟨C1, z1, rfl, hz⟩, hb2⟩
    have HB2 := Lib.hid (HB1.out.trans (hb2.mono HB1.out.size))
    have HA2 := Lib.hid (HA1.out.below hb2)
    have HB2' := Lib.hid (HB1'.out.below hb2)
    clear hb2
    have HX2 := Lib.hid hx
    have HY2 := Lib.hid hy
    have HZ2 := Lib.hid hz
    clear hx hy hz
    go_wp2_with fail
    refine (HRS.out _ _ _ _ _ HA2.out HB2'.out).mono ?_
    rintro e w3 ⟨_, _, _, rfl, ⟨X2, x2, rfl, hx⟩, ⟨Y2, y2, rfl, hy⟩, ⟨C2, z2, rfl, hz⟩, hb3⟩
    have HB3 := Lib.hid (HB2.out.trans (hb3.mono HB2.out.size))
    have HA3 := Lib.hid (HA2.out.below hb3)
    have HB3' := Lib.hid (HB2'.out.below hb3)
    have HX3 := Lib.hid (HX2.out.below hb3)
    have HY3 := Lib.hid (HY2.out.below hb3)
    have HZ3 := Lib.hid (HZ2.out.below hb3)
    clear hb3
    have HP3 := Lib.hid hx
    have HQ3 := Lib.hid hy
    have HR3 := Lib.hid hz
    clear hx hy hz
    go_wp2_with fail
    refine (HSA.out _ (by omega) _ _ _ _ _ HX3.out HP3.out).mono ?_
    rintro e w4 ⟨rfl, hb4⟩
    have HB4 := Lib.hid (HB3.out.trans (hb4.mono HB3.out.size))
    have HA4 := Lib.hid (HA3.out.below hb4)
    have HB4' := Lib.hid (HB3'.out.below hb4)
    have HY4 := Lib.hid (HY3.out.below hb4)
    have HZ4 := Lib.hid (HZ3.out.below hb4)
    have HQ4 := Lib.hid (HQ3.out.below hb4)
    have HR4 := Lib.hid (HR3.out.below hb4)
    clear hb4
    go_wp2_with fail
    refine (HSA.out _ (by omega) _ _ _ _ _ HY4.out HQ4.out).mono ?_
    rintro e w5 ⟨rfl, hb5⟩
    have HB5 := Lib.hid (HB4.out.trans (hb5.mono HB4.out.size))
    have HA5 := Lib.hid (HA4.out.below hb5)
    have HB5' := Lib.hid (HB4'.out.below hb5)
    have HZ5 := Lib.hid (HZ4.out.below hb5)
    have HR5 := Lib.hid (HR4.out.below hb5)
    clear hb5
    go_wp2_with fail
    refine (HSA.out _ HC3.out _ _ _ _ _ HZ5.out HR5.out).mono ?_
    rintro e w6 ⟨rfl, hb6⟩
    have HB6 := Lib.hid (HB5.out.trans (hb6.mono HB5.out.size))
    have HA6 := Lib.hid (HA5.out.below hb6)
    have HB6' := Lib.hid (HB5'.out.below hb6)
    clear hb6
    go_wp2_with fail
    refine (HDI.out _ HB6.out _ _ _ _ HA6.out HB6'.out).mono ?_
    rintro e w7 ⟨v7, rfl, ho7, hb7⟩
    have HB7 := Lib.hid (HB6.out.trans (hb7.mono HB6.out.size))
    have HA7 := Lib.hid (HA6.out.below hb7)
    have HB7' := Lib.hid (HB6'.out.below hb7)
    clear hb7
    obtain ⟨D1, d1, rfl, hr7⟩ := ho7.rcs
    have HD7 := Lib.hid hr7
    clear ho7 hr7
    go_wp2_with fail
    refine (HRD.out _ _ _ _ _ HA7.out HB7'.out).mono ?_
    rintro e w8 ⟨v8, rfl, ho8, hb8⟩
    have HB8 := Lib.hid (HB7.out.trans (hb8.mono HB7.out.size))
    have HD8 := Lib.hid (HD7.out.below hb8)
    clear hb8
    obtain ⟨D2, d2, rfl, hr8⟩ := ho8.rcs
    have HE8 := Lib.hid hr8
    clear ho8 hr8
    go_wp2_with fail
    refine (HSA.out _ HDL.out _ _ _ _ _ HD8.out HE8.out).mono ?_
    rintro e w9 ⟨rfl, hb9⟩
    have HB9 := Lib.hid (HB8.out.trans (hb9.mono HB8.out.size))
    clear hb9
    go_wp2_with fail
    refine (HAW.out _ HB9.out).mono ?_
    rintro e w10 ⟨rfl, hb10⟩
    have HB10 := Lib.hid (HB9.out.trans (hb10.mono HB9.out.size))
    clear hb10
    go_wp2_with fail
    go_ret
    exact ⟨rfl, HB10.out⟩
  · have HLI := Lib.hid (lists_no l w A c hl)
    clear ht h hla hl
    go_enter Tryd.func4, Tryd.ntmps4
    go_wp2_with fail
    refine HLI.out.mono ?_
    rintro e w1 ⟨rfl, hb1⟩
    have HB1 := Lib.hid hb1
    clear hb1
    go_wp2_with fail
    refine (HAW.out _ HB1.out).mono ?_
    rintro e w2 ⟨rfl, hb2⟩
    have HB2 := Lib.hid (HB1.out.trans (hb2.mono HB1.out.size))
    clear hb2
    go_wp2_with fail
    go_ret
    exact ⟨rfl, HB2.out⟩
end ReconcileSync
end Go.Proofs.YtnllocghmnhooaaDoor
