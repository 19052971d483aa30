/- Reconcile: the reference's dialogue. -/
import Derived.Test.YtnllocghmnhooaaDoorUp
import Derived.Test.YtnllocghmnhooaaDoorUr
namespace Go.Proofs.YtnllocghmnhooaaDoor
open Go.RowKit
set_option linter.unusedVariables false
set_option linter.unusedSimpArgs false
namespace Rc
open Bk (bl bl_len bl_ofL ofL_bl ofL_size ofL_append)

/-- the dialogues about the parts of an answer, one after another: records of x, of y, messages -/
def sq (n : Nat) (x y : List Rec) (r : Rng) : Nat → List Rec × List Rec × Nat
  | 0 => (x, y, 1)
  | i + 1 => ((dlg Hd n (sq n x y r i).2.1 (sq n x y r i).1 ((prts x r).getD i ⟨[], [], 0, []⟩)).2.1, (dlg Hd n (sq n x y r i).2.1 (sq n x y r i).1 ((prts x r).getD i ⟨[], [], 0, []⟩)).1, (sq n x y r i).2.2 + (dlg Hd n (sq n x y r i).2.1 (sq n x y r i).1 ((prts x r).getD i ⟨[], [], 0, []⟩)).2.2)
theorem sq_st {U : List Rec} {n : Nat} {x y : List Rec} {r : Rng} (hx : St U x) (hy : St U y) : ∀ i, St U (sq n x y r i).1 ∧ St U (sq n x y r i).2.1
  | 0 => ⟨hx, hy⟩
  | i + 1 => by
    obtain ⟨h1, h2⟩ := sq_st (n := n) (r := r) hx hy i
    obtain ⟨k1, k2⟩ := dlg_st Hd n ((prts x r).getD i ⟨[], [], 0, []⟩) h2 h1
    exact ⟨k2, k1⟩
theorem prts_two {x : List Rec} {r : Rng} (ha : agr Hd x r = false) (h4 : ¬ (inn x r.f r.t).length ≤ 4) : prts x r = [sm Hd x r.f (mid (inn x r.f r.t)), sm Hd x (mid (inn x r.f r.t)) r.t] := by
  unfold prts
  rw [if_neg (by rw [ha]; simp), if_neg h4]
theorem prts_few {x : List Rec} {r : Rng} (ha : agr Hd x r = false) (h4 : (inn x r.f r.t).length ≤ 4) : prts x r = [] := by
  unfold prts
  rw [if_neg (by rw [ha]; simp), if_pos h4]
theorem recs_few {x : List Rec} {r : Rng} (ha : agr Hd x r = false) (h4 : (inn x r.f r.t).length ≤ 4) : recs x r = inn x r.f r.t := by
  unfold recs
  rw [if_neg (by rw [ha]; simp), if_pos h4]
theorem dlg_two {n : Nat} {x y : List Rec} {r : Rng} (ha : agr Hd x r = false) (h4 : ¬ (inn x r.f r.t).length ≤ 4) : dlg Hd (n + 1) x y r = sq n x y r 2 := by
  rw [dlg_succ, if_neg (by rw [ha]; simp), if_neg h4]
  unfold sq sq sq
  rw [prts_two ha h4]
  rfl
theorem dlg_few {n : Nat} {x y : List Rec} {r : Rng} (ha : agr Hd x r = false) (h4 : (inn x r.f r.t).length ≤ 4) : dlg Hd (n + 1) x y r = (mrg x (inn y r.f r.t), mrg y (inn x r.f r.t), 3) := by
  rw [dlg_succ, if_neg (by rw [ha]; simp), if_pos h4]
theorem dlg_agr {n : Nat} {x y : List Rec} {r : Rng} (ha : agr Hd x r = true) : dlg Hd n x y r = (x, y, 1) := by
  cases n with
  | zero => rfl
  | succ n => rw [dlg_succ, if_pos ha]
theorem sq_mono (n : Nat) (x y : List Rec) (r : Rng) (i : Nat) : (sq n x y r i).2.2 ≤ (sq n x y r (i + 1)).2.2 := by
  show _ ≤ (sq n x y r i).2.2 + _
  omega
def DlgP (w : World) (D : List Rec × List Rec × Nat) (e : Ending) (w' : World) : Prop :=
  ∃ X Y, e = .returned (.tuple #[X, Y, .int .i64 (D.2.2 : Int)]) ∧ RcV w' X D.1 ∧ RcV w' Y D.2.1 ∧ Below w.heap.size w w'

set_option maxRecDepth 100000 in
set_option maxHeartbeats 4000000 in
theorem rdialogue_f {U : List Rec} (hU : ∀ z ∈ U, Val z) (hUl : U.length ≤ 2000) : ∀ (d : Nat), d ≤ 1000 → ∀ (x y : List Rec) (hx : St U x) (hy : St U y) (r : Rng) (w : World) (A B : Option Addr) (ca cb : Nat) (ha : Rcs w A ca x) (hb : Rcs w B cb y) (hc : (dlg Hd d x y r).2.2 ≤ 1000000),
    Calls Tryd.prog 41 #[.slice A x.length ca, .slice B y.length cb, rgv r, .int .i64 (d : Int)] w (DlgP w (dlg Hd d x y r)) := by
  intro d
  induction d with
  | zero => 
    intro hd x y hx hy r w A B ca cb ha hb hc
    have hxl := hx.len
    have hyl := hy.len
    have HAN := Lib.hid (fun W (h : Below w.heap.size w W) => ranswer_f x (fun z hz => hU z (hx.mem z hz)) r W A ca (ha.below h) (by omega))
    have HXR := Lib.hid (fun W (h : Below w.heap.size w W) => ha.below h)
    have HYR := Lib.hid (fun W (h : Below w.heap.size w W) => hb.below h)
    have HAG := Lib.hid (fun (q : agr Hd x r = true) => (dlg_agr q : dlg Hd 0 x y r = (x, y, 1)))
    have HE := Lib.hid (show dlg Hd 0 x y r = (x, y, 1) from rfl)
    obtain ⟨D, hD⟩ : ∃ D, D = dlg Hd 0 x y r := ⟨_, rfl⟩
    rw [← hD] at HAG hc HE ⊢
    obtain ⟨rf, hrf⟩ : ∃ x, x = r.f := ⟨_, rfl⟩
    obtain ⟨rt, hrt⟩ : ∃ x, x = r.t := ⟨_, rfl⟩
    show Calls Tryd.prog 41 #[.slice A x.length ca, .slice B y.length cb, .agg #[.string (ofL r.f), .string (ofL r.t), .int .i64 r.n, .string (ofL r.d)], .int .i64 0] w _
    rw [← hrf, ← hrt]
    have HRF := Lib.hid hrf
    have HRT := Lib.hid hrt
    clear hrf hrt hD ha hb hx hy hxl hyl hc hd
    have HZ := Lib.hid (show rgv r = .agg #[.string (ofL r.f), .string (ofL r.t), .int .i64 r.n, .string (ofL r.d)] from rfl)
    unfold rgv at HAN
    rw [← HRF.out, ← HRT.out] at HAN
    go_enter Tryd.func41, Tryd.ntmps41
    go_wp2_with fail
    have HX := Lib.hid (Blk.new w 24 #[.string (ofL rf), .string (ofL rt), .int .i64 r.n, .string (ofL r.d)])
    have HB := Lib.hid ((Below.refl _ w).alloc (Nat.le_refl _) (.cells #[.string (ofL rf), .string (ofL rt), .int .i64 r.n, .string (ofL r.d)] 24))
    refine (HAN.out _ HB.out).mono ?_
    rintro e w1 ⟨P, R, rfl, hP, hR, hb1⟩
    have HX1 := Lib.hid (HX.out.below hb1)
    have HB1 := Lib.hid (HB.out.trans (hb1.mono HB.out.size))
    have HP := Lib.hid hP
    have HR := Lib.hid hR
    clear hb1 hP hR HX HB
    obtain ⟨ag, hag⟩ : ∃ q, q = agr Hd x r := ⟨_, rfl⟩
    rw [← hag]
    have HGA := Lib.hid hag
    clear hag
    cases ag with
    | true =>
      have HE := Lib.hid (HAG.out HGA.out.symm)
      go_wp2_with fail
      go_ret3
      exact ⟨_, _, by rw [HE.out]; rfl, by rw [HE.out]; exact ⟨A, ca, rfl, HXR.out _ HB1.out⟩, by rw [HE.out]; exact ⟨B, cb, rfl, HYR.out _ HB1.out⟩, HB1.out⟩
    | false =>
      go_wp2_with fail
      go_ret3
      exact ⟨_, _, by rw [HE.out]; rfl, by rw [HE.out]; exact ⟨A, ca, rfl, HXR.out _ HB1.out⟩, by rw [HE.out]; exact ⟨B, cb, rfl, HYR.out _ HB1.out⟩, HB1.out⟩

  | succ n ih => 
    intro hd x y hx hy r w A B ca cb ha hb hc
    have hxl := hx.len
    have hyl := hy.len
    have HAN := Lib.hid (fun W (h : Below w.heap.size w W) => ranswer_f x (fun z hz => hU z (hx.mem z hz)) r W A ca (ha.below h) (by omega))
    have HXR := Lib.hid (fun W (h : Below w.heap.size w W) => ha.below h)
    have HYR := Lib.hid (fun W (h : Below w.heap.size w W) => hb.below h)
    have HAG := Lib.hid (fun (q : agr Hd x r = true) => (dlg_agr q : dlg Hd (n + 1) x y r = (x, y, 1)))
    have HFW := Lib.hid (fun (q : agr Hd x r = false) (h : (inn x r.f r.t).length ≤ 4) => (dlg_few q h : dlg Hd (n + 1) x y r = _))
    have HTW := Lib.hid (fun (q : agr Hd x r = false) (h : ¬ (inn x r.f r.t).length ≤ 4) => (dlg_two q h : dlg Hd (n + 1) x y r = _))
    have HPF := Lib.hid (fun (q : agr Hd x r = false) (h : (inn x r.f r.t).length ≤ 4) => (And.intro (prts_few q h) (recs_few q h)))
    have HPT := Lib.hid (fun (q : agr Hd x r = false) (h : ¬ (inn x r.f r.t).length ≤ 4) => (show (prts x r).length = 2 by rw [prts_two q h]; rfl))
    have hxi := hx.inn r.f r.t
    have hyi := hy.inn r.f r.t
    have HIN := Lib.hid (fun W (h : Below w.heap.size w W) => rin_f y (fun z hz => hU z (hy.mem z hz)) (ofL r.f) (ofL r.t) W B cb (hb.below h) (by omega))
    rw [bl_ofL, bl_ofL] at HIN
    have HM1 := Lib.hid (fun W (h : Below w.heap.size w W) O co (k : Rcs W O co (inn y r.f r.t)) => rmerge_f x (inn y r.f r.t) (fun z hz => hU z (hx.mem z hz)) (fun z hz => hU z (hyi.mem z hz)) hx.srt hyi.srt W A O ca co (ha.below h) k (by have := hyi.len; omega))
    have HM2 := Lib.hid (fun W (h : Below w.heap.size w W) O co (k : Rcs W O co (inn x r.f r.t)) => rmerge_f y (inn x r.f r.t) (fun z hz => hU z (hy.mem z hz)) (fun z hz => hU z (hxi.mem z hz)) hy.srt hxi.srt W B O cb co (hb.below h) k (by have := hxi.len; omega))
    have HIH := Lib.hid (fun i W (h1 : RcV W (.slice none 0 0) []) X cx Y cy (kx : Rcs W X cx (sq n x y r i).1) (ky : Rcs W Y cy (sq n x y r i).2.1) hcc => ih (by omega) (sq n x y r i).2.1 (sq n x y r i).1 (sq_st hx hy i).2 (sq_st hx hy i).1 ((prts x r).getD i ⟨[], [], 0, []⟩) W Y X cy cx ky kx hcc)
    have HS0 := Lib.hid (show sq n x y r 0 = (x, y, 1) from rfl)
    have HS1 := Lib.hid (fun i => (show (dlg Hd n (sq n x y r i).2.1 (sq n x y r i).1 ((prts x r).getD i ⟨[], [], 0, []⟩)).1 = (sq n x y r (i + 1)).2.1 from rfl))
    have HS2 := Lib.hid (fun i => (show (dlg Hd n (sq n x y r i).2.1 (sq n x y r i).1 ((prts x r).getD i ⟨[], [], 0, []⟩)).2.1 = (sq n x y r (i + 1)).1 from rfl))
    have HS3 := Lib.hid (fun i => (show (sq n x y r i).2.2 + (dlg Hd n (sq n x y r i).2.1 (sq n x y r i).1 ((prts x r).getD i ⟨[], [], 0, []⟩)).2.2 = (sq n x y r (i + 1)).2.2 from rfl))
    have HSM := Lib.hid (fun i => sq_mono n x y r i)
    obtain ⟨D, hD⟩ : ∃ D, D = dlg Hd (n + 1) x y r := ⟨_, rfl⟩
    rw [← hD] at HAG hc HFW HTW ⊢
    obtain ⟨rf, hrf⟩ : ∃ x, x = r.f := ⟨_, rfl⟩
    obtain ⟨rt, hrt⟩ : ∃ x, x = r.t := ⟨_, rfl⟩
    show Calls Tryd.prog 41 #[.slice A x.length ca, .slice B y.length cb, .agg #[.string (ofL r.f), .string (ofL r.t), .int .i64 r.n, .string (ofL r.d)], .int .i64 ((n + 1 : Nat) : Int)] w _
    rw [← hrf, ← hrt]
    obtain ⟨xi, hxi'⟩ : ∃ l, l = inn x r.f r.t := ⟨_, rfl⟩
    obtain ⟨yi, hyi'⟩ : ∃ l, l = inn y r.f r.t := ⟨_, rfl⟩
    rw [← hxi'] at HFW HTW HPF HPT HM2
    rw [← hyi'] at HFW HIN HM1
    rw [← hrf, ← hrt] at HIN
    obtain ⟨dd, hdd⟩ : ∃ z : Nat, z = n + 1 := ⟨_, rfl⟩
    rw [← hdd]
    have hd1 : dd ≤ 1000 := by omega
    have v1 : IntKind.i64.wrap ((dd : Int) - 1) = (n : Int) := by rw [IntWalk.i64_in _ (by omega)]; omega
    have v2 : ((dd : Int) == 0) = false := by simp; omega
    have v3 : ¬ (dd : Int) = 0 := by omega
    clear hdd
    have HRF := Lib.hid hrf
    have HRT := Lib.hid hrt
    clear hrf hrt hD ha hb hx hy hxl hyl hd ih hxi hyi hxi' hyi'
    have HZ := Lib.hid (show rgv r = .agg #[.string (ofL r.f), .string (ofL r.t), .int .i64 r.n, .string (ofL r.d)] from rfl)
    unfold rgv at HAN
    rw [← HRF.out, ← HRT.out] at HAN
    go_enter Tryd.func41, Tryd.ntmps41
    go_wp2_with fail
    have HX := Lib.hid (Blk.new w 24 #[.string (ofL rf), .string (ofL rt), .int .i64 r.n, .string (ofL r.d)])
    have HB := Lib.hid ((Below.refl _ w).alloc (Nat.le_refl _) (.cells #[.string (ofL rf), .string (ofL rt), .int .i64 r.n, .string (ofL r.d)] 24))
    refine (HAN.out _ HB.out).mono ?_
    rintro e w1 ⟨P, R, rfl, hP, hR, hb1⟩
    have HX1 := Lib.hid (HX.out.below hb1)
    have HB1 := Lib.hid (HB.out.trans (hb1.mono HB.out.size))
    have HP := Lib.hid hP
    have HR := Lib.hid hR
    clear hb1 hP hR HX HB
    obtain ⟨ag, hag⟩ : ∃ q, q = agr Hd x r := ⟨_, rfl⟩
    rw [← hag]
    have HGA := Lib.hid hag
    clear hag
    cases ag with
    | true =>
      have HE := Lib.hid (HAG.out HGA.out.symm)
      go_wp2_with fail
      go_ret3
      exact ⟨_, _, by rw [HE.out]; rfl, by rw [HE.out]; exact ⟨A, ca, rfl, HXR.out _ HB1.out⟩, by rw [HE.out]; exact ⟨B, cb, rfl, HYR.out _ HB1.out⟩, HB1.out⟩
    | false =>
      by_cases h4 : xi.length ≤ 4
      · have HE := Lib.hid (HFW.out HGA.out.symm h4)
        obtain ⟨k1, k2⟩ := HPF.out HGA.out.symm h4
        rw [k1] at HP
        rw [k2] at HR
        obtain ⟨AP, cp, rfl, _⟩ := HP.out
        obtain ⟨AR, cr, rfl, hRR⟩ := HR.out
        have HRR := Lib.hid (fun W (k : Below w1.heap.size w1 W) => hRR.below k)
        clear k1 k2 HP HR hRR
        have c0 : w1.cell? ⟨w.heap.size, 0, none⟩ = some (.string (ofL rf)) := HX1.out.cell 0
        have c1 : w1.cell? ⟨w.heap.size, 1, none⟩ = some (.string (ofL rt)) := HX1.out.cell 1
        go_wp2_with fail
        refine (HIN.out _ HB1.out).mono ?_
        rintro e w2 ho
        obtain ⟨O, co, rfl, hO, hb2⟩ := ho.rcs
        have HO := Lib.hid hO
        have HC2 := Lib.hid hb2
        have HB2 := Lib.hid (HB1.out.trans (hb2.mono HB1.out.size))
        clear hb2 hO ho c0 c1
        go_wp2_with fail
        refine (HM1.out _ HB2.out O co HO.out).mono ?_
        rintro e w3 ⟨X, cx, rfl, hX, hb3⟩
        have HXX := Lib.hid hX
        have HC3 := Lib.hid (HC2.out.trans (hb3.mono HC2.out.size))
        have HB3 := Lib.hid (HB2.out.trans (hb3.mono HB2.out.size))
        clear hb3 hX
        go_wp2_with fail
        refine (HM2.out _ HB3.out AR cr (HRR.out _ HC3.out)).mono ?_
        rintro e w4 ⟨Y, cy, rfl, hY, hb4⟩
        have HYY := Lib.hid hY
        have HX4 := Lib.hid (HXX.out.below hb4)
        have HB4 := Lib.hid (HB3.out.trans (hb4.mono HB3.out.size))
        clear hb4 hY
        go_wp2_with fail
        go_ret3
        exact ⟨_, _, by rw [HE.out]; rfl, by rw [HE.out]; exact ⟨X, cx, rfl, HX4.out⟩, by rw [HE.out]; exact ⟨Y, cy, rfl, HYY.out⟩, HB4.out⟩
      · have HE := Lib.hid (HTW.out HGA.out.symm h4)
        have HL2 := Lib.hid (HPT.out HGA.out.symm h4)
        obtain ⟨AP, cp, rfl, hPP⟩ := HP.out
        have hcp := hPP.le
        have hcpm : cp ≤ 9223372036854775807 := hPP.max
        have HPP := Lib.hid (fun W (k : Below w1.heap.size w1 W) => hPP.below k)
        have HPG := Lib.hid (fun i (hi : i < (prts x r).length) => (show (prts x r).getD i ⟨[], [], 0, []⟩ = (prts x r)[i] by simp [hi]))
        obtain ⟨AR, cr, rfl, _⟩ := HR.out
        obtain ⟨ps, hps⟩ : ∃ ps, ps = prts x r := ⟨_, rfl⟩
        rw [← hps] at HL2 HPP HPG hcp HIH HS1 HS2 HS3 ⊢
        rw [HL2.out] at hcp ⊢
        obtain ⟨S, hS⟩ : ∃ S, S = sq n x y r := ⟨_, rfl⟩
        rw [← hS] at HIH HS0 HS1 HS2 HS3 HSM HE
        clear hps hS hPP HP HR
        have HCC := Lib.hid (show D.2.2 ≤ 1000000 from hc)
        go_wp2_with fail
        go_loopw [0, 1, 15, 16] (fun x0 x1 x15 x16 W => ∃ (i : Nat) (X : Option Addr) (cx : Nat) (Y : Option Addr) (cy : Nat), i ≤ 2 ∧ x0 = .slice X (S i).1.length cx ∧ x1 = .slice Y (S i).2.1.length cy ∧ x15 = .int .i64 ((S i).2.2 : Int) ∧ x16 = .int .i64 (i : Int) ∧ Hid (Rcs W X cx (S i).1) ∧ Hid (Rcs W Y cy (S i).2.1) ∧ Hid (Below w1.heap.size w1 W)) (fun _ _ _ x16 _ => 2 - (intOf x16).toNat)
        case atStart => exact ⟨0, A, ca, B, cb, by omega, by rw [HS0.out], by rw [HS0.out], by rw [HS0.out]; rfl, rfl, Lib.hid (by rw [HS0.out]; exact HXR.out _ HB1.out), Lib.hid (by rw [HS0.out]; exact HYR.out _ HB1.out), Lib.hid (Below.refl _ _)⟩
        case round =>
          obtain ⟨i, X, cx, Y, cy, hi, rfl, rfl, rfl, rfl, HXX, HYY, HB⟩ := hrel
          by_cases hi2 : i < 2
          · have hip : i < ps.length := by rw [HL2.out]; exact hi2
            obtain ⟨g, o, rfl, _, hat⟩ := (HPP.out _ HB.out).mem (by rw [HL2.out]; omega)
            obtain ⟨d0, d1, d2, d3⟩ := hat i hip
            have HG := Lib.hid (HPG.out i hip)
            have hsz : (dlg Hd n (S i).2.1 (S i).1 (ps.getD i ⟨[], [], 0, []⟩)).2.2 + (S i).2.2 ≤ 1000000 := by
              have h1 := HS3.out i
              have h2 := HCC.out
              rw [HE.out] at h2
              have h3 : (S 1).2.2 ≤ (S 2).2.2 := HSM.out 1
              have h4 : i = 0 ∨ i = 1 := by omega
              rcases h4 with rfl | rfl
              · have h1 : _ = (S 1).2.2 := h1
                omega
              · have h1 : _ = (S 2).2.2 := h1
                omega
            have HII := Lib.hid (fun W (k : Below wr.heap.size wr W) => HIH.out i W (RcV.nil_ _) X cx Y cy (HXX.out.below k) (HYY.out.below k) (by omega))
            have HT1 := Lib.hid (HS1.out i)
            have HT2 := Lib.hid (HS2.out i)
            have h3 := HS3.out i
            obtain ⟨E, hE⟩ : ∃ E, E = dlg Hd n (S i).2.1 (S i).1 (ps.getD i ⟨[], [], 0, []⟩) := ⟨_, rfl⟩
            rw [← hE] at HII HT1 HT2 h3 hsz
            clear hE
            rw [HG.out] at HII
            obtain ⟨pt, hpt⟩ : ∃ p, ps[i] = p := ⟨_, rfl⟩
            rw [hpt] at d0 d1 d2 d3 HII
            clear hat HG hpt
            have HSQ := Lib.hid (show (((S (i + 1)).2.2 : Nat) : Int) = ((S i).2.2 : Int) + (E.2.2 : Int) by rw [← h3]; omega)
            have v4 : IntKind.i64.wrap (((S i).2.2 : Int) + (E.2.2 : Int)) = (((S (i + 1)).2.2 : Nat) : Int) := by rw [IntWalk.i64_in _ (by omega)]; exact HSQ.out.symm
            have v5 : IntKind.i64.wrap ((i : Int) + 1) = ((i + 1 : Nat) : Int) := by rw [IntWalk.i64_in _ (by omega)]; omega
            have hpI : (i : Int) < 2 := by omega
            have hp0 : (0 : Int) ≤ (i : Int) := by omega
            unfold rgv at HII
            obtain ⟨li, hli⟩ : ∃ z, z = (S i).1.length := ⟨_, rfl⟩
            obtain ⟨mi, hmi⟩ : ∃ z, z = (S i).2.1.length := ⟨_, rfl⟩
            rw [← hli, ← hmi] at HII
            rw [← hli, ← hmi]
            clear hli hmi h3
            go_wp2_with fail
            refine (HII.out _ (Below.refl _ _)).mono ?_
            rintro e w5 ⟨X', Y', rfl, ⟨AX, cX, rfl, hX⟩, ⟨AY, cY, rfl, hY⟩, hb5⟩
            rw [HT1.out] at hX ⊢
            rw [HT2.out] at hY ⊢
            have HX5 := Lib.hid hX
            have HY5 := Lib.hid hY
            have HB5 := Lib.hid (HB.out.trans (hb5.mono HB.out.size))
            clear hX hY hb5 d0 d1 d2 d3
            go_wp2_with fail
            go_roundw
            case rel => exact ⟨i + 1, AY, cY, AX, cX, by omega, rfl, rfl, rfl, by go_num, HY5, HX5, HB5⟩
            case measure => simp [intOf]; omega
          · obtain rfl : i = 2 := by omega
            go_wp2_with fail
            go_ret3
            exact ⟨_, _, by rw [HE.out]; rfl, by rw [HE.out]; exact ⟨X, cx, rfl, HXX.out⟩, by rw [HE.out]; exact ⟨Y, cy, rfl, HYY.out⟩, HB1.out.trans (HB.out.mono HB1.out.size)⟩

end Rc
end Go.Proofs.YtnllocghmnhooaaDoor
