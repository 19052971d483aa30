/- The law ErasureOrder of stelelaw15 returns true for every input, and the argument reads behind the call as it read before. No conditions. -/
import Derived.Test.YtpljpceldlaphaaEt
namespace Go.Proofs.Ytpljpceldlaphaa
namespace ErasureOrder
open Go.RowKit

set_option maxRecDepth 100000 in
set_option maxHeartbeats 2000000 in
theorem core (w : World) (A : Option Addr) (n c : Nat) (l : List ByteArray) (h : Lst Value.string w A n c l) (s : Nat) (hs : s < 256) (set : Nat) (hset : set < 65536) (b : Nat) (hb : b < 256) :
    Calls Try.prog 8 #[.slice A n c, .int .u8 (s : Int), .int .u16 (set : Int), .int .u8 (b : Int)] w fun e w' => e = .returned (.bool true) ∧ Below w.heap.size w w' := by
  have hsp : s % 8 ≤ 7 := by omega
  have HSP := Lib.hid hsp
  have HC := Lib.hid (stripe_b w A n c l h s hs)
  have hbd := evn_bound l
  obtain ⟨D, hD⟩ : ∃ D, D = (evn l).length := ⟨_, rfl⟩
  obtain ⟨M, hM⟩ : ∃ M, M = (stL l (s % 8)).length := ⟨_, rfl⟩
  have HD := Lib.hid hD
  have HM := Lib.hid hM
  have hMb : M ≤ 15 := by rw [hM, stL_len]; omega
  rw [← hD] at hbd
  clear h hD hM hsp
  go_enter Try.func8, Try.ntmps8
  go_wp2_with fail
  refine HC.out.mono ?_
  rintro e w1 ⟨v1, v2, rfl, ho1, ho2, hb1⟩
  rw [← HD.out] at ho1
  rw [← HM.out] at ho2
  obtain ⟨A1, c1, rfl, hy1, _⟩ := lst_own ho1
  obtain ⟨A2, c2, rfl, hy2, _⟩ := shs_own ho2
  have HB1 := Lib.hid hb1
  have HCS := Lib.hid (some_b w1 A2 M c2 (stL l (s % 8)) hy2 (by rw [← HM.out]; omega) set hset)
  clear ho1 ho2 hb1 hy1 hy2
  go_wp2_with fail
  refine HCS.out.mono ?_
  rw [show smL (stL l (s % 8)) set (stL l (s % 8)).length = hvS l (s % 8) set from rfl]
  obtain ⟨H, hH⟩ : ∃ H, H = (hvS l (s % 8) set).length := ⟨_, rfl⟩
  have HH := Lib.hid hH
  have hHb : H ≤ 15 := by rw [hH]; have := smL_len_le (stL l (s % 8)) set (stL l (s % 8)).length; rw [← HM.out] at this; unfold hvS; rw [← HM.out]; omega
  clear hH
  rintro e w2 ⟨v3, rfl, ho3, hb2⟩
  rw [← HH.out] at ho3
  obtain ⟨A3, c3, rfl, hy3, _⟩ := shs_own ho3
  have hlc3 : H ≤ c3 := hy3.1
  have hcm3 : c3 ≤ 9223372036854775807 := hy3.2.1
  have HB2 := Lib.hid (HB1.out.trans (hb2.mono HB1.out.size))
  have HY3 := Lib.hid hy3
  clear ho3 hb2 hy3
  go_wp2
  go_loopw [13, 32] (fun vo i wr => ∃ k : Nat, k ≤ H ∧ i = .int .i64 (k : Int) ∧ wr.ownsRow w2.heap.size 39 2 vo (k * 2) ((mo (hvS l (s % 8) set) b k).flatMap shc) ∧ Below w2.heap.size w2 wr) (fun _ i _ => H - (intOf i).toNat)
  case atStart => exact ⟨0, by omega, rfl, World.ownsRow_lit w2 #[] 0 (Nat.le_refl _) (Nat.zero_le _) rfl, (Below.refl _ w2).alloc (Nat.le_refl _) _⟩
  case round =>
    obtain ⟨k, hk, rfl, hown, hb⟩ := hrel
    have HO := Lib.hid hown
    have HB := Lib.hid hb
    have hbs := hb.size
    have HYr := Lib.hid (HY3.out.below hb)
    clear hown hb
    by_cases hlt : k < H
    · obtain ⟨p, hp⟩ : ∃ p, p = (k + b) % H := ⟨_, rfl⟩
      obtain ⟨q, hq⟩ : ∃ q, q = H - 1 - k := ⟨_, rfl⟩
      have hpH : p < H := by rw [hp]; exact Nat.mod_lt _ (by omega)
      have hqH : q < H := by omega
      have hpl : p < (hvS l (s % 8) set).length := by rw [← HH.out]; exact hpH
      have hql : q < (hvS l (s % 8) set).length := by rw [← HH.out]; exact hqH
      obtain ⟨ad, rfl, _, hp0, hp1⟩ := HYr.out.at_ hpl
      have had : ad.block < w2.heap.size := by
        obtain ⟨_, e9, h9, _⟩ := HY3.out.at_ hpl
        injection e9 with e9
        rw [e9]; exact h9
      obtain ⟨_, e1, _, hq0, hq1⟩ := HYr.out.at_ hql
      injection e1 with e1
      subst e1
      obtain ⟨X, hX⟩ : ∃ X, X = (hvS l (s % 8) set)[p] := ⟨_, rfl⟩
      obtain ⟨Y, hY⟩ : ∃ Y, Y = (hvS l (s % 8) set)[q] := ⟨_, rfl⟩
      have HS := Lib.hid (show mo (hvS l (s % 8) set) b (k + 1) = mo (hvS l (s % 8) set) b k ++ [X, Y] by
        rw [mo_succ, ← HH.out, ← hp, ← hq, hX, hY]; simp [List.getD, List.getElem?_eq_getElem hpl, List.getElem?_eq_getElem hql])
      rw [← hX] at hp0 hp1
      rw [← hY] at hq0 hq1
      have hr1 : IntKind.i64.wrap ((k : Int) + (b : Int)) = (k : Int) + (b : Int) := IntWalk.i64_in _ (by omega)
      have hr2 : ((k : Int) + (b : Int)).tmod (H : Int) = (p : Int) := by
        rw [Int.tmod_eq_emod_of_nonneg (by omega), hp]; exact (Int.natCast_emod (k + b) H).symm
      have hr3 : IntKind.i64.wrap ((H : Int) - 1) = (H : Int) - 1 := IntWalk.i64_in _ (by omega)
      have hr4 : IntKind.i64.wrap ((H : Int) - 1 - (k : Int)) = (q : Int) := by rw [IntWalk.i64_in _ (by omega), hq]; omega
      have hz : ((H : Int) == 0) = false := by simp; omega
      have hz2 : ¬ (H : Int) = 0 := by omega
      have hz3 : ¬ H = 0 := by omega
      have hr6 : ((k : Int) + (b : Int)) % (H : Int) = (p : Int) := by rw [hp]; exact (Int.natCast_emod (k + b) H).symm
      have hr7 : IntKind.i64.wrap (b : Int) = (b : Int) := IntWalk.i64_in _ (by omega)
      have hr5 : IntKind.i64.wrap (p : Int) = (p : Int) := IntWalk.i64_in _ (by omega)
      have hpa : (0 : Int) ≤ (p : Int) := by omega
      have hpb : (p : Int) < (H : Int) := by omega
      have hqa : (0 : Int) ≤ (q : Int) := by omega
      have hqb : (q : Int) < (H : Int) := by omega
      have hk1 : k * 2 + 2 ≤ maxLen := by unfold maxLen; omega
      have hk2 : (k * 2 + 2) * 24 ≤ 140737488355328 := by omega
      have HNE := Lib.hid (show ∀ (a : Addr) (g : Nat), some ad = some a → u13.ownBlock = some g → a.block ≠ g from fun a g e1 e2 e3 => by
        injection e1 with e1
        subst e1
        have := (HO.out.lt _ e2).1
        omega)
      have HKK := Lib.hid (fun (W : World) (hW : Shs W (some ad) H c3 (hvS l (s % 8) set)) => show W.cell? (ad.add (p * 2)) = some (.int .i64 X.1) ∧ W.cell? ⟨(ad.add (p * 2)).block, (ad.add (p * 2)).off + 1, none⟩ = some (.string X.2) ∧ W.cell? (ad.add (q * 2)) = some (.int .i64 Y.1) ∧ W.cell? ⟨(ad.add (q * 2)).block, (ad.add (q * 2)).off + 1, none⟩ = some (.string Y.2) by
        obtain ⟨_, e1, _, h0, h1⟩ := hW.at_ hpl
        injection e1 with e1
        subst e1
        obtain ⟨_, e1, _, h2, h3⟩ := hW.at_ hql
        injection e1 with e1
        subst e1
        rw [hX, hY]
        exact ⟨h0, h1, h2, h3⟩)
      clear hp hq hX hY
      go_wp2
      go_region_held3 (fun w' => w'.cell? (ad.add (p * 2)) = some (.int .i64 X.1) ∧ w'.cell? ⟨(ad.add (p * 2)).block, (ad.add (p * 2)).off + 1, none⟩ = some (.string X.2) ∧ w'.cell? (ad.add (q * 2)) = some (.int .i64 Y.1) ∧ w'.cell? ⟨(ad.add (q * 2)).block, (ad.add (q * 2)).off + 1, none⟩ = some (.string Y.2))
        (first | go_keep | exact HKK.out _ (Sl.grown (Sl.alloc (w := wr.drew) HYr.out _) hgrow HNE.out))
        ((refine step_append_sl ty_shr (by rfl) _ _ (by rfl) w2.heap.size u13 (k * 2) ((mo (hvS l (s % 8) set) b k).flatMap shc) (by rfl) (own_alloc (show wr.drew.ownsRow _ _ _ _ _ _ from HO.out) _) _ 2 [.int .i64 X.1, .string X.2, .int .i64 Y.1, .string Y.2] (by rfl) rfl (by unfold maxLen; omega) (Blk.new _ _ _) (by simp [Value.oneCell']) (Nat.le_trans hbs (Below.alloc (Below.refl _ wr.drew) (Nat.le_refl _) _).size) hk1 hk2 ?_; intro v' w8 hown8 hgrow _))
      clear hr1 hr2 hr3 hr4 hr5 hr6 hr7 hp0 hp1 hq0 hq1
      have HB8 := Lib.hid (push_below HB.out.drew hbs (show wr.drew.ownsRow _ _ _ _ _ _ from HO.out) hgrow)
      go_wp2
      go_roundw
      case rel => exact ⟨k + 1, by omega, by go_num, by rw [HS.out, List.flatMap_append, show (k + 1) * 2 = k * 2 + 2 by omega]; simpa [shc] using hown8, HB8.out⟩
      case measure => simp [intOf]; omega
    · have hkH : k = H := by omega
      have hge : H ≤ k := by omega
      have HBW := Lib.hid (HB2.out.trans (HB.out.mono HB2.out.size))
      have HOM := Lib.hid (show wr.ownsRow w2.heap.size 39 2 u13 (H * 2) ((mo (hvS l (s % 8) set) b H).flatMap shc) by have := HO.out; rwa [hkH] at this)
      obtain ⟨A4, c4, rfl, hy4, _⟩ := shs_own HOM.out
      have HY4 := Lib.hid hy4
      have HMS := Lib.hid (mo_same l (set := set) (b := b) HSP.out)
      rw [← HD.out, ← HH.out] at HMS
      obtain ⟨er, her⟩ : ∃ er, er = restE (hvS l (s % 8) set) (D : Int) := ⟨_, rfl⟩
      obtain ⟨r, hr⟩ : ∃ r, r = restB (hvS l (s % 8) set) (D : Int) := ⟨_, rfl⟩
      have hD64 : IntKind.i64.min ≤ (D : Int) ∧ (D : Int) ≤ IntKind.i64.max := by rw [i64_lo, i64_hi]; omega
      have HC1 := Lib.hid (restore_f wr A3 H c3 (hvS l (s % 8) set) HYr.out (hvS_bound l HSP.out) (D : Int) hD64)
      have HC2 := Lib.hid (fun (W : World) (hW : Below wr.heap.size wr W) => restore_f W A4 (H * 2) c4 (mo (hvS l (s % 8) set) b H) (HY4.out.below hW) (fun x hx => hvS_bound l HSP.out x (mo_mem x (by rw [HH.out] at hx; exact hx))) (D : Int) hD64)
      rw [HMS.out.1, HMS.out.2] at HC2
      rw [← her, ← hr] at HC1 HC2
      clear hkH hy4 her hr hD64
      go_wp2_with fail
      refine HC1.out.mono ?_
      rintro e w5 ⟨v5, rfl, ho5, hb5⟩
      obtain ⟨A5, c5, rfl, hy5, _⟩ := lst_own ho5
      have HY5 := Lib.hid hy5
      have HB5 := Lib.hid hb5
      clear ho5 hb5 hy5
      go_wp2_with fail
      refine (HC2.out _ HB5.out).mono ?_
      rintro e w6 ⟨v6, rfl, ho6, hb6⟩
      obtain ⟨A6, c6, rfl, hy6, _⟩ := lst_own ho6
      have HY6 := Lib.hid hy6
      have HY56 := Lib.hid (HY5.out.below hb6)
      have HB6 := Lib.hid (HBW.out.trans ((HB5.out.trans (hb6.mono HB5.out.size)).mono HBW.out.size))
      clear ho6 hb6 hy6
      go_wp2_with fail
      refine (same_s _ A5 _ c5 r A6 _ c6 r HY56.out HY6.out).mono ?_
      rw [decide_eq_true (rfl : r = r)]
      rintro e w7 ⟨rfl, hd7⟩
      have HB7 := Lib.hid (HB6.out.trans (hd7.below _))
      clear hd7
      go_wp2_with fail
      refine (awake_e _).mono ?_
      rintro e w4 ⟨rfl, hb4⟩
      have HB9 := Lib.hid (HB7.out.trans (hb4.mono HB7.out.size))
      clear hb4
      go_wp2
      go_ret
      exact ⟨rfl, HB9.out⟩

end ErasureOrder
end Go.Proofs.Ytpljpceldlaphaa
