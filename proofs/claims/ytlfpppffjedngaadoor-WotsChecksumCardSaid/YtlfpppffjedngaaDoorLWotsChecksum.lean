/- The law WotsChecksum of stelelaw29 returns true for every input in a world that holds the table of the powers of ten. -/
import Derived.Test.YtlfpppffjedngaaDoorBo
import Derived.Deep.QuietTactic
import Derived.BigQuiet
namespace Go.Proofs.YtlfpppffjedngaaDoor
namespace WotsChecksum
open Go.RowKit Bk

def sumN (X : List Nat) : Nat → Nat
  | 0 => 0
  | i + 1 => if i < 32 then sumN X i + (15 - X.getD i 0) else sumN X i
def lessN (X Y : List Nat) : Nat → Bool
  | 0 => false
  | i + 1 => lessN X Y i || decide (X.getD i 0 < Y.getD i 0)
theorem less_false {X Y : List Nat} : ∀ {n : Nat}, lessN X Y n = false → ∀ i, i < n → Y.getD i 0 ≤ X.getD i 0
  | 0, _, i, hi => by omega
  | n + 1, h, i, hi => by
    unfold lessN at h
    rw [Bool.or_eq_false_iff] at h
    by_cases hn : i = n
    · subst hn
      have := of_decide_eq_false h.2
      omega
    · exact less_false h.1 i (by omega)
theorem less_self (X : List Nat) : ∀ n, lessN X X n = false
  | 0 => rfl
  | n + 1 => by unfold lessN; rw [less_self X n]; simp
theorem less_more (a b : List UInt8) : lessN (mdig a) (mdig b) 35 = lessN (mdig b) (mdig a) 35 := by
  have key : ∀ p q : List UInt8, lessN (mdig p) (mdig q) 35 = false → lessN (mdig q) (mdig p) 35 = false := fun p q h => by
    have h1 := less_false h
    have e : mdig q = mdig p := Wt.digs_mono (H_len _) (H_len _) (fun i => by
      rcases Nat.lt_or_ge i 35 with hi | hi
      · exact h1 i hi
      · have := mdig_len q
        unfold mdig at this
        rw [List.getD_eq_getElem?_getD, List.getElem?_eq_none (by omega)]
        simp)
    rw [e]
    exact less_self _ _
  cases h1 : lessN (mdig a) (mdig b) 35 with
  | false => exact (key a b h1).symm
  | true =>
    cases h2 : lessN (mdig b) (mdig a) 35 with
    | true => rfl
    | false => rw [key b a h2] at h1; cases h1
theorem sum_chk (m : List UInt8) : sumN (mdig m) 35 = Wt.chk (Wt.nibs (H [sMessage, m])) := by
  have hl : (Wt.nibs (H [sMessage, m])).length = 32 := by rw [Wt.nibs_len, H_len]
  have hg : ∀ i, i < 32 → (mdig m).getD i 0 = (Wt.nibs (H [sMessage, m])).getD i 0 := fun i hi => by
    unfold mdig Wt.digs
    exact Wt.getD_left (by omega)
  have key : ∀ k, k ≤ 32 → sumN (mdig m) k = Wt.chk ((Wt.nibs (H [sMessage, m])).take k) := by
    intro k
    induction k with
    | zero => intro _; rfl
    | succ k ih =>
      intro hk
      unfold sumN
      rw [if_pos (by omega), ih (by omega), hg k (by omega), List.take_succ_eq_append_getElem (by omega), Wt.chk_append, Wt.chk_cons, List.getD_eq_getElem?_getD, List.getElem?_eq_getElem (by omega)]
      rfl
  have h32 := key 32 (Nat.le_refl _)
  rw [List.take_of_length_le (by omega)] at h32
  rw [← h32]
  rfl
theorem last_three (m : List UInt8) : 256 * (mdig m).getD 32 0 + 16 * (mdig m).getD 33 0 + (mdig m).getD 34 0 = sumN (mdig m) 35 := by
  rw [sum_chk]
  have hl : (Wt.nibs (H [sMessage, m])).length = 32 := by rw [Wt.nibs_len, H_len]
  have hc := Wt.chk_le (Wt.nibs (H [sMessage, m]))
  rw [hl] at hc
  have h32 : (mdig m).getD 32 0 = Wt.chk (Wt.nibs (H [sMessage, m])) / 256 := by
    unfold mdig Wt.digs
    rw [Wt.getD_right (by omega), hl]; rfl
  have h33 : (mdig m).getD 33 0 = Wt.chk (Wt.nibs (H [sMessage, m])) / 16 % 16 := by
    unfold mdig Wt.digs
    rw [Wt.getD_right (by omega), hl]; rfl
  have h34 : (mdig m).getD 34 0 = Wt.chk (Wt.nibs (H [sMessage, m])) % 16 := by
    unfold mdig Wt.digs
    rw [Wt.getD_right (by omega), hl]; rfl
  rw [h32, h33, h34]
  omega
theorem own_slice {W : World} {base n : Nat} {v : Value} {xs : List Value} (hn : 0 < n) (h : W.ownsRow base 3 1 v n xs) : ∃ g c, v = .slice (some ⟨g, 0, none⟩) n c ∧ Sl W 1 (some ⟨g, 0, none⟩) n c xs := by
  rcases h.2 with ⟨_, h2⟩ | ⟨g, cap, cur, hv, hbg, hg, hnc, hcm, r⟩
  · exact absurd h2 (by omega)
  · exact ⟨g, cap, hv, Sl.own (hv ▸ h) ⟨hnc, hcm⟩⟩
theorem sum_le (X : List Nat) : ∀ k, sumN X k ≤ 15 * k
  | 0 => Nat.le_refl _
  | k + 1 => by
    have := sum_le X k
    unfold sumN
    split <;> omega

set_option maxRecDepth 100000 in
set_option maxHeartbeats 2000000 in
theorem core (w : World) (ht : Tab w) (a b : ByteArray) (ha : a.size ≤ 140737488355328) (hb : b.size ≤ 140737488355328) :
    Calls Tryd.prog 6 #[.string a, .string b] w fun e w' => e = .returned (.bool true) ∧ Below w.heap.size w w' := by
  have HT := Lib.hid ht
  clear ht
  go_enter Tryd.func6, Tryd.ntmps6
  go_wp2_with fail
  refine (alive_f w HT.out).mono ?_
  rintro e w1 ⟨rfl, hb1⟩
  have HB1 := Lib.hid hb1
  clear hb1
  by_cases hl : 1000 < a.size + b.size
  · go_wp2_with fail
    go_ret
    exact ⟨rfl, HB1.out⟩
  have HD1 := Lib.hid (fun V (hV : Tab V) => digits_f V hV a (by omega))
  have HD2 := Lib.hid (fun V (hV : Tab V) => digits_f V hV b (by omega))
  go_wp2_with fail
  refine (HD1.out w1 (HT.out.bel HB1.out)).mono ?_
  rintro e w2 ⟨v, rfl, hown, hb2⟩
  have HB2 := Lib.hid (HB1.out.trans (hb2.mono HB1.out.size))
  rw [mdig_len] at hown
  obtain ⟨g1, c1, rfl, hs1⟩ := own_slice (by omega) hown
  have HX := Lib.hid hs1
  clear hown hb2 hs1 HB1
  go_wp2_with fail
  refine (HD2.out w2 (HT.out.bel HB2.out)).mono ?_
  rintro e w3 ⟨v, rfl, hown, hb3⟩
  have HB3 := Lib.hid (HB2.out.trans (hb3.mono HB2.out.size))
  have HX3 := Lib.hid (Sl.below HX.out hb3)
  rw [mdig_len] at hown
  obtain ⟨g2, c2, rfl, hs2⟩ := own_slice (by omega) hown
  have HY3 := Lib.hid hs2
  have hc11 := HX3.out.1
  have hc12 := HX3.out.2.1
  have hc21 := HY3.out.1
  have hc22 := HY3.out.2.1
  unfold maxLen at hc12 hc22
  clear hown hb3 hs2 HB2 HX
  obtain ⟨X, hX⟩ : ∃ X, X = mdig (bl a) := ⟨_, rfl⟩
  obtain ⟨Y, hY⟩ : ∃ Y, Y = mdig (bl b) := ⟨_, rfl⟩
  have HXL := Lib.hid (show X.length = 35 by rw [hX]; exact mdig_len _)
  have HYL := Lib.hid (show Y.length = 35 by rw [hY]; exact mdig_len _)
  have HX15 := Lib.hid (show ∀ i, X.getD i 0 ≤ 15 by rw [hX]; exact mdig_le _)
  have HLM := Lib.hid (show lessN X Y 35 = lessN Y X 35 by rw [hX, hY]; exact less_more _ _)
  have HL3 := Lib.hid (show 256 * X.getD 32 0 + 16 * X.getD 33 0 + X.getD 34 0 = sumN X 35 by rw [hX]; exact last_three _)
  rw [← hX] at HX3
  rw [← hY] at HY3
  clear hX hY
  go_wp2_with fail
  go_loopw [33, 7, 8, 9] (fun i s p q W => ∃ k : Nat, k ≤ 35 ∧ i = .int .i64 (k : Int) ∧ s = .int .i64 (sumN X k : Int) ∧ p = .bool (lessN X Y k) ∧ q = .bool (lessN Y X k) ∧ Hid (Dr w3 W)) (fun i _ _ _ _ => 35 - (intOf i).toNat)
  case atStart => exact ⟨0, by omega, rfl, rfl, rfl, rfl, Lib.hid (Dr.refl _)⟩
  case round =>
    obtain ⟨k, hk, rfl, rfl, rfl, rfl, HDr⟩ := hrel
    by_cases hk35 : k < 35
    · obtain ⟨_, e1, _, hcx⟩ := dv_at (HDr.out.sl HX3.out) (k := k) (by rw [HXL.out]; exact hk35)
      injection e1 with e1
      subst e1
      rw [add_own] at hcx
      obtain ⟨_, e1, _, hcy⟩ := dv_at (HDr.out.sl HY3.out) (k := k) (by rw [HYL.out]; exact hk35)
      injection e1 with e1
      subst e1
      rw [add_own] at hcy
      have hx15 := HX15.out k
      have hSU : sumN X (k + 1) = if k < 32 then sumN X k + (15 - X.getD k 0) else sumN X k := rfl
      have hLE : lessN X Y (k + 1) = (lessN X Y k || decide (X.getD k 0 < Y.getD k 0)) := rfl
      have hMO : lessN Y X (k + 1) = (lessN Y X k || decide (Y.getD k 0 < X.getD k 0)) := rfl
      have hsl := sum_le X k
      obtain ⟨x, hx⟩ : ∃ x, x = X.getD k 0 := ⟨_, rfl⟩
      obtain ⟨y, hy⟩ : ∃ y, y = Y.getD k 0 := ⟨_, rfl⟩
      obtain ⟨s, hs⟩ : ∃ s, s = sumN X k := ⟨_, rfl⟩
      obtain ⟨p, hp⟩ : ∃ p, p = lessN X Y k := ⟨_, rfl⟩
      obtain ⟨q, hq⟩ : ∃ q, q = lessN Y X k := ⟨_, rfl⟩
      rw [← hx] at hcx hx15
      rw [← hy] at hcy
      rw [← hs] at hsl
      rw [← hs, ← hp, ← hq]
      rw [← hx, ← hs] at hSU
      rw [← hx, ← hy, ← hp] at hLE
      rw [← hx, ← hy, ← hq] at hMO
      have HSU := Lib.hid hSU
      have HLE := Lib.hid hLE
      have HMO := Lib.hid hMO
      have hkI : (k : Int) < 35 := by omega
      clear hx hy hs hp hq hSU hLE hMO
      by_cases hk32 : k < 32
      · cases p <;> cases q
        all_goals
          go_wp2_with fail
          go_quiet (fail)
          go_wp2_with fail
          go_roundw
          case rel => exact ⟨k + 1, by omega, by go_num, congrArg (Value.int .i64) (by rw [HSU.out, if_pos hk32]; omega), congrArg Value.bool (by rw [HLE.out]; simp), congrArg Value.bool (by rw [HMO.out]; simp), Lib.hid (HDr.out.drewN _)⟩
          case measure => simp [intOf]; omega
      · cases p <;> cases q
        all_goals
          go_wp2_with fail
          go_quiet (fail)
          go_wp2_with fail
          go_roundw
          case rel => exact ⟨k + 1, by omega, by go_num, congrArg (Value.int .i64) (by rw [HSU.out, if_neg hk32]), congrArg Value.bool (by rw [HLE.out]; simp), congrArg Value.bool (by rw [HMO.out]; simp), Lib.hid (HDr.out.drewN _)⟩
          case measure => simp [intOf]; omega
    · have hK : k = 35 := by omega
      obtain ⟨_, e1, _, hc32⟩ := dv_at (HDr.out.sl HX3.out) (k := 32) (by rw [HXL.out]; omega)
      injection e1 with e1
      subst e1
      rw [add_own] at hc32
      obtain ⟨_, e1, _, hc33⟩ := dv_at (HDr.out.sl HX3.out) (k := 33) (by rw [HXL.out]; omega)
      injection e1 with e1
      subst e1
      rw [add_own] at hc33
      obtain ⟨_, e1, _, hc34⟩ := dv_at (HDr.out.sl HX3.out) (k := 34) (by rw [HXL.out]; omega)
      injection e1 with e1
      subst e1
      rw [add_own] at hc34
      have h32 := HX15.out 32
      have h33 := HX15.out 33
      have h34 := HX15.out 34
      have hsum := HL3.out
      rw [← hK] at hsum
      obtain ⟨z32, hz32⟩ : ∃ x, x = X.getD 32 0 := ⟨_, rfl⟩
      obtain ⟨z33, hz33⟩ : ∃ x, x = X.getD 33 0 := ⟨_, rfl⟩
      obtain ⟨z34, hz34⟩ : ∃ x, x = X.getD 34 0 := ⟨_, rfl⟩
      obtain ⟨s, hs⟩ : ∃ s, s = sumN X k := ⟨_, rfl⟩
      obtain ⟨p, hp⟩ : ∃ p, p = lessN X Y k := ⟨_, rfl⟩
      have hq : lessN Y X k = p := by rw [hp, hK]; exact HLM.out.symm
      rw [← hz32] at hc32 h32 hsum
      rw [← hz33] at hc33 h33 hsum
      rw [← hz34] at hc34 h34 hsum
      rw [← hs] at hsum
      rw [← hs, ← hp, hq]
      obtain ⟨u1, hu1⟩ : ∃ u, u = 256 * z32 := ⟨_, rfl⟩
      obtain ⟨u2, hu2⟩ : ∃ u, u = 16 * z33 := ⟨_, rfl⟩
      obtain ⟨u3, hu3⟩ : ∃ u, u = u1 + u2 := ⟨_, rfl⟩
      have q1 : IntKind.i64.wrap (256 * (z32 : Int)) = (u1 : Int) := by rw [wrap64_id (by omega) (by omega)]; omega
      have q2 : IntKind.i64.wrap (16 * (z33 : Int)) = (u2 : Int) := by rw [wrap64_id (by omega) (by omega)]; omega
      have q3 : IntKind.i64.wrap ((u1 : Int) + (u2 : Int)) = (u3 : Int) := by rw [wrap64_id (by omega) (by omega)]; omega
      have q4 : IntKind.i64.wrap ((u3 : Int) + (z34 : Int)) = (s : Int) := by rw [wrap64_id (by omega) (by omega)]; omega
      have q5 : ((s : Int) == (s : Int)) = true := by simp
      have HBD := Lib.hid (HB3.out.trans (HDr.out.below w.heap.size))
      have hkI : ¬ (k : Int) < 35 := by omega
      clear hz32 hz33 hz34 hs hp hq hu1 hu2 hu3 hsum hK hk35
      cases p
      all_goals
        go_wp2_with fail
        go_quiet (fail)
        go_wp2_with fail
        go_ret
        exact ⟨rfl, below_drewN HBD.out _⟩

end WotsChecksum
end Go.Proofs.YtlfpppffjedngaaDoor
