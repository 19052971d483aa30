/- Walk of the reference's interpolation. -/
import Derived.Test.YtphlagmalppbkaaPn
namespace Go.Proofs.Ytphlagmalppbkaa
open Go.RowKit

/-- no two of the first k are alike -/
def Apart (xs : List UInt8) (k : Nat) : Prop := ∀ a b, b < a → a < k → xs.getD a 0 ≠ xs.getD b 0
theorem apart_nodup {xs : List UInt8} (h : Apart xs xs.length) : xs.Nodup := by
  rw [List.nodup_iff_pairwise_ne, List.pairwise_iff_getElem]
  intro i j hi hj hij e
  have := h j i hij hj
  rw [getD_lt hi, getD_lt hj] at this
  exact this e.symm
theorem not_nodup {xs : List UInt8} {i j : Nat} (hi : i < xs.length) (hj : j < xs.length) (hne : j < i) (h : xs[i] = xs[j]) : ¬ xs.Nodup := fun hd => by
  have := (List.getElem_inj hd).1 h
  omega
theorem lgT_skip (xs ys : List UInt8) (i : Nat) : lgT xs ys i (i + 1) = lgT xs ys i i := by
  conv => lhs; unfold lgT
  rw [if_pos rfl]
theorem lgT_more (xs ys : List UInt8) {i k : Nat} (hk : k < xs.length) (hi : i < xs.length) (hne : k ≠ i) : lgT xs ys i (k + 1) = pscale (rmulTo (lgT xs ys i k) [xs[k], 1] (lgT xs ys i k).length) (Gf.inv (Gf.ga xs[i] xs[k])) 0 := by
  conv => lhs; unfold lgT
  rw [if_neg hne, getD_lt hk, getD_lt hi, rmul_pmul]

set_option maxRecDepth 100000 in
set_option maxHeartbeats 1000000 in
theorem rinterp_b (w : World) (A : Option Addr) (n c : Nat) (xs : List UInt8) (A' : Option Addr) (n' c' : Nat) (ys : List UInt8) (h : Byt w A n c xs) (h' : Byt w A' n' c' ys) (hp : xs.length ≤ 64) :
    Calls Try.prog 15 #[.slice A n c, .slice A' n' c'] w (Gives2 w (ripRun xs ys)) := by
  have hn := h.len
  have hn' := h'.len
  have hlc : n ≤ c := h.1
  have hcm : c ≤ 9223372036854775807 := h.2.1
  have hlc' : n' ≤ c' := h'.1
  have hcm' : c' ≤ 9223372036854775807 := h'.2.1
  have hbd : n ≤ 64 := by omega
  have H := Lib.hid h
  have H' := Lib.hid h'
  have HN := Lib.hid hn
  have HN' := Lib.hid hn'
  clear h h' hp
  by_cases hnn : n = n'
  · subst hnn
    have HR := Lib.hid (show ripRun xs ys = if xs.Nodup then (lgS xs ys xs.length, 0) else ([], 8) by unfold ripRun; rw [if_pos (by rw [← hn, ← hn'])])
    clear hn hn'
    go_enter Try.func15, Try.ntmps15
    go_wp2
    go_loopw [6] (fun i wr => ∃ k : Nat, k ≤ n ∧ i = .int .i64 (k : Int) ∧ Apart xs k ∧ Dr w wr) (fun i _ => n - (intOf i).toNat)
    case atStart => exact ⟨0, by omega, rfl, fun a b _ h => absurd h (by omega), ⟨0, rfl⟩⟩
    case round =>
      obtain ⟨k, hk, rfl, hap, hd⟩ := hrel
      have HA := Lib.hid hap
      have HD := Lib.hid hd
      clear hap hd
      by_cases hlt : k < n
      · have hx : k < xs.length := by rw [← HN.out]; omega
        go_wp2
        go_loopw [7] (fun i wq => ∃ j : Nat, j ≤ k ∧ i = .int .i64 (j : Int) ∧ (∀ b, b < j → xs.getD k 0 ≠ xs.getD b 0) ∧ Dr w wq) (fun i _ => k - (intOf i).toNat)
        case atStart => exact ⟨0, by omega, rfl, fun b h => absurd h (by omega), HD.out⟩
        case round =>
          obtain ⟨j, hj, rfl, hap, hd⟩ := hrel
          have HA2 := Lib.hid hap
          have HD2 := Lib.hid hd
          have HX := Lib.hid (H.out.dr hd)
          clear hap hd
          by_cases hlt2 : j < k
          · have hjx : j < xs.length := by omega
            obtain ⟨ad, rfl, _, hcx⟩ := Byt.at_ HX.out hx
            obtain ⟨ad', had', _, hcy⟩ := Byt.at_ HX.out hjx
            injection had' with had'
            subst had'
            have hjn : j < n := by omega
            by_cases he : xs[k] = xs[j]
            · have HND := Lib.hid (not_nodup hx hjx hlt2 he)
              rw [← he] at hcy
              clear he
              go_wp2
              go_quiet (fail)
              go_wp2
              go_ret2
              unfold Gives2
              rw [HR.out, if_neg HND.out]
              have hs1 := (HD2.out.below w.heap.size).size
              have hl2 := World.ownsRow_lit (e := 5) (size := 1) (wr.drewN nq) #[] 0 hs1 (Nat.zero_le _) rfl
              exact ⟨_, rfl, by simpa [bv] using hl2, ((HD2.out.below _).trans (Dr.below (show Dr wr (wr.drewN nq) from ⟨nq, rfl⟩) _)).alloc hs1 _⟩
            · have hb : ((xs[k].toNat : Int) == (xs[j].toNat : Int)) = false := by
                rw [beq_eq_false_iff_ne]
                intro h
                exact he (UInt8.toNat_inj.1 (by omega))
              have HE := Lib.hid he
              clear he
              go_wp2
              go_quiet (fail)
              go_wp2
              go_roundw
              case rel =>
                refine ⟨j + 1, by omega, by go_num, fun b hb => ?_, HD2.out.drewN _⟩
                rcases Nat.lt_or_eq_of_le (Nat.le_of_lt_succ hb) with hb | rfl
                · exact HA2.out b hb
                · rw [getD_lt hx, getD_lt hjx]; exact HE.out
              case measure => simp [intOf]; omega
          · have hjk : j = k := by omega
            subst hjk
            go_wp2
            go_roundw
            case rel =>
              refine ⟨j + 1, by omega, by go_num, fun a b hba ha => ?_, HD2.out⟩
              rcases Nat.lt_or_eq_of_le (Nat.le_of_lt_succ ha) with ha | rfl
              · exact HA.out a b hba ha
              · exact HA2.out b hba
            case measure => simp [intOf]; omega
      · have HND := Lib.hid (apart_nodup (xs := xs) (by rw [← HN.out, show n = k by omega]; exact HA.out))
        have hs0 := (HD.out.below w.heap.size).size
        have HB0 := Lib.hid ((HD.out.below w.heap.size).alloc hs0 (.cells #[] 5))
        have HO0 := Lib.hid (World.ownsRow_lit (e := 5) (size := 1) wr #[] 0 hs0 (Nat.zero_le _) rfl)
        clear hs0 HA
        go_wp2
        clear hlt hk
        go_loopw [8, 9] (fun vs i wq => ∃ k : Nat, k ≤ n ∧ i = .int .i64 (k : Int) ∧ wq.ownsRow w.heap.size 5 1 vs (lgS xs ys k).length (bv (lgS xs ys k)) ∧ Below w.heap.size w wq) (fun _ i _ => n - (intOf i).toNat)
        case atStart => exact ⟨0, by omega, rfl, by simpa [bv, lgS] using HO0.out, HB0.out⟩
        case round =>
          obtain ⟨i, hi, rfl, hos, hb⟩ := hrel
          obtain ⟨A1, c1, rfl, hS, _⟩ := byt_own hos
          have HS := Lib.hid hS
          have HOS := Lib.hid hos
          have HB := Lib.hid hb
          have hsl : (lgS xs ys i).length ≤ 64 := by have := lgS_len xs ys i (by rw [← HN.out]; exact hi); rw [← HN.out] at this; omega
          clear hS hos hb HB0 HO0
          by_cases hlt : i < n
          · have hx : i < xs.length := by rw [← HN.out]; omega
            have hy : i < ys.length := by rw [← HN'.out]; omega
            obtain ⟨ad', had', _, hcy⟩ := Byt.at_ (H'.out.below HB.out) hy
            subst had'
            have HG := Lib.hid (show lgT xs ys i 0 = trim [ys[i]] by rw [← getD_lt hy]; rfl)
            go_wp2_with fail
            refine (rtrim_b _ _ 1 1 [ys[i]] (lit_byt wr wr.heap.size rfl [ys[i]] #[.int .u8 (ys[i].toNat : Int)] rfl 1 rfl (by omega)) (by simp)).mono ?_
            rw [← HG.out]
            rintro e w2 ⟨v2, rfl, hown2, hb2⟩
            have HB2 := Lib.hid ((HB.out.alloc HB.out.size _).trans (hb2.mono (by simp; exact Nat.le_succ_of_le HB.out.size)))
            have HO2 := Lib.hid (own_mono hown2 (show w.heap.size ≤ _ by simp; exact Nat.le_succ_of_le HB.out.size))
            have HS2 := Lib.hid ((own_below (own_alloc HOS.out _) hb2))
            clear hown2 hb2 hcy
            go_wp2
            go_loopw [10, 11] (fun vt j wq => ∃ k : Nat, k ≤ n ∧ j = .int .i64 (k : Int) ∧ wq.ownsRow w.heap.size 5 1 vt (lgT xs ys i k).length (bv (lgT xs ys i k)) ∧ wq.ownsRow w.heap.size 5 1 (.slice A1 (lgS xs ys i).length c1) (lgS xs ys i).length (bv (lgS xs ys i)) ∧ Below w.heap.size w wq) (fun _ j _ => n - (intOf j).toNat)
            case atStart => exact ⟨0, by omega, rfl, HO2.out, HS2.out, HB2.out⟩
            case round =>
              obtain ⟨k, hk, rfl, hot, hos, hb⟩ := hrel
              obtain ⟨A3, c3, rfl, hT, _⟩ := byt_own hot
              have HT := Lib.hid hT
              have HOT := Lib.hid hot
              have HOS3 := Lib.hid hos
              have HB3 := Lib.hid hb
              have htl : (lgT xs ys i k).length ≤ 65 := by have := lgT_len xs ys i k; omega
              clear hT hot hos hb
              by_cases hlt2 : k < n
              · by_cases hki : k = i
                · subst hki
                  have HSK := Lib.hid (lgT_skip xs ys k)
                  go_wp2
                  go_roundw
                  case rel => exact ⟨k + 1, by omega, by go_num, by rw [HSK.out]; exact HOT.out, HOS3.out, HB3.out⟩
                  case measure => simp [intOf]; omega
                · have hkx : k < xs.length := by rw [← HN.out]; omega
                  have HMO := Lib.hid (lgT_more xs ys hkx hx hki)
                  have HXQ := Lib.hid (H.out.below HB3.out)
                  obtain ⟨ad, rfl, _, hcx⟩ := Byt.at_ HXQ.out hx
                  obtain ⟨ad2, had2, _, hcy⟩ := Byt.at_ HXQ.out hkx
                  injection had2 with had2
                  subst had2
                  go_wp2
                  go_quiet ((first | (go_at_call 33; exact Calls.quiet_of_same (radd_b _ _ _)) | (go_at_call 32; exact Calls.quiet_of_same (rinv_b _ _))))
                  have HD4 := Lib.hid (show Dr wr (wr.drewN nq) from ⟨nq, rfl⟩)
                  have HB4 := Lib.hid (HB3.out.trans (HD4.out.below _))
                  have HT4 := Lib.hid (HT.out.dr HD4.out)
                  have HOS4 := Lib.hid (show (wr.drewN nq).ownsRow _ _ _ _ _ _ from own_below HOS3.out (HD4.out.below _))
                  have HX4 := Lib.hid (Byt.at_ (HXQ.out.dr HD4.out) hkx)
                  have HSZ := Lib.hid (show wr.heap.size = (wr.drewN nq).heap.size from rfl)
                  go_wp2_with fail
                  clear hcx hcy HX4
                  generalize wr.drewN nq = w4 at *
                  refine (rpmul_b _ A3 _ c3 (lgT xs ys i k) (some ⟨wr.heap.size, 0, none⟩) 2 2 [xs[k], 1] (HT4.out.alloc _) (lit_byt w4 wr.heap.size HSZ.out [xs[k], 1] #[.int .u8 (xs[k].toNat : Int), .int .u8 1] rfl 2 rfl (by omega)) (by omega) (by simp)).mono ?_
                  rintro e w5 ⟨v5, rfl, hown, hb⟩
                  obtain ⟨A5, c5, rfl, hy5, _⟩ := byt_own hown
                  have HB5 := Lib.hid ((HB4.out.alloc HB4.out.size (.cells #[.int .u8 (xs[k].toNat : Int), .int .u8 1] 5)).trans (hb.mono (by simp; exact Nat.le_succ_of_le HB4.out.size)))
                  have HOS5 := Lib.hid (own_below (own_alloc HOS4.out _) hb)
                  have HY5 := Lib.hid hy5
                  have hl5 : (rmulTo (lgT xs ys i k) [xs[k], 1] (lgT xs ys i k).length).length ≤ 70 := by rw [rmul_pmul]; have := pmul_lin_le (lgT xs ys i k) xs[k]; omega
                  clear hown hb hy5
                  go_wp2_with fail
                  refine (rscale_b _ A5 _ c5 _ (Gf.inv (Gf.ga xs[i] xs[k])) 0 HY5.out (by omega) (by omega)).mono ?_
                  rintro e w6 ⟨v6, rfl, hown, hb⟩
                  have HB6 := Lib.hid (HB5.out.trans (hb.mono HB5.out.size))
                  have HO6 := Lib.hid (own_mono hown HB5.out.size)
                  have HOS6 := Lib.hid (own_below HOS5.out hb)
                  clear hown hb
                  go_wp2
                  go_roundw
                  case rel => exact ⟨k + 1, by omega, by go_num, by rw [HMO.out]; exact HO6.out, HOS6.out, HB6.out⟩
                  case measure => simp [intOf]; omega
              · have HLS := Lib.hid (show lgS xs ys (i + 1) = padd (lgS xs ys i) (lgT xs ys i k) by rw [show k = xs.length by rw [← HN.out]; omega]; rfl)
                obtain ⟨A9, c9, he9, hS9, _⟩ := byt_own HOS3.out
                injection he9 with e1 e2 e3
                subst e1 e3
                have HS9 := Lib.hid hS9
                clear hS9
                go_wp2_with fail
                refine (rpadd_b _ A1 _ c1 _ A3 _ c3 _ HS9.out HT.out (by omega) (by omega)).mono ?_
                rintro e w6 ⟨v6, rfl, hown, hb⟩
                have HB6 := Lib.hid (HB3.out.trans (hb.mono HB3.out.size))
                have HO6 := Lib.hid (own_mono hown HB3.out.size)
                clear hown hb
                go_wp2
                go_roundw
                case rel => exact ⟨i + 1, by omega, by go_num, by rw [HLS.out]; exact HO6.out, HB6.out⟩
                case measure => simp [intOf]; omega
          · have HK := Lib.hid (show i = xs.length by rw [← HN.out]; omega)
            go_wp2
            go_ret2
            unfold Gives2
            rw [HR.out, if_pos HND.out, ← HK.out]
            exact ⟨_, rfl, HOS.out, HB.out⟩
  · have hr : ripRun xs ys = ([], 1) := by unfold ripRun; rw [if_neg (by omega)]
    have HR := Lib.hid hr
    clear hr hn hn'
    go_enter Try.func15, Try.ntmps15
    go_wp2
    go_ret2
    unfold Gives2
    rw [HR.out]
    have hl2 := World.ownsRow_lit (e := 5) (size := 1) w #[] 0 (Nat.le_refl _) (Nat.zero_le _) rfl
    exact ⟨_, rfl, by simpa [bv] using hl2, (Below.refl _ _).alloc (Nat.le_refl _) _⟩

end Go.Proofs.Ytphlagmalppbkaa
