/- The law LayoutPlacement of stelelaw16 returns true for every input, and each argument reads behind the call as it read before. No conditions. -/
import Derived.Test.YtogcgeiocndlbaaLk
namespace Go.Proofs.Ytogcgeiocndlbaa
namespace LayoutPlacement
open Go.RowKit Ly

theorem strs_at {D S : Nat} {l : List UInt8} {i : Nat} (h : i < (strs D S l).length) : (strs D S l)[i] = strp D S l i := by simp [strs]
theorem strp_data {D S : Nat} {l : List UInt8} {q k : Nat} (hk : k < D) (h : k < (strp D S l q).length) : (strp D S l q)[k] = ofL (blkAt l (q * D + k)) := by
  have h1 : (strp D S l q)[k]? = some (ofL (blkAt l (q * D + k))) := by
    unfold strp
    rw [List.getElem?_append_left (by rw [dat_len]; exact hk)]
    simp [dat, hk]
  rw [List.getElem?_eq_getElem h] at h1
  injection h1
theorem strp_size {D S : Nat} {l : List UInt8} {q k : Nat} (hD : 1 ≤ D) (h : k < (strp D S l q).length) : ((strp D S l q)[k]).size = 28 := by
  have hm : (strp D S l q)[k] ∈ dat D l q ++ sprs (dat D l q) S := List.getElem_mem h
  rcases List.mem_append.1 hm with hm | hm
  · exact dat_size D l q _ hm
  · obtain ⟨i, _, he⟩ := List.mem_map.1 hm
    rw [← he]
    unfold spr
    rw [ofL_size, blk_len]
    have h1 : ((dat D l q).map bl).getD 0 [] ∈ (dat D l q).map bl := by
      cases hd : (dat D l q).map bl with
      | nil => have := congrArg List.length hd; rw [List.length_map, dat_len] at this; simp at this; omega
      | cons x r => simp [List.getD]
    obtain ⟨y, hy, he2⟩ := List.mem_map.1 h1
    rw [← he2]
    have := dat_size D l q y hy
    simpa [bl] using this
theorem get_l' (s : ByteArray) (k : Nat) (h : k < s.size) : (bl s).getD k 0 = s[k] := by
  unfold bl
  rw [List.getD, List.getElem?_eq_getElem (by simpa using h)]
  rfl
theorem blk_byte (l : List UInt8) (k j : Nat) (hj : j < 28) (h : j < (ofL (blkAt l k)).size) : (ofL (blkAt l k))[j] = l.getD (28 * k + j) 0 := by
  have e := get_l' (ofL (blkAt l k)) j h
  rw [← e, bl_ofL, List.getD, List.getElem?_eq_getElem (by rw [blkAt_len]; exact hj), ← blkAt_at (by rw [blkAt_len]; exact hj)]
  rfl

/-- how many of the first x places hold a byte of the stream -/
def cnt (n x : Nat) : Nat := min n x
theorem cnt_yes {n x : Nat} (h : x < n) : cnt n (x + 1) = cnt n x + 1 := by unfold cnt; omega
theorem cnt_no {n x : Nat} (h : ¬ x < n) : cnt n (x + 1) = cnt n x := by unfold cnt; omega

set_option maxRecDepth 100000 in
set_option maxHeartbeats 4000000 in
theorem core (w : World) (d t : Int) (hd : I64 d) (ht : I64 t) (s : ByteArray) (hs : s.size ≤ maxLen) :
    Calls Try.prog 7 #[.agg #[.int .i64 d, .int .i64 t], .string s] w fun e w' => e = .returned (.bool true) ∧ Below w.heap.size w w' := by
  have hs1 : s.size ≤ 9223372036854775807 := by unfold maxLen at hs; omega
  clear hs
  go_enter Try.func7, Try.ntmps7
  go_wp2_with fail
  refine (alive_f _).mono ?_
  rintro e w1 ⟨rfl, hb⟩
  have HL := Lib.hid ((Blk.new w 23 #[.int .i64 d, .int .i64 t]).below hb)
  have HB1 := Lib.hid (((Below.refl w.heap.size w).alloc (Nat.le_refl _) (.cells #[.int .i64 d, .int .i64 t] 23)).trans (hb.mono (by simp)))
  clear hb
  by_cases hbig : 600 < s.size
  · go_wp2_with fail
    go_ret
    exact ⟨rfl, HB1.out⟩
  have hbd : decide ((600 : Int) < s.size) = false := decide_eq_false (by omega)
  have c0 := HL.out.cell 0
  have c1 := HL.out.cell 1
  simp only [List.getElem?_toArray, List.getElem?_cons_zero, List.getElem?_cons_succ] at c0 c1
  by_cases hok : okL d t
  · obtain ⟨h1, h2, h3, h4⟩ := hok
    obtain ⟨D, rfl⟩ := Int.eq_ofNat_of_zero_le (show 0 ≤ d by omega)
    obtain ⟨S, rfl⟩ := Int.eq_ofNat_of_zero_le h3
    have hD : 1 ≤ D := by omega
    have hD8 : D ≤ 8 := by omega
    have hS : S ≤ 7 := by omega
    clear h1 h2 h3 h4 hd ht
    have hbl : (bl s).length = s.size := by simp [bl]
    have hst : nst D (bl s) ≤ 600 := Nat.le_trans (nst_le hD (q := (bl s).length) (Nat.le_mul_of_pos_left _ (by omega))) (by omega)
    have HBS := Lib.hid hbl
    clear hbl
    go_wp2_with fail
    refine (stripes_try D S hD hD8 hS s (by omega) _).mono ?_
    rintro e w2 ⟨v, vs, rfl, hown, hrows, hb2⟩
    obtain ⟨A, c, rfl, hrd⟩ := Rd.of (w' := w2) hown hrows
    have HR := Lib.hid hrd
    have HL2 := Lib.hid (HL.out.below hb2)
    have HB2 := Lib.hid (HB1.out.trans (hb2.mono HB1.out.size))
    have hlen : (strs D S (bl s)).length = nst D (bl s) := by simp [strs]
    rw [hlen] at HR ⊢
    have hlc : nst D (bl s) ≤ c := by obtain ⟨vs, hsl, _⟩ := HR.out.2; exact hsl.1
    have hcm : c ≤ 9223372036854775807 := by obtain ⟨vs, hsl, _⟩ := HR.out.2; exact hsl.2.1
    have HLN := Lib.hid hlen
    obtain ⟨n, hn⟩ : ∃ n, n = nst D (bl s) := ⟨_, rfl⟩
    have HN := Lib.hid hn
    rw [← hn] at hst HR hlc ⊢
    clear hown hrows hb2 hrd hlen hn c0 c1 HL HB1
    go_wp2_with fail
    go_loopw [7, 8] (fun n_ i_ wr => ∃ i X N : Nat, i ≤ n ∧ i_ = .int .i64 (i : Int) ∧ n_ = .int .i64 (N : Int) ∧ N ≤ 600 ∧ Hid (X = 28 * (i * D)) ∧ Hid (N = cnt s.size X) ∧ Hid (Below w2.heap.size w2 wr)) (fun _ i_ _ => n - (intOf i_).toNat)
    case atStart => exact ⟨0, 0, 0, by omega, rfl, rfl, by omega, Lib.hid (by simp), Lib.hid (by simp [cnt]), Lib.hid (Below.refl _ _)⟩
    case round =>
      obtain ⟨i, X, N, hi, rfl, rfl, hN6, HX, HCN, HBr⟩ := hrel
      by_cases hin : i < n
      · have hil : i < (strs D S (bl s)).length := by rw [HLN.out, ← HN.out]; exact hin
        obtain ⟨ad, A1, c1', rfl, _, hc1, hl1⟩ := (HR.out.below HBr.out).at_ hil
        have hsl : (strs D S (bl s))[i].length = D + S := by rw [strs_at, strp_len]
        rw [hsl] at hc1 hl1
        have HL1 := Lib.hid hl1
        have hl3 := (HL2.out.below HBr.out)
        have c0 := hl3.cell 0
        have c1 := hl3.cell 1
        simp only [List.getElem?_toArray, List.getElem?_cons_zero, List.getElem?_cons_succ] at c0 c1
        have hlcc : D + S ≤ c1' := hl1.1
        have hlcm : c1' ≤ 9223372036854775807 := hl1.2.1
        have HSL := Lib.hid hsl
        have HC1 := Lib.hid hc1
        have HL3 := Lib.hid hl3
        clear hl1 hl3 hsl
        obtain ⟨wo, rfl⟩ : ∃ wo : World, wo = wr := ⟨_, rfl⟩
        have hwa : IntKind.i64.wrap ((D : Int) + (S : Int)) = (D : Int) + (S : Int) := IntWalk.i64_in _ (by omega)
        have hne : (((D + S : Nat) : Int) != (D : Int) + (S : Int)) = false := by simp
        go_wp2_with fail
        go_quiet (fail)
        clear hwa hne hc1 c0 c1
        go_wp2_with fail
        go_loopw [7, 9, 10, 11, 12] (fun n_ k_ _ _ _ wq => ∃ k N : Nat, k ≤ D + S ∧ k_ = .int .i64 (k : Int) ∧ n_ = .int .i64 (N : Int) ∧ N ≤ 600 ∧ Hid (N = cnt s.size (X + 28 * min k D)) ∧ Hid (Below wo.heap.size wo wq)) (fun _ k_ _ _ _ _ => D + S - (intOf k_).toNat)
        case atStart => exact ⟨0, N, by omega, rfl, rfl, hN6, Lib.hid (by rw [HCN.out]; simp), Lib.hid (below_drewN (Below.refl _ _) _)⟩
        case round =>
          obtain ⟨k, N, hk, rfl, rfl, hN6, HCN, HBq⟩ := hrel
          have hc1 : wr.cell? (ad.add i) = some (.slice A1 (D + S) c1') := (HBq.out.cell (by rw [add_block]; assumption)).trans HC1.out
          have hl4 := HL3.out.below HBq.out
          have c0 := hl4.cell 0
          have c1 := hl4.cell 1
          simp only [List.getElem?_toArray, List.getElem?_cons_zero, List.getElem?_cons_succ] at c0 c1
          clear hl4
          by_cases hkl : k < D + S
          · have hkl' : k < (strs D S (bl s))[i].length := by rw [HSL.out]; exact hkl
            have hks : decide ((k : Int) < (D : Int) + (S : Int)) = true := decide_eq_true (by omega)
            have hks2 : decide (k < D + S) = true := decide_eq_true hkl
            obtain ⟨a1, rfl, hab, hx1⟩ := (HL1.out.below HBq.out).at_ hkl'
            have hz28 : ((strs D S (bl s))[i][k]).size = 28 := by
              have h1 := strs_at hil
              have h2 : ∀ (l : List ByteArray) (h : k < l.length), l = strp D S (bl s) i → (l[k]).size = 28 := fun l h e => by subst e; exact strp_size hD h
              exact h2 _ hkl' h1
            have HZD := Lib.hid (fun hkD : k < D => show (strs D S (bl s))[i][k] = ofL (blkAt (bl s) (i * D + k)) from by
              have h1 := strs_at hil
              have h2 : ∀ (l : List ByteArray) (h : k < l.length), l = strp D S (bl s) i → l[k] = ofL (blkAt (bl s) (i * D + k)) := fun l h e => by subst e; exact strp_data hkD h
              exact h2 _ hkl' h1)
            obtain ⟨z, hz⟩ : ∃ z, z = (strs D S (bl s))[i][k] := ⟨_, rfl⟩
            rw [← hz] at hx1 hz28 HZD
            have HZ28 := Lib.hid hz28
            have hz1 : z.size ≤ 28 := by omega
            have hzt : ((z.size : Int) != 28) = false := by rw [hz28]; rfl
            clear hz28 hz
            by_cases hkD : k < D
            · have hadw : ad.block < wo.heap.size := by assumption
              have HA1 := Lib.hid (show ad.block < wr.heap.size from Nat.lt_of_lt_of_le hadw HBq.out.size)
              clear hadw
              have HC1b := Lib.hid hc1
              have HL4 := Lib.hid (HL3.out.below HBq.out)
              have HX1 := Lib.hid hx1
              have HAB := Lib.hid hab
              have HZE := Lib.hid (HZD.out hkD)
              have hiD : i * D ≤ 4800 := Nat.le_trans (Nat.mul_le_mul (show i ≤ 600 by omega) hD8) (by omega)
              have hX4 : X ≤ 134400 := by rw [HX.out]; omega
              obtain ⟨wm, rfl⟩ : ∃ wm : World, wm = wr := ⟨_, rfl⟩
              have hdk : decide (D ≤ k) = false := decide_eq_false (by omega)
              go_wp2_with fail
              clear hc1 c0 c1 hx1 hzt
              go_loopw [7, 10, 11, 12] (fun n_ j_ _ _ wq => ∃ j N : Nat, j ≤ 28 ∧ j_ = .int .i64 (j : Int) ∧ n_ = .int .i64 (N : Int) ∧ N ≤ 600 ∧ Hid (N = cnt s.size (X + 28 * k + j)) ∧ Hid (Below wm.heap.size wm wq)) (fun _ j_ _ _ _ => 28 - (intOf j_).toNat)
              case atStart => exact ⟨0, N, by omega, rfl, rfl, hN6, Lib.hid (by rw [HCN.out, show min k D = k by omega]; rfl), Lib.hid (Below.refl _ _)⟩
              case round =>
                obtain ⟨j, N, hj, rfl, rfl, hN6, HCN, HBj⟩ := hrel
                have hl5 := HL4.out.below HBj.out
                have c0 := hl5.cell 0
                have c1 := hl5.cell 1
                simp only [List.getElem?_toArray, List.getElem?_cons_zero, List.getElem?_cons_succ] at c0 c1
                clear hl5
                by_cases hj28 : j < 28
                · obtain ⟨o, ho⟩ : ∃ o : Nat, o = X + 28 * k + j := ⟨_, rfl⟩
                  have hoV : offV (D : Int) (i : Int) (k : Int) (j : Int) = (o : Int) := by
                    unfold offV
                    rw [ho, HX.out]
                    rw [← Int.natCast_mul]
                    omega
                  have HOF := Lib.hid (fun W => show Calls Try.prog 17 #[.agg #[.int .i64 (D : Int), .int .i64 (S : Int)], .agg #[.int .i64 (i : Int), .int .i64 (k : Int), .int .i64 (j : Int)]] W (Nn (o : Int) 0 W) from by
                    have := off_yes (D : Int) (S : Int) (i : Int) (k : Int) (j : Int) ⟨⟨by omega, by omega, by omega, by omega⟩, by omega, by omega, by omega, by omega, by omega, by omega, by rw [hoV]; omega⟩ W
                    rwa [hoV] at this)
                  have HOE := Lib.hid ho
                  have hos : o ≤ 200000 := by omega
                  rw [← ho] at HCN
                  clear ho hoV
                  go_wp2_with fail
                  refine (HOF.out _).mono ?_
                  rintro e w5 ⟨rfl, hb5⟩
                  have HB5 := Lib.hid (HBj.out.trans (hb5.mono HBj.out.size))
                  have hc1 : w5.cell? (ad.add i) = some (.slice (some a1) (D + S) c1') := (HB5.out.cell (by rw [add_block]; exact HA1.out)).trans HC1b.out
                  have hx1 : w5.cell? (a1.add k) = some (.string z) := (HB5.out.cell (by rw [add_block]; exact HAB.out)).trans HX1.out
                  clear hb5 c0 c1
                  have hzj : j < z.size := by rw [HZ28.out]; exact hj28
                  by_cases hol : o < s.size
                  · have hby : z[j] = s[o] := by
                      have h1 : ∀ (y : ByteArray) (h : j < y.size), y = ofL (blkAt (bl s) (i * D + k)) → y[j] = (bl s).getD (28 * (i * D + k) + j) 0 := fun y h e => by subst e; exact blk_byte _ _ _ hj28 h
                      rw [h1 z hzj HZE.out, ← get_l' s o hol, HOE.out, HX.out, Nat.mul_add]
                    have hne : ((z[j].toNat : Int) != (s[o].toNat : Int)) = false := by rw [hby]; simp
                    have hd1 : decide (o < s.size) = true := decide_eq_true hol
                    have hd2 : decide (s.size ≤ o) = false := decide_eq_false (by omega)
                    clear hby
                    go_wp2_with fail
                    go_quiet (fail)
                    have HN7 := Lib.hid (show N + 1 ≤ 600 from by rw [HCN.out]; unfold cnt; omega)
                    clear hne hd1 hd2
                    go_wp2_with fail
                    go_roundw
                    case rel => exact ⟨j + 1, N + 1, by omega, by go_num, by go_num, HN7.out, Lib.hid (by rw [← Nat.add_assoc, ← HOE.out, cnt_yes hol, HCN.out]), Lib.hid (below_drewN HB5.out _)⟩
                    case measure => simp [intOf]; omega
                  · have hby : z[j] = 0 := by
                      have h1 : ∀ (y : ByteArray) (h : j < y.size), y = ofL (blkAt (bl s) (i * D + k)) → y[j] = (bl s).getD (28 * (i * D + k) + j) 0 := fun y h e => by subst e; exact blk_byte _ _ _ hj28 h
                      rw [h1 z hzj HZE.out]
                      have h2 : (bl s).length ≤ 28 * (i * D + k) + j := by
                        rw [HBS.out, Nat.mul_add, ← HX.out, ← HOE.out]
                        omega
                      rw [List.getD, List.getElem?_eq_none h2]
                      rfl
                    have hne : ((z[j].toNat : Int) != 0) = false := by rw [hby]; rfl
                    have hd1 : decide (o < s.size) = false := decide_eq_false hol
                    have hd2 : decide (s.size ≤ o) = true := decide_eq_true (by omega)
                    clear hby
                    go_wp2_with fail
                    go_quiet (fail)
                    clear hne hd1 hd2
                    go_wp2_with fail
                    go_roundw
                    case rel => exact ⟨j + 1, N, by omega, by go_num, rfl, hN6, Lib.hid (by rw [← Nat.add_assoc, ← HOE.out, cnt_no hol, HCN.out]), Lib.hid (below_drewN HB5.out _)⟩
                    case measure => simp [intOf]; omega
                · obtain rfl : j = 28 := by omega
                  go_wp2_with fail
                  go_roundw
                  case rel => exact ⟨k + 1, N, by omega, by go_num, rfl, hN6, Lib.hid (by rw [HCN.out, show min (k + 1) D = k + 1 by omega, Nat.mul_add, Nat.add_assoc]), Lib.hid (HBq.out.trans (HBj.out.mono HBq.out.size))⟩
                  case measure => simp [intOf]; omega
            · go_wp2_with fail
              go_roundw
              case rel => exact ⟨k + 1, N, by omega, by go_num, rfl, hN6, Lib.hid (by rw [HCN.out, show min (k + 1) D = min k D by omega]), HBq⟩
              case measure => simp [intOf]; omega
          · go_wp2_with fail
            go_roundw
            case rel => exact ⟨i + 1, X + 28 * D, N, by omega, by go_num, rfl, hN6, Lib.hid (by rw [HX.out, Nat.add_mul, Nat.one_mul, Nat.mul_add]), Lib.hid (by rw [HCN.out, show min k D = D by omega]), Lib.hid (HBr.out.trans (HBq.out.mono HBr.out.size))⟩
            case measure => simp [intOf]; omega
      · have hfin : N = s.size := by
          rw [HCN.out, HX.out]
          have h1 : i = nst D (bl s) := by rw [← HN.out]; omega
          have h2 : (bl s).length ≤ 28 * D * nst D (bl s) := by
            refine Nat.le_of_not_lt fun h => ?_
            have := nst_lt hD h
            omega
          rw [h1]
          rw [HBS.out] at h2
          unfold cnt
          rw [Nat.mul_comm (nst D (bl s)) D, ← Nat.mul_assoc]
          omega
        subst hfin
        have HF := Lib.hid (HB2.out.trans (HBr.out.mono HB2.out.size))
        go_wp2_with fail
        go_ret
        exact ⟨rfl, HF.out⟩
  · have HS := Lib.hid (fun W => stripes_no d t hok s (by omega) W)
    have HC := Lib.hid (fun W => check_no d t hok W)
    clear hok
    go_wp2_with fail
    refine (HS.out _).mono ?_
    rintro e w2 ⟨v, vs, rfl, hown, hrows, hb2⟩
    obtain ⟨A, c, rfl, _, _⟩ := own_form hown
    have HL2 := Lib.hid (HL.out.below hb2)
    have HB2 := Lib.hid (HB1.out.trans (hb2.mono HB1.out.size))
    clear hown hrows hb2 c0 c1 HL HB1
    have c0 := HL2.out.cell 0
    have c1 := HL2.out.cell 1
    simp only [List.getElem?_toArray, List.getElem?_cons_zero, List.getElem?_cons_succ] at c0 c1
    go_wp2_with fail
    refine (HC.out _).mono ?_
    rintro e w3 ⟨rfl, hb3⟩
    have HB3 := Lib.hid (HB2.out.trans (hb3.mono HB2.out.size))
    clear hb3 c0 c1
    go_wp2_with fail
    go_ret
    exact ⟨rfl, HB3.out⟩

end LayoutPlacement
end Go.Proofs.Ytogcgeiocndlbaa
