/- The law LayoutRestores of stelelaw16 returns true for every input, and each argument reads behind the call as it read before. No conditions. -/
import Derived.Test.YtogcgeiocndlbaaYf
namespace Go.Proofs.Ytogcgeiocndlbaa
namespace LayoutRestores
open Go.RowKit Ly

theorem info_int : (Try.prog.info? 3).map (fun i => (i.zero, i.size, i.bytes)) = some (some (.int .i64 0), 1, 8) := by kernel_rfl
theorem ty_i64 : OneTy Try.prog 41 3 (.int .i64 0) 8 := ⟨Try.underlying41, info_parts info_int, rfl⟩
theorem tst_bit16z {b : Nat} (hb : b < 65536) (i : Nat) : (bits .and .u16 ((b : Int) / 2 ^ i) 1 == 0) = !b.testBit i := by
  have e : ((b : Int) / 2 ^ i) = ((b / 2 ^ i : Nat) : Int) := by rw [Int.natCast_ediv, Int.natCast_pow]; rfl
  have hl : b / 2 ^ i ≤ b := Nat.div_le_self _ _
  rw [e, show (1 : Int) = ((1 : Nat) : Int) from rfl, u16_and_nat _ _ (by omega) (by omega), nat_mask1, Nat.testBit_eq_decide_div_mod_eq, Bool.eq_iff_iff]
  simp; omega
theorem u16_nat {n : Int} (h : (Lit.int .u16 n).wf = true) : ∃ x : Nat, n = (x : Int) ∧ x < 65536 := by
  have hb : 0 ≤ n ∧ n ≤ 65535 := by
    have e1 : IntKind.u16.min = 0 := rfl
    have e2 : IntKind.u16.max = 65535 := rfl
    simp [Lit.wf, e1, e2] at h
    omega
  exact ⟨n.toNat, by omega, by omega⟩
theorem strs_len_le {D S : Nat} (hD : 1 ≤ D) (l : List UInt8) : (strs D S l).length ≤ l.length := by
  unfold strs
  rw [List.length_map, List.length_range]
  exact nst_le hD (Nat.le_mul_of_pos_left _ (by omega))
theorem keptI_wf (x M : Nat) (hM : M ≤ 15) : ∀ z ∈ keptI x M, (Lit.int .i64 z).wf = true := by
  intro z hz
  obtain ⟨k, hk, rfl⟩ := List.mem_map.1 hz
  have := (kept_mem.1 hk).1
  simp only [Lit.wf, Bool.and_eq_true, decide_eq_true_eq]
  rw [i64_lo, i64_hi]
  omega

set_option maxRecDepth 100000 in
set_option maxHeartbeats 4000000 in
theorem core (w : World) (d t : Int) (s : ByteArray) (xi : Int) (hxi : (Lit.int .u16 xi).wf = true) :
    Calls Try.prog 9 #[.agg #[.int .i64 d, .int .i64 t], .string s, .int .u16 xi] w fun e w' => e = .returned (.bool true) ∧ Below w.heap.size w w' := by
  obtain ⟨x, rfl, hx⟩ := u16_nat hxi
  clear hxi
  go_enter Try.func9, Try.ntmps9
  go_wp2_with fail
  refine (alive_f _).mono ?_
  rintro e w1 ⟨rfl, hb⟩
  have HL1 := Lib.hid ((Blk.new w 23 #[.int .i64 d, .int .i64 t]).below hb)
  have HB1 := Lib.hid (((Below.refl w.heap.size w).alloc (Nat.le_refl _) (.cells #[.int .i64 d, .int .i64 t] 23)).trans (hb.mono (by simp)))
  clear hb
  by_cases hbig : 200 < s.size
  · go_wp2_with fail
    go_ret
    exact ⟨rfl, HB1.out⟩
  have hbigd : decide ((200 : Int) < s.size) = false := decide_eq_false (by omega)
  have c0 := HL1.out.cell 0
  have c1 := HL1.out.cell 1
  simp only [List.getElem?_toArray, List.getElem?_cons_zero, List.getElem?_cons_succ] at c0 c1
  by_cases hok : okL d t
  · have HC := Lib.hid (fun W => check_yes d t hok W)
    obtain ⟨h1, h2, h3, h4⟩ := hok
    obtain ⟨D, rfl⟩ := Int.eq_ofNat_of_zero_le (show 0 ≤ d by omega)
    obtain ⟨S, rfl⟩ := Int.eq_ofNat_of_zero_le h3
    have hD : 1 ≤ D := by omega
    have hD8 : D ≤ 8 := by omega
    have hS : S ≤ 7 := by omega
    clear h1 h2 h3 h4
    go_wp2_with fail
    refine (HC.out _).mono ?_
    rintro e w2 ⟨rfl, hb⟩
    have HL2 := Lib.hid (HL1.out.below hb)
    have HB2 := Lib.hid (HB1.out.trans (hb.mono HB1.out.size))
    clear hb c0 c1 HL1 HB1 HC
    go_wp2_with fail
    go_loopw [7, 8] (fun v kv wr => ∃ k m : Nat, k ≤ D + S ∧ m ≤ k ∧ kv = .int .i64 (k : Int) ∧ Hid (m = (kept x k).length) ∧ wr.ownsRow w2.heap.size 3 1 v m ((keptI x k).map (Value.int .i64)) ∧ Below w2.heap.size w2 wr)
      (fun _ kv _ => D + S - (intOf kv).toNat)
    case atStart => exact ⟨0, 0, by omega, by omega, rfl, Lib.hid rfl, World.ownsRow_nil _ _ _ _, Below.refl _ _⟩
    case round =>
      obtain ⟨k, m, hk, hmk, rfl, HM, hown, hb⟩ := hrel
      have HO := Lib.hid hown
      have HB := Lib.hid hb
      have HLr := Lib.hid (HL2.out.below hb)
      have hbs := hb.size
      clear hown hb
      have c0 := HLr.out.cell 0
      have c1 := HLr.out.cell 1
      simp only [List.getElem?_toArray, List.getElem?_cons_zero, List.getElem?_cons_succ] at c0 c1
      by_cases hkn : k < D + S
      · have hkn' : (k : Int) < (D : Int) + (S : Int) := by omega
        have htb := tst_bit16z hx k
        cases hq : x.testBit k with
        | false =>
          have HS := Lib.hid (kept_yes hq)
          have HI := Lib.hid (keptI_yes hq)
          rw [hq] at htb
          simp only [Bool.not_false] at htb
          clear hq
          go_wp2_with (at_builtin; refine wpl_push ty_i64 rfl _ _ rfl w2.heap.size _ m ((keptI x k).map (Value.int .i64)) rfl (HO.out.alloc _) _ (.int .i64 (k : Int)) rfl (Blk.new _ _ _) rfl (by simp; omega) (by unfold maxLen; omega) (by omega) ?_; intro v' w8 hown8 hgrow _)
          go_roundw
          case rel => exact ⟨k + 1, m + 1, by omega, by omega, by go_num, Lib.hid (by rw [HS.out, List.length_append, ← HM.out]; rfl), by rw [HI.out, List.map_append]; exact hown8, push_below HB.out hbs HO.out hgrow⟩
          case measure => simp [intOf]; omega
        | true =>
          have HS := Lib.hid (kept_no hq)
          have HI := Lib.hid (keptI_no hq)
          rw [hq] at htb
          simp only [Bool.not_true] at htb
          clear hq
          go_wp2_with fail
          go_roundw
          case rel => exact ⟨k + 1, m, by omega, by omega, by go_num, Lib.hid (by rw [HS.out]; exact HM.out), by rw [HI.out]; exact HO.out, HB.out⟩
          case measure => simp [intOf]; omega
      · have hkn' : ¬ (k : Int) < (D : Int) + (S : Int) := by omega
        obtain rfl : k = D + S := by omega
        have HK := Lib.hid HM.out
        obtain ⟨A1, n1, rfl, hs1, _⟩ := own_form HO.out
        have HR := Lib.hid (show Lst (Value.int .i64) wr A1 m n1 (keptI x (D + S)) from hs1)
        clear hs1 HO
        have HB3 := Lib.hid (HB2.out.trans (HB.out.mono HB2.out.size))
        have hm15 : m ≤ 15 := by omega
        go_wp2_with fail
        refine (recov_f (D : Int) (S : Int) (keptI x (D + S)) (keptI_wf x _ (by omega)) A1 m n1 (by omega) _ HR.out).mono ?_
        rintro e w3 ⟨rfl, hb⟩
        have HR3 := Lib.hid (HR.out.below hb)
        have HL3 := Lib.hid (HLr.out.below hb)
        have HB4 := Lib.hid (HB3.out.trans (hb.mono HB3.out.size))
        clear hb c0 c1
        have c0 := HL3.out.cell 0
        have c1 := HL3.out.cell 1
        simp only [List.getElem?_toArray, List.getElem?_cons_zero, List.getElem?_cons_succ] at c0 c1
        rw [rec_kept hD hD8 hS x, ← HK.out]
        by_cases hfew : D ≤ m
        · rw [decide_eq_true hfew]
          have hfd : decide ((m : Int) < (D : Int)) = false := decide_eq_false (by omega)
          have hfd2 : decide (m < D) = false := decide_eq_false (by omega)
          have HRK := Lib.hid (fun q => rest_kept hD hD8 hS (bl s) q x (by rw [← HK.out]; exact hfew))
          go_wp2_with fail
          refine (stripes_try D S hD hD8 hS s (by omega) _).mono ?_
          rintro e w4 ⟨v, vs, rfl, hown, hrows, hb⟩
          obtain ⟨A3, k3, rfl, hrd⟩ := Rd.of (w' := w4) hown hrows
          have HD := Lib.hid hrd
          have HR4 := Lib.hid (HR3.out.below hb)
          have HL4 := Lib.hid (HL3.out.below hb)
          have HB5 := Lib.hid (HB4.out.trans (hb.mono HB4.out.size))
          have hLl := strs_len_le (S := S) hD (bl s)
          have hLe : (bl s).length = s.size := by simp [bl]
          obtain ⟨L, hL, hLn⟩ : ∃ L, L = strs D S (bl s) ∧ ∀ q (h : q < L.length), L[q] = strp D S (bl s) q := ⟨_, rfl, fun q h => by simp only [strs, List.getElem_map, List.getElem_range]⟩
          have HLN := Lib.hid hLn
          rw [← hL] at HD hLl
          rw [← hL]
          have hL200 : L.length ≤ 200 := by omega
          clear hown hrows hrd hb c0 c1 hLl hLe hL hLn
          have c0 := HL4.out.cell 0
          have c1 := HL4.out.cell 1
          simp only [List.getElem?_toArray, List.getElem?_cons_zero, List.getElem?_cons_succ] at c0 c1
          go_wp2_with fail
          clear c0 c1
          go_loopw [11] (fun iv V => ∃ q : Nat, q ≤ L.length ∧ iv = .int .i64 (q : Int) ∧ Below w4.heap.size w4 V)
            (fun iv _ => L.length - (intOf iv).toNat)
          case atStart => exact ⟨0, by omega, rfl, Below.refl _ _⟩
          case round =>
            obtain ⟨q, hq, rfl, hb⟩ := hrel
            have HBq := Lib.hid hb
            have HDq := Lib.hid (HD.out.below hb)
            have HRq := Lib.hid (Lst.below HR4.out hb)
            have HLq := Lib.hid (HL4.out.below hb)
            clear hb
            by_cases hqn : q < L.length
            · obtain ⟨q1, q2, q3⟩ := HRK.out q
              have HE := Lib.hid q1
              have HBB := Lib.hid q2
              have HBD := Lib.hid q3
              have HLq2 := Lib.hid (HLN.out q hqn)
              clear q1 q2 q3
              go_wp2_with fail
              obtain ⟨V, hV⟩ : ∃ V, V = wr := ⟨_, rfl⟩
              rw [← hV] at HBq HDq HRq HLq
              subst hV
              go_loopw [12, 79] (fun hv jv W => ∃ j : Nat, j ≤ m ∧ jv = .int .i64 (j : Int) ∧ W.ownsRow V.heap.size 47 2 hv j ((hvR D S (bl s) q ((kept x (D + S)).take j)).flatMap shc) ∧ Below V.heap.size V W)
                (fun _ jv _ => m - (intOf jv).toNat)
              case atStart => exact ⟨0, by omega, rfl, World.ownsRow_nil _ _ _ _, Below.refl _ _⟩
              case round =>
                obtain ⟨j, hj, rfl, hown, hb⟩ := hrel
                have HO := Lib.hid hown
                have HBj := Lib.hid hb
                have HDj := Lib.hid (HDq.out.below hb)
                have HRj := Lib.hid (Lst.below HRq.out hb)
                have HLj := Lib.hid (HLq.out.below hb)
                have hbs := hb.size
                clear hown hb
                by_cases hjm : j < m
                · have hjl : j < (kept x (D + S)).length := by rw [← HK.out]; exact hjm
                  have hjl' : j < (keptI x (D + S)).length := by rw [keptI_len]; exact hjl
                  obtain ⟨r, hr⟩ : ∃ r, r = (kept x (D + S))[j] := ⟨_, rfl⟩
                  have hrr : (keptI x (D + S))[j] = ((r : Nat) : Int) := by rw [hr]; simp only [keptI, List.getElem_map]
                  have hrM : r < D + S := by rw [hr]; exact (kept_mem.1 (List.getElem_mem hjl)).1
                  have hrM' : (r : Int) < (D : Int) + (S : Int) := by omega
                  obtain ⟨av, rfl, _, hcr⟩ := Lst.at_ (f := Value.int .i64) HRj.out hjl'
                  rw [hrr] at hcr
                  obtain ⟨ad, A', c', rfl, _, hcs, hls⟩ := HDj.out.at_ hqn
                  rw [HLq2.out] at hcs hls
                  have hlen : (strp D S (bl s) q).length = D + S := strp_len D S (bl s) q
                  rw [hlen] at hcs hls
                  have hrl : r < (strp D S (bl s) q).length := by rw [hlen]; exact hrM
                  obtain ⟨Y, hY⟩ : ∃ Y, Y = (strp D S (bl s) q)[r] := ⟨_, rfl⟩
                  obtain ⟨as_, rfl, _, hcY⟩ := Lst.at_ (f := Value.string) hls hrl
                  rw [← hY] at hcY
                  have HNX := Lib.hid (show hvR D S (bl s) q ((kept x (D + S)).take (j + 1)) = hvR D S (bl s) q ((kept x (D + S)).take j) ++ [((r : Int), Y)] by
                    rw [List.take_succ_eq_append_getElem hjl, hvR_snoc, ← hr, hY]
                    simp only [List.getD, List.getElem?_eq_getElem hrl, Option.getD_some])
                  clear hr hrr hY hrl hlen hls hjl hjl'
                  go_wp2_with (at_builtin; refine wpl_pushN ty_shr rfl _ _ rfl V.heap.size _ j ((hvR D S (bl s) q ((kept x (D + S)).take j)).flatMap shc) rfl (HO.out.alloc _) _ [.int .i64 (r : Int), .string Y] rfl rfl (Blk.new _ _ _) (by simp [Value.oneCell']) (by simp; omega) (by unfold maxLen; omega) (by omega) ?_; intro v' w8 hown8 hgrow _)
                  go_roundw
                  case rel => exact ⟨j + 1, by omega, by go_num, by rw [HNX.out, flat_snoc]; exact hown8, push_below HBj.out hbs HO.out hgrow⟩
                  case measure => simp [intOf]; omega
                · have hjm' : (kept x (D + S)).take j = kept x (D + S) := List.take_of_length_le (by rw [← HK.out]; omega)
                  obtain rfl : j = m := by omega
                  rw [hjm'] at HO
                  obtain ⟨Ah, nh, rfl, hsh, _⟩ := shs_own HO.out
                  have HSH := Lib.hid hsh
                  clear hsh hjm' HO
                  have c0 := HLj.out.cell 0
                  have c1 := HLj.out.cell 1
                  simp only [List.getElem?_toArray, List.getElem?_cons_zero, List.getElem?_cons_succ] at c0 c1
                  go_wp2_with fail
                  refine (restore_f _ Ah _ nh _ HSH.out HBD.out (D : Int) (by rw [i64_lo, i64_hi]; omega)).mono ?_
                  rintro e w5 ⟨v5, rfl, hown, hb⟩
                  rw [HBB.out, dat_len] at hown
                  obtain ⟨A5, n5, rfl, hs5, _⟩ := own_form hown
                  have HS5 := Lib.hid (show Lst Value.string w5 A5 D n5 (dat D (bl s) q) from hs5)
                  have HD5 := Lib.hid (HDj.out.below hb)
                  have HL5 := Lib.hid (HLj.out.below hb)
                  have HB55 := Lib.hid (HBq.out.trans ((HBj.out.trans (hb.mono hbs)).mono HBq.out.size))
                  clear hown hs5 hb c0 c1
                  rw [HE.out]
                  have c0 := HL5.out.cell 0
                  have c1 := HL5.out.cell 1
                  simp only [List.getElem?_toArray, List.getElem?_cons_zero, List.getElem?_cons_succ] at c0 c1
                  go_wp2_with fail
                  clear c0 c1
                  go_loopw [17] (fun kv W => ∃ k : Nat, k ≤ D ∧ kv = .int .i64 (k : Int) ∧ Below w5.heap.size w5 W)
                    (fun kv _ => D - (intOf kv).toNat)
                  case atStart => exact ⟨0, by omega, rfl, Below.refl _ _⟩
                  case round =>
                    obtain ⟨k, hk, rfl, hb⟩ := hrel
                    have HBk := Lib.hid hb
                    have HLk := Lib.hid (HL5.out.below hb)
                    have HSk := Lib.hid (Lst.below HS5.out hb)
                    have HDk := Lib.hid (HD5.out.below hb)
                    clear hb
                    have c0 := HLk.out.cell 0
                    have c1 := HLk.out.cell 1
                    simp only [List.getElem?_toArray, List.getElem?_cons_zero, List.getElem?_cons_succ] at c0 c1
                    by_cases hkD : k < D
                    · have hkl : k < (dat D (bl s) q).length := by rw [dat_len]; exact hkD
                      obtain ⟨a5, rfl, _, hc5⟩ := Lst.at_ (f := Value.string) HSk.out hkl
                      obtain ⟨ad, A', c', rfl, _, hcs, hls⟩ := HDk.out.at_ hqn
                      rw [HLq2.out] at hcs hls
                      have hlen : (strp D S (bl s) q).length = D + S := strp_len D S (bl s) q
                      rw [hlen] at hcs hls
                      have hkl2 : k < (strp D S (bl s) q).length := by rw [hlen]; omega
                      obtain ⟨as_, rfl, _, hcY⟩ := Lst.at_ (f := Value.string) hls hkl2
                      have hXY : (strp D S (bl s) q)[k] = (dat D (bl s) q)[k] := by
                        have e : (strp D S (bl s) q)[k]? = (dat D (bl s) q)[k]? := List.getElem?_append_left hkl
                        rw [List.getElem?_eq_getElem hkl2, List.getElem?_eq_getElem hkl] at e
                        exact Option.some.inj e
                      rw [hXY] at hcY
                      obtain ⟨X, hX⟩ : ∃ X, X = (dat D (bl s) q)[k] := ⟨_, rfl⟩
                      rw [← hX] at hcY hc5
                      have hkDS : (k : Int) < (D : Int) + (S : Int) := by omega
                      clear hXY hX hkl hkl2 hlen hls
                      go_wp2_with fail
                      go_quiet (fail)
                      all_goals
                        go_wp2_with fail
                        go_roundw
                        case rel => exact ⟨k + 1, by omega, by go_num, below_drewN HBk.out _⟩
                        case measure => simp [intOf]; omega
                    · go_wp2_with fail
                      go_roundw
                      case rel => exact ⟨q + 1, by omega, by go_num, HB55.out.trans (HBk.out.mono HB55.out.size)⟩
                      case measure => simp [intOf]; omega
            · go_wp2_with fail
              go_ret
              exact ⟨rfl, HB5.out.trans (HBq.out.mono HB5.out.size)⟩
        · rw [decide_eq_false hfew]
          go_wp2_with fail
          go_ret
          exact ⟨by simp; omega, HB4.out⟩
  · have HC := Lib.hid (fun W => check_no d t hok W)
    clear hok
    go_wp2_with fail
    refine (HC.out _).mono ?_
    rintro e w2 ⟨rfl, hb⟩
    have HB2 := Lib.hid (HB1.out.trans (hb.mono HB1.out.size))
    clear hb c0 c1
    go_wp2_with fail
    go_ret
    exact ⟨rfl, HB2.out⟩

end LayoutRestores
end Go.Proofs.Ytogcgeiocndlbaa
