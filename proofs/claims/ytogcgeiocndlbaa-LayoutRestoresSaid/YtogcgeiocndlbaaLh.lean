/- Walk of the reference's Stripes; both Stripes of a bad layout. -/
import Derived.Test.YtogcgeiocndlbaaLg
namespace Go.Proofs.Ytogcgeiocndlbaa
open Go.RowKit
set_option linter.unusedVariables false
namespace Ly

def blkN (l : List UInt8) (k i : Nat) : List UInt8 := (List.range i).map fun j => l.getD (28 * k + j) 0
theorem blkN_all (l : List UInt8) (k : Nat) : blkN l k 28 = blkAt l k := rfl
theorem blkN_succ (l : List UInt8) (k i : Nat) : blkN l k (i + 1) = blkN l k i ++ [l.getD (28 * k + i) 0] := by simp [blkN, List.range_succ]
theorem blkN_len (l : List UInt8) (k i : Nat) : (blkN l k i).length = i := by simp [blkN]
theorem ofL_app (a b : List UInt8) : ofL a ++ ofL b = ofL (a ++ b) := by
  apply bl_inj
  simp [bl, ofL, ByteArray.data_append]
theorem ofL_size (a : List UInt8) : (ofL a).size = a.length := by show a.toArray.size = _; simp
theorem ext_one (s : ByteArray) (t : Nat) (h : t < s.size) : s.extract t (t + 1) = ofL [(bl s).getD t 0] := by
  apply bl_inj
  rw [bl_ofL]
  unfold bl
  rw [ByteArray.data_extract]
  simp only [Array.toList_extract, List.extract_eq_take_drop]
  have h' : t < s.data.toList.length := by simpa using h
  rw [show t + 1 - t = 1 by omega, List.drop_eq_getElem_cons h', List.take_succ_cons, List.take_zero, List.getD, List.getElem?_eq_getElem h']
  rfl
def datK (D : Nat) (l : List UInt8) (q k : Nat) : List ByteArray := (List.range k).map fun b => ofL (blkAt l (q * D + b))
theorem datK_all (D : Nat) (l : List UInt8) (q : Nat) : datK D l q D = dat D l q := rfl
theorem datK_succ (D : Nat) (l : List UInt8) (q k : Nat) : datK D l q (k + 1) = datK D l q k ++ [ofL (blkAt l (q * D + k))] := by simp [datK, List.range_succ]
theorem datK_len (D : Nat) (l : List UInt8) (q k : Nat) : (datK D l q k).length = k := by simp [datK]
def strsK (D S : Nat) (l : List UInt8) (q : Nat) : List (List ByteArray) := (List.range q).map (strp D S l)
theorem strsK_len (D S : Nat) (l : List UInt8) (q : Nat) : (strsK D S l q).length = q := by simp [strsK]
theorem strsK_succ (D S : Nat) (l : List UInt8) (q : Nat) : strsK D S l (q + 1) = strsK D S l q ++ [strp D S l q] := by simp [strsK, List.range_succ]
theorem enc_dat {D S : Nat} (hD : 1 ≤ D) (hD8 : D ≤ 8) (hS : S ≤ 7) (l : List UInt8) (q : Nat) : encE (dat D l q) (S : Int) = 0 ∧ encB (dat D l q) (S : Int) = sprs (dat D l q) S := by
  have h1 : encE (dat D l q) (S : Int) = 0 := by
    unfold encE
    rw [dat_len, if_neg (by omega), dat_even]
    rfl
  exact ⟨h1, by unfold encB; rw [h1, if_pos rfl, Int.toNat_natCast]⟩

theorem ty_ne {W : World} {B n : Nat} {e t : TypeId} {v : Value} {xs : List Value} (h : W.ownsRow B e 1 v n xs) {k : Nat} {cs : Array Value} {fz : Nat × Nat} (hk : W.heap[k]? = some (.cells cs t fz)) (hne : t ≠ e) : v.ownBlock ≠ some k := fun hg => by
  obtain ⟨_, cs', fz', h1⟩ := own_cells h hg
  rw [hk] at h1
  injection h1 with h1
  injection h1 with _ h2 _
  exact hne h2
/-- a round of the reference: from its memory's turns to what holds behind it -/
theorem r_next {w wo W4 W6 : World} {D S q : Nat} {l : List UInt8} {vo v3 v6 : Value} {vs : List Value}
    (hO : wo.ownsRow w.heap.size 40 1 vo q vs) (hR : RowsOk wo w.heap.size vs (strsK D S l q)) (hL : Blk wo w.heap.size 23 #[.int .i64 (D : Int), .int .i64 (S : Int)]) (hB : Below w.heap.size w wo)
    (hb4 : Below wo.heap.size wo W4) (h3 : W4.ownsRow wo.heap.size 9 1 v3 (D + S) ((strp D S l q).map Value.string))
    (h6 : W6.ownsRow w.heap.size 40 1 v6 (q + 1) (vs ++ [v3])) (hg : (W4.alloc (.cells #[v3] 40)).grownBy W6 vo.ownBlock) :
    RowsOk W6 w.heap.size (vs ++ [v3]) (strsK D S l (q + 1)) ∧ Blk W6 w.heap.size 23 #[.int .i64 (D : Int), .int .i64 (S : Int)] ∧ Below w.heap.size w W6 := by
  have hb5 : Below wo.heap.size wo (W4.alloc (.cells #[v3] 40)) := hb4.alloc hb4.size _
  have hO5 := own_below hO hb5
  have hL5 := hL.below hb5
  have h35 := own_alloc h3 (.cells #[v3] 40)
  refine ⟨?_, hL5.grown hg (fun e => ty_ne hO5 hL5 (by decide) e.symm), (hB.trans (hb5.mono hB.size)).grown hg (Nat.le_trans hB.size hb5.size) (fun k hk => (own_cells hO5 hk).1)⟩
  rw [strsK_succ]
  refine RowsOk.snoc ((hR.below hb5).keep hg.size fun k cs fz _ hc => hg.block k (Array.getElem?_eq_some_iff.1 hc).1 (fun e => ty_ne hO5 hc (by decide) e.symm)) ?_
  have h36 := own_gr h35 hg (fun g e e2 => by
    obtain ⟨_, cs, fz, h1⟩ := own_cells h35 e2
    exact ty_ne hO5 h1 (by decide) e)
  unfold Row
  rw [strp_len]
  exact own_mono h36 hB.size

set_option maxRecDepth 100000 in
set_option maxHeartbeats 2000000 in
theorem rstripes_yes (D S : Nat) (hD : 1 ≤ D) (hD8 : D ≤ 8) (hS : S ≤ 7) (s : ByteArray) (hs : s.size ≤ 100000) (w : World) :
    Calls Try.prog 12 #[.agg #[.int .i64 (D : Int), .int .i64 (S : Int)], .string s] w (GivesRR (strs D S (bl s)) 0 w) := by
  have HC := Lib.hid (fun W => rcheck_yes (D : Int) (S : Int) ⟨by omega, by omega, by omega, by omega⟩ W)
  have hq1 : ((s.size : Int) + 28 * (D : Int) - 1) / (28 * (D : Int)) ≤ 65536 := by
    have h1 := Int.ediv_le_ediv (show (0 : Int) < 28 * (D : Int) by omega) (show (s.size : Int) + 28 * (D : Int) - 1 ≤ 65536 * (28 * (D : Int)) by omega)
    rw [Int.mul_ediv_cancel _ (by omega)] at h1
    exact h1
  have hbl : (bl s).length = s.size := by simp [bl]
  have HBL := Lib.hid hbl
  clear hbl
  go_enter Try.func12, Try.ntmps12
  go_wp2_with fail
  refine (HC.out _).mono ?_
  rintro e w1 ⟨rfl, hb⟩
  have HL := Lib.hid ((Blk.new w 23 #[.int .i64 (D : Int), .int .i64 (S : Int)]).below hb)
  have HB1 := Lib.hid (((Below.refl w.heap.size w).alloc (Nat.le_refl _) (.cells #[.int .i64 (D : Int), .int .i64 (S : Int)] 23)).trans (hb.mono (by simp)))
  clear hb
  have c0 := HL.out.cell 0
  simp only [List.getElem?_toArray, List.getElem?_cons_zero] at c0
  go_wp2_with fail
  clear c0 HC
  have HV := Lib.hid (show (w1.alloc (.cells #[] 40)).ownsRow w.heap.size 40 1 (.slice (some ⟨w1.heap.size, 0, none⟩) 0 0) 0 [] from Blk.own (size := 1) (n := 0) (Blk.new _ _ _) HB1.out.size rfl (by unfold maxLen; omega))
  have HLv := Lib.hid (HL.out.alloc (.cells #[] 40))
  have HBv := Lib.hid (HB1.out.alloc HB1.out.size (.cells #[] 40))
  clear HL HB1
  obtain ⟨v1, hv1⟩ : ∃ v1, v1 = w1.alloc (.cells #[] 40) := ⟨_, rfl⟩
  rw [← hv1] at HV HLv HBv
  rw [← hv1]
  clear hv1
  obtain ⟨g1, hg1⟩ : ∃ g1, g1 = w1.heap.size := ⟨_, rfl⟩
  rw [← hg1] at HV
  rw [← hg1]
  clear hg1
  go_loopw [7, 8] (fun vo at_ wr => ∃ (q a : Nat) (vs : List Value), at_ = .int .i64 (a : Int) ∧ a ≤ 100300 ∧ Hid (a = 28 * D * q) ∧ Hid (q ≤ nst D (bl s)) ∧ Hid (wr.ownsRow w.heap.size 40 1 vo q vs) ∧ Hid (RowsOk wr w.heap.size vs (strsK D S (bl s) q)) ∧ Hid (Blk wr w.heap.size 23 #[.int .i64 (D : Int), .int .i64 (S : Int)]) ∧ Hid (Below w.heap.size w wr))
    (fun _ at_ _ => 200000 - (intOf at_).toNat)
  case atStart => exact ⟨0, 0, [], rfl, by omega, Lib.hid (by simp), Lib.hid (Nat.zero_le _), HV, Lib.hid (RowsOk.nil _ _), HLv, HBv⟩
  case round =>
    obtain ⟨q, a, vs, rfl, ha, HA, HQ, HO, HR, HL, HB⟩ := hrel
    clear HV HLv HBv
    by_cases hlt : a < s.size
    · have HQ2 := Lib.hid (show q + 1 ≤ nst D (bl s) from nst_lt hD (by rw [HBL.out, ← HA.out]; exact hlt))
      obtain ⟨wo, rfl⟩ : ∃ wo : World, wo = wr := ⟨_, rfl⟩
      obtain ⟨Ao, co, hvo, _, _⟩ := own_form HO.out
      subst hvo
      go_wp2_with fail
      go_loopw [9, 10] (fun vd b_ wq => ∃ b : Nat, b ≤ D ∧ b_ = .int .i64 (b : Int) ∧ Hid (wq.ownsRow wo.heap.size 9 1 vd b ((datK D (bl s) q b).map Value.string)) ∧ Hid (Below wo.heap.size wo wq)) (fun _ b_ _ => D - (intOf b_).toNat)
      case atStart => exact ⟨0, by omega, rfl, Lib.hid (World.ownsRow_nil _ _ _ _), Lib.hid (Below.refl _ _)⟩
      case round =>
        obtain ⟨b, hb, rfl, HO2, HB2⟩ := hrel
        have hL2 := HL.out.below HB2.out
        have c0 := hL2.cell 0
        have c1 := hL2.cell 1
        simp only [List.getElem?_toArray, List.getElem?_cons_zero, List.getElem?_cons_succ] at c0 c1
        clear hL2
        by_cases hbD : b < D
        · go_wp2_with fail
          go_loop [11, 12] (fun st i_ => ∃ i : Nat, i ≤ 28 ∧ i_ = .int .i64 (i : Int) ∧ st = .string (ofL (blkN (bl s) (q * D + b) i))) (fun _ i_ => 28 - (intOf i_).toNat)
          case atStart => exact ⟨0, by omega, rfl, rfl⟩
          case round =>
            obtain ⟨i, hi, rfl, rfl⟩ := hrel
            by_cases hi28 : i < 28
            · have hsz := ofL_size (blkN (bl s) (q * D + b) i)
              rw [blkN_len] at hsz
              have hsz2 : (ofL (blkN (bl s) (q * D + b) i)).size ≤ 28 := by omega
              have HK := Lib.hid (show 28 * (q * D + b) + i = a + 28 * b + i by rw [HA.out, Nat.mul_add, Nat.mul_assoc, Nat.mul_comm D q])
              have HSU := Lib.hid (blkN_succ (bl s) (q * D + b) i)
              clear hsz
              by_cases hk : a + 28 * b + i < s.size
              · go_wp2_with fail
                go_round
                case rel => exact ⟨i + 1, by omega, by go_num, by rw [HSU.out, ← ofL_app, ext_one s _ hk, HK.out]⟩
                case measure => simp [intOf]; omega
              · go_wp2_with fail
                go_round
                case rel => exact ⟨i + 1, by omega, by go_num, by
                  rw [HSU.out, ← ofL_app, HK.out]
                  have h1 : (bl s).length ≤ a + 28 * b + i := by rw [HBL.out]; omega
                  rw [List.getD, List.getElem?_eq_none h1]
                  rfl⟩
                case measure => simp [intOf]; omega
            · obtain rfl : i = 28 := by omega
              have hk1 : b + 1 ≤ maxLen := by unfold maxLen; omega
              have hk2 : (b + 1) * 16 ≤ 140737488355328 := by omega
              go_wp2_with (at_builtin; refine wpl_push ty_s rfl _ _ rfl wo.heap.size _ b _ rfl (own_alloc HO2.out _) _ (.string (ofL (blkN (bl s) (q * D + b) 28))) rfl (Blk.new _ _ _) rfl (Nat.le_trans HB2.out.size (by simp)) hk1 hk2 ?_; intro v' w5 hown5 hgrow _)
              have HO5 := Lib.hid hown5
              have HB5 := Lib.hid (push_below HB2.out HB2.out.size HO2.out hgrow)
              clear hown5 hgrow
              go_wp2_with fail
              go_roundw
              case rel => exact ⟨b + 1, by omega, by go_num, Lib.hid (by rw [datK_succ, List.map_append]; exact HO5.out), HB5⟩
              case measure => simp [intOf]; omega
        · obtain rfl : b = D := by omega
          obtain ⟨A2, c2, hv, hsl, _⟩ := own_form HO2.out
          subst hv
          have hen := enc_dat hD hD8 hS (bl s) q
          have HEN := Lib.hid (show Calls Try.prog 26 #[.slice A2 b c2, .int .i64 (S : Int)] wr (GivesLE 9 Value.string wr (sprs (dat b (bl s) q) S) 0) by
            have := rencode_f wr A2 b c2 (dat b (bl s) q) hsl (S : Int) ⟨by rw [show IntKind.i64.min = -9223372036854775808 from rfl]; omega, by rw [show IntKind.i64.max = 9223372036854775807 from rfl]; omega⟩ (by rw [dat_len]; omega) (fun x hx => by rw [dat_size _ _ _ x hx]; omega)
            rw [hen.1, hen.2] at this
            exact this)
          clear hen hsl
          go_wp2_with fail
          refine HEN.out.mono ?_
          rintro e w3 ⟨sv, rfl, hso, hb3⟩
          rw [sprs_len] at hso
          obtain ⟨As, cs, rfl, hss, _⟩ := own_form hso
          have HSS := Lib.hid hss
          have HO3 := Lib.hid (own_below HO2.out hb3)
          have HB3 := Lib.hid (HB2.out.trans (hb3.mono HB2.out.size))
          clear hso hss hb3 c0 c1
          obtain ⟨i0, hi, hz0, hz1, hz2⟩ := info_parts info_str
          have hk1 : b + S ≤ maxLen := by unfold maxLen; omega
          have hk2 : (b + S) * 16 ≤ 140737488355328 := by omega
          have hq5 : q + 1 ≤ 100000 := by
            have h2 := HQ2.out
            have h3 := nst_le hD (l := bl s) (q := (bl s).length) (Nat.le_mul_of_pos_left _ (by omega))
            have h4 := HBL.out
            omega
          have hk3 : q + 1 ≤ maxLen := by unfold maxLen; omega
          have hk4 : (q + 1) * 24 ≤ 140737488355328 := by omega
          go_wp2_with (first
            | (at_builtin; refine wpl_append_sl _ rfl _ _ 40 rfl wo.heap.size 9 i0 (.string ⟨#[]⟩) 1 16 Try.underlying40 hi hz0 hz1 hz2 rfl (by decide) _ b _ rfl HO3.out As S cs _ rfl HSS.out (fun u hu => by obtain ⟨x, _, rfl⟩ := List.mem_map.1 hu; rfl) hk1 hk2 HB3.out.size ?_; intro v4 w4 hown4 hg4 _; obtain ⟨A4, c4, hv4, _, _⟩ := own_form hown4; subst hv4; have HO4 := Lib.hid hown4; have HB4 := Lib.hid (HB3.out.grown hg4 HB3.out.size (fun k hk => (own_cells HO3.out hk).1)); clear hown4 hg4)
            | (at_builtin; refine wpl_push ty_ss rfl _ _ rfl w.heap.size _ q vs rfl (own_alloc (own_below HO.out HB4.out) _) _ (.slice A4 (b + S) c4) rfl (Blk.new _ _ _) rfl (Nat.le_trans HB.out.size (Nat.le_trans HB4.out.size (by simp))) hk3 hk4 ?_; intro v6 w6 hown6 hg6 _))
          have HO6 := Lib.hid hown6
          have hrn := r_next (D := b) (S := S) (l := bl s) HO.out HR.out HL.out HB.out HB4.out (by unfold strp; rw [List.map_append]; exact HO4.out) hown6 hg6
          have HR6 := Lib.hid hrn.1
          have HL6 := Lib.hid hrn.2.1
          have HB6 := Lib.hid hrn.2.2
          clear hrn hown6 hg6
          go_wp2_with fail
          go_roundw
          case rel => exact ⟨q + 1, a + 28 * b, vs ++ [_], by go_num, by omega, Lib.hid (by rw [HA.out, Nat.mul_add, Nat.mul_one]), HQ2, HO6, HR6, HL6, HB6⟩
          case measure => simp [intOf]; omega
    · have hqn : q = nst D (bl s) := Nat.le_antisymm HQ.out (nst_le hD (by rw [HBL.out, ← HA.out]; omega))
      have HX := Lib.hid (show GivesRR (strs D S (bl s)) 0 w (.returned (.tuple #[u7, .int .i64 0])) wr from by
        refine ⟨_, vs, rfl, ?_, ?_, HB.out⟩
        · have h1 : (strs D S (bl s)).length = q := by rw [hqn]; simp [strs]
          rw [h1]
          exact HO.out
        · have h1 : strs D S (bl s) = strsK D S (bl s) q := by rw [hqn]; rfl
          rw [h1]
          exact HR.out)
      clear hqn
      go_wp2_with fail
      go_ret2
      exact HX.out

end Ly
end Go.Proofs.Ytogcgeiocndlbaa
