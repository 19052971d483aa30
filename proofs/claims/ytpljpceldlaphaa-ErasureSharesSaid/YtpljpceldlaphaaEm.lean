/- Walks: the shares that a bit set selects; a stripe. -/
import Derived.Test.YtpljpceldlaphaaEl
namespace Go.Proofs.Ytpljpceldlaphaa
open Go.RowKit

theorem ofInt_u16 (a : Nat) (ha : a < 65536) : (BitVec.ofInt 16 (a : Int)).toNat = a := by
  rw [BitVec.ofInt_natCast, BitVec.toNat_ofNat]; exact Nat.mod_eq_of_lt (by omega)
theorem u16_and_nat (a b : Nat) (ha : a < 65536) (hb : b < 65536) : bits .and .u16 (a : Int) (b : Int) = ((a &&& b : Nat) : Int) := by
  have hx : a &&& b < 2 ^ 16 := Nat.and_lt_two_pow _ (by omega)
  show IntKind.u16.wrap ((BitVec.ofInt 16 (a : Int) &&& BitVec.ofInt 16 (b : Int)).toNat : Int) = _
  rw [BitVec.toNat_and, ofInt_u16 a ha, ofInt_u16 b hb, IntKind.wrap_u16]
  omega
theorem tst_bit16 {b : Nat} (hb : b < 65536) (i : Nat) : (bits .and .u16 ((b : Int) / 2 ^ i) 1 == 1) = b.testBit i := by
  have e : ((b : Int) / 2 ^ i) = ((b / 2 ^ i : Nat) : Int) := by rw [Int.natCast_ediv, Int.natCast_pow]; rfl
  have hl : b / 2 ^ i ≤ b := Nat.div_le_self _ _
  rw [e, show (1 : Int) = ((1 : Nat) : Int) from rfl, u16_and_nat _ _ (by omega) (by omega), nat_mask1, Nat.testBit_eq_decide_div_mod_eq, Bool.eq_iff_iff]
  simp; omega

/-- the shares that a bit set selects -/
def smL (l : List (Int × ByteArray)) (set : Nat) (k : Nat) : List (Int × ByteArray) := ((List.range k).filter fun i => set.testBit i).map fun i => l.getD i default
theorem smL_yes {l : List (Int × ByteArray)} {set k : Nat} (hk : k < l.length) (h : set.testBit k = true) : smL l set (k + 1) = smL l set k ++ [l[k]] := by
  simp [smL, List.range_succ, List.filter_append, h, List.getD, List.getElem?_eq_getElem hk]
theorem smL_no {l : List (Int × ByteArray)} {set k : Nat} (h : set.testBit k = false) : smL l set (k + 1) = smL l set k := by
  simp [smL, List.range_succ, List.filter_append, h]
theorem smL_len_le (l : List (Int × ByteArray)) (set k : Nat) : (smL l set k).length ≤ k := by
  unfold smL
  rw [List.length_map]
  exact Nat.le_trans (List.length_filter_le _ _) (by simp)

set_option maxRecDepth 100000 in
set_option maxHeartbeats 1000000 in
theorem some_b (w : World) (A : Option Addr) (n c : Nat) (l : List (Int × ByteArray)) (h : Shs w A n c l) (hl : l.length ≤ 16) (set : Nat) (hset : set < 65536) :
    Calls Try.prog 19 #[.slice A n c, .int .u16 (set : Int)] w (GivesH w (smL l set l.length)) := by
  have hn := h.len
  have hlc : n ≤ c := h.1
  have hcm : c ≤ 9223372036854775807 := h.2.1
  have H := Lib.hid h
  have HN := Lib.hid hn
  have hnb : n ≤ 16 := by omega
  clear h hn hl
  go_enter Try.func19, Try.ntmps19
  go_wp2
  go_loopw [5, 10] (fun vo i wr => ∃ k m : Nat, k ≤ n ∧ m ≤ k ∧ i = .int .i64 (k : Int) ∧ Hid (m = (smL l set k).length) ∧ wr.ownsRow w.heap.size 39 2 vo m ((smL l set k).flatMap shc) ∧ Below w.heap.size w wr) (fun _ i _ => n - (intOf i).toNat)
  case atStart => exact ⟨0, 0, by omega, by omega, rfl, Lib.hid rfl, World.ownsRow_lit w #[] 0 (Nat.le_refl _) (Nat.zero_le _) rfl, (Below.refl _ w).alloc (Nat.le_refl _) _⟩
  case round =>
    obtain ⟨k, m, hk, hmk, rfl, HM, hown, hb⟩ := hrel
    have HO := Lib.hid hown
    have HB := Lib.hid hb
    have HX := Lib.hid (H.out.below hb)
    have hbs := hb.size
    clear hown hb
    by_cases hlt : k < n
    · have hkl : k < l.length := by rw [← HN.out]; exact hlt
      have htb := tst_bit16 hset k
      cases hq : set.testBit k with
      | true =>
        have HS := Lib.hid (smL_yes hkl hq)
        rw [hq] at htb
        clear hq
        obtain ⟨ad, rfl, _, hc, hc2⟩ := HX.out.at_ hkl
        go_wp2_with (at_builtin; refine wpl_pushN ty_shr rfl _ _ rfl w.heap.size u5 m ((smL l set k).flatMap shc) rfl (HO.out.alloc _) _ [.int .i64 l[k].1, .string l[k].2] rfl rfl (Blk.new _ _ _) (by simp [Value.oneCell']) (by simp; omega) (by unfold maxLen; omega) (by omega) ?_; intro v' w8 hown8 hgrow _)
        go_roundw
        case rel => exact ⟨k + 1, m + 1, by omega, by omega, by go_num, Lib.hid (by rw [HS.out, List.length_append, ← HM.out]; rfl), by rw [HS.out, flat_snoc]; exact hown8, push_below HB.out hbs HO.out hgrow⟩
        case measure => simp [intOf]; omega
      | false =>
        have HS := Lib.hid (smL_no (l := l) hq)
        rw [hq] at htb
        clear hq
        go_wp2
        go_roundw
        case rel => exact ⟨k + 1, m, by omega, by omega, by go_num, Lib.hid (by rw [HS.out]; exact HM.out), by rw [HS.out]; exact HO.out, HB.out⟩
        case measure => simp [intOf]; omega
    · have HK := Lib.hid (show k = l.length by rw [← HN.out]; omega)
      have hge : n ≤ k := by omega
      go_wp2
      go_ret
      refine ⟨_, rfl, ?_, HB.out⟩
      have h7 := HO.out
      have h8 := HM.out
      rw [HK.out] at h7 h8
      rw [← h8]
      exact h7

/-! stripes -/
def stD (l : List ByteArray) : List (List UInt8) := (evn l).map bl
theorem stD_len (l : List ByteArray) : (stD l).length = (evn l).length := by simp [stD]
theorem stD_even (l : List ByteArray) : Even (stD l) (evL l) := by
  have hb := evn_bound l
  refine ⟨by rw [stD_len]; omega, by rw [stD_len]; omega, fun j hj => ?_⟩
  rw [stD_len] at hj
  unfold stD
  rw [map_getD_bl _ _ hj, bl_length]
  exact evn_size l _ (by simp [List.getD, List.getElem?_eq_getElem hj])
/-- all blocks of the stripe, as shares -/
def stL (l : List ByteArray) (sp : Nat) : List (Int × ByteArray) := shsL (evn l) (sprs (evn l) sp)
theorem stL_len (l : List ByteArray) (sp : Nat) : (stL l sp).length = (evn l).length + sp := by
  unfold stL shsL
  rw [List.length_append, shA_len, shA_len, sprs_len]
theorem spr_shr (l : List ByteArray) (i : Nat) : spr (evn l) i = ofL (shr (stD l) ((evn l).length + i)) := by
  unfold spr shr
  rw [stD_len]
  rfl
theorem shA_at {a : List ByteArray} {o k j : Nat} (h : j < (shA a o k).length) : (shA a o k)[j] = (((o + j : Nat) : Int), a.getD j default) := by
  simp only [shA, List.getElem_map, List.getElem_range]
theorem stL_at (l : List ByteArray) {sp j : Nat} (hj : j < (stL l sp).length) : (stL l sp)[j] = ((j : Int), ofL (shr (stD l) j)) := by
  have hl := stL_len l sp
  have he := stD_even l
  have hj' : j < (evn l).length + sp := by rw [← hl]; exact hj
  unfold stL shsL at hj ⊢
  rw [List.getElem_append]
  split
  · rename_i h
    rw [shA_at]
    rw [shA_len] at h
    rw [Nat.zero_add, shr_data he (by rw [stD_len]; exact h)]
    unfold stD
    rw [map_getD_bl _ _ h, ofL_bl]
  · rename_i h
    rw [shA_at]
    rw [shA_len] at h ⊢
    have hj2 : j - (evn l).length < sp := by omega
    rw [show (evn l).length + (j - (evn l).length) = j by omega]
    congr 1
    simp only [sprs, List.getD, List.getElem?_map, List.getElem?_range hj2]
    simp only [Option.map_some, Option.getD_some]
    rw [spr_shr, show (evn l).length + (j - (evn l).length) = j by omega]
theorem stL_on (l : List ByteArray) {sp : Nat} (hsp : sp ≤ 7) : OnStripe (stD l) (stL l sp) := fun x hx => by
  obtain ⟨j, hj, rfl⟩ := List.mem_iff_getElem.1 hx
  have hl := stL_len l sp
  have hb := evn_bound l
  rw [stL_at l hj]
  exact ⟨j, by omega, rfl, bl_ofL _⟩
theorem unev_evn (l : List ByteArray) : (evn l).any (unev (evn l)) = false := any_false fun s hs => by
  unfold unev
  have h0 : (evn l).getD 0 default ∈ evn l := by
    have := (evn_bound l).1
    rw [List.getD, List.getElem?_eq_getElem this]
    exact List.getElem_mem this
  rw [evn_size l s hs, evn_size l _ h0]
  simp
theorem encE_evn (l : List ByteArray) {sp : Nat} (hsp : sp ≤ 7) : encE (evn l) (sp : Int) = 0 ∧ encB (evn l) (sp : Int) = sprs (evn l) sp := by
  have hb := evn_bound l
  have h1 : encE (evn l) (sp : Int) = 0 := by
    unfold encE
    rw [if_neg (by omega), unev_evn]
    rfl
  refine ⟨h1, ?_⟩
  unfold encB
  rw [if_pos h1, Int.toNat_natCast]

/-- what 'stripe' leaves -/
def GivesS (l : List ByteArray) (sp : Nat) (w : World) (e : Ending) (w' : World) : Prop :=
  ∃ v1 v2, e = .returned (.tuple #[v1, v2, .bool true]) ∧ w'.ownsRow w.heap.size 9 1 v1 (evn l).length ((evn l).map Value.string) ∧ w'.ownsRow w.heap.size 39 2 v2 (stL l sp).length ((stL l sp).flatMap shc) ∧ Below w.heap.size w w'

set_option maxRecDepth 100000 in
set_option maxHeartbeats 1000000 in
theorem stripe_b (w : World) (A : Option Addr) (n c : Nat) (l : List ByteArray) (h : Lst Value.string w A n c l) (s : Nat) (hs : s < 256) :
    Calls Try.prog 18 #[.slice A n c, .int .u8 (s : Int)] w (GivesS l (s % 8) w) := by
  have hsp : s % 8 ≤ 7 := by omega
  have HE := Lib.hid (encE_evn l hsp)
  have hbd := evn_bound l
  have HSZ := Lib.hid (show ∀ b ∈ evn l, b.size ≤ 65536 from fun b hb => by have := evn_size l b hb; have := evL_le l; omega)
  have HC := Lib.hid (even_b w A n c l h)
  have hsc : (s : Int) % 8 = ((s % 8 : Nat) : Int) := by omega
  have HSC := Lib.hid hsc
  obtain ⟨L, hL⟩ : ∃ L, L = (evn l).length := ⟨_, rfl⟩
  have HL := Lib.hid hL
  rw [← hL] at hbd
  clear h hsc hL
  go_enter Try.func18, Try.ntmps18
  go_wp2_with fail
  refine HC.out.mono ?_
  rintro e w1 ⟨v1, rfl, ho1, hb1⟩
  rw [← HL.out] at ho1
  obtain ⟨A1, c1, rfl, hy1, _⟩ := lst_own ho1
  have HO1 := Lib.hid ho1
  have HB1 := Lib.hid hb1
  have HY1 := Lib.hid hy1
  clear ho1 hb1 hy1
  have HEC := Lib.hid (show Calls Try.prog 13 #[.slice A1 L c1, .int .i64 ((s : Int) % 8)] w1 (GivesLE 9 Value.string w1 (sprs (evn l) (s % 8)) 0) by
    have := encode_f w1 A1 L c1 (evn l) HY1.out ((s % 8 : Nat) : Int) (by have e1 : IntKind.i64.min = -9223372036854775808 := rfl; have e2 : IntKind.i64.max = 9223372036854775807 := rfl; omega) HSZ.out
    rw [HE.out.1, HE.out.2] at this
    rw [HSC.out]
    exact this)
  go_wp2_with fail
  refine HEC.out.mono ?_
  rintro e w2 ⟨v2, rfl, ho2, hb2⟩
  rw [sprs_len] at ho2
  obtain ⟨A2, c2, rfl, hy2, _⟩ := lst_own ho2
  have HB2 := Lib.hid (HB1.out.trans (hb2.mono HB1.out.size))
  have HO12 := Lib.hid (own_below HO1.out hb2)
  have HY12 := Lib.hid (HY1.out.below hb2)
  have HY2 := Lib.hid hy2
  clear ho2 hb2 hy2
  have HCS := Lib.hid (shares_b w2 A1 L c1 (evn l) HY12.out A2 _ c2 (sprs (evn l) (s % 8)) HY2.out (by rw [← HL.out]; omega) (by rw [sprs_len]; omega))
  have hte : (((s % 8 : Nat) : Int) == (s : Int) % 8) = true := by rw [HSC.out]; simp
  go_wp2_with fail
  refine HCS.out.mono ?_
  rintro e w3 ⟨v3, rfl, ho3, hb3⟩
  have HO3 := Lib.hid ho3
  have HO13 := Lib.hid (own_below HO12.out hb3)
  have HB3 := Lib.hid (HB2.out.trans (hb3.mono HB2.out.size))
  clear ho3 hb3
  go_wp2
  go_ret3
  refine ⟨_, _, rfl, ?_, own_mono HO3.out HB2.out.size, HB3.out⟩
  rw [← HL.out]
  exact HO13.out

end Go.Proofs.Ytpljpceldlaphaa
