/- Walks of the erasure code's reference: Encode; the comparison of two lists of strings. -/
import Derived.Test.YtogcgeiocndlbaaEh
namespace Go.Proofs.Ytogcgeiocndlbaa
open Go.RowKit

theorem str_beq (s t : ByteArray) : (s.toList == t.toList) = decide (s = t) := by
  rw [Bool.eq_iff_iff, beq_iff_eq, decide_eq_true_iff]
  constructor
  · intro h
    have e1 : s.toList = s.data.toList := by cases s; rw [ByteArray.toList_mk]
    have e2 : t.toList = t.data.toList := by cases t; rw [ByteArray.toList_mk]
    rw [e1, e2] at h
    exact bl_inj h
  · rintro rfl; rfl

theorem unev_at {ds : List ByteArray} {k : Nat} (hk : k < ds.length) (h0 : 0 < ds.length) : unev ds ds[k] = ((ds[k].size : Int) != (ds[0].size : Int)) := by
  unfold unev
  rw [show ds.getD 0 default = ds[0] by simp [List.getD, List.getElem?_eq_getElem h0]]
  rw [Bool.eq_iff_iff]; simp; omega

set_option maxRecDepth 100000 in
set_option maxHeartbeats 1000000 in
theorem rencode_bad (w : World) (A : Option Addr) (n c : Nat) (ds : List ByteArray) (h : Lst Value.string w A n c ds) (spare : Int) (hs : IntKind.i64.min ≤ spare ∧ spare ≤ IntKind.i64.max)
    (hnb : ds.length ≤ 65536)
    (hbad : ds.length = 0 ∨ spare < 0 ∨ 15 < ds.length ∨ 15 - (ds.length : Int) < spare) :
    Calls Try.prog 26 #[.slice A n c, .int .i64 spare] w (GivesLE 9 Value.string w ([] : List ByteArray) 1) := by
  have hn := h.len
  have hlc : n ≤ c := h.1
  have hcm : c ≤ 9223372036854775807 := h.2.1
  rw [← hn] at hbad hnb
  clear hn h
  have hs1 : -9223372036854775808 ≤ spare := hs.1
  have hs2 : spare ≤ 9223372036854775807 := hs.2
  clear hs
  by_cases h1 : n = 0
  · have e1 : ((n : Int) == 0) = true := by simp; omega
    go_enter Try.func26, Try.ntmps26
    go_wp2
    go_ret2
    exact ⟨_, rfl, World.ownsRow_nil _ _ _ _, Below.refl _ w⟩
  · have e1 : ((n : Int) == 0) = false := by simp; omega
    by_cases h2 : spare < 0
    · go_enter Try.func26, Try.ntmps26
      go_wp2
      go_ret2
      exact ⟨_, rfl, World.ownsRow_nil _ _ _ _, Below.refl _ w⟩
    · by_cases h3 : 15 < spare
      · go_enter Try.func26, Try.ntmps26
        go_wp2
        go_ret2
        exact ⟨_, rfl, World.ownsRow_nil _ _ _ _, Below.refl _ w⟩
      · have h4 : 15 < (n : Int) + spare := by omega
        have hw1 : wrap64 ((n : Int) + spare) > 15 := by
          unfold wrap64
          omega
        clear hbad
        go_enter Try.func26, Try.ntmps26
        go_wp2
        go_ret2
        exact ⟨_, rfl, World.ownsRow_nil _ _ _ _, Below.refl _ w⟩

theorem take_any {α : Type} {l : List α} {p : α → Bool} {k : Nat} (hk : k < l.length) (h : (l.take k).any p = false) (h1 : p l[k] = false) : (l.take (k + 1)).any p = false := by
  rw [List.take_succ_eq_append_getElem hk, List.any_append, h]
  simp [h1]

set_option maxRecDepth 100000 in
set_option maxHeartbeats 2000000 in
theorem rencode_ok (w : World) (A : Option Addr) (n c : Nat) (ds : List ByteArray) (h : Lst Value.string w A n c ds) (s : Nat) (h1 : 0 < ds.length) (h3 : ds.length ≤ 15) (h4 : (s : Int) ≤ 15 - (ds.length : Int))
    (L : Nat) (hL : L ≤ 65536) (h0 : (ds.getD 0 default).size = L) (r : List ByteArray) (er : Int) (hr : Hid (r = if ds.any (unev ds) then [] else sprs ds s)) (he : Hid (er = if ds.any (unev ds) then 1 else 0)) :
    Calls Try.prog 26 #[.slice A n c, .int .i64 (s : Int)] w (GivesLE 9 Value.string w r er) := by
  have hn := h.len
  have hlc : n ≤ c := h.1
  have hcm : c ≤ 9223372036854775807 := h.2.1
  have e1 : ((n : Int) == 0) = false := by simp; omega
  obtain ⟨ad, rfl, _, hc0⟩ := h.at_ h1
  rw [show ad.add 0 = ad from rfl] at hc0
  have H := Lib.hid h
  have HN := Lib.hid hn
  have HL := Lib.hid h0
  have HL0 := Lib.hid (show 0 < ds.length from h1)
  have hdb : ds.length ≤ n := by omega
  rw [← hn] at h1 h3 h4
  clear hn h h0
  go_enter Try.func26, Try.ntmps26
  go_wp2
  go_loopw [6, 7] (fun vx i wr => ∃ k : Nat, k ≤ n ∧ i = .int .i64 (k : Int) ∧ wr.ownsRow w.heap.size 5 1 vx k (bv (idx k)) ∧ Hid ((ds.take k).any (unev ds) = false) ∧ Below w.heap.size w wr) (fun _ i _ => n - (intOf i).toNat)
  case atStart => exact ⟨0, by omega, rfl, World.ownsRow_lit w #[] 0 (Nat.le_refl _) (Nat.zero_le _) rfl, Lib.hid (by simp), (Below.refl _ w).alloc (Nat.le_refl _) _⟩
  case round =>
    obtain ⟨k, hk, rfl, hown, HF, hb⟩ := hrel
    have HO := Lib.hid hown
    have HB := Lib.hid hb
    have HX := Lib.hid (H.out.below hb)
    have hbs := hb.size
    clear hown hb hc0
    by_cases hlt : k < n
    · have hkl : k < ds.length := by rw [← HN.out]; exact hlt
      obtain ⟨_, e2, _, hck⟩ := HX.out.at_ hkl
      injection e2 with e2
      subst e2
      obtain ⟨_, e2, _, hc0⟩ := HX.out.at_ HL0.out
      injection e2 with e2
      subst e2
      rw [show ad.add 0 = ad from rfl] at hc0
      have hu := unev_at hkl HL0.out
      cases hq : unev ds ds[k] with
      | true =>
        have HQ := Lib.hid hq
        rw [hq] at hu
        replace hu := hu.symm
        clear hq
        go_wp2
        go_quiet (fail)
        go_wp2
        go_ret2
        unfold GivesLE
        rw [hr.out, he.out, if_pos (any_hit hkl HQ.out), if_pos (any_hit hkl HQ.out)]
        exact ⟨_, rfl, World.ownsRow_nil _ _ _ _, below_drewN HB.out _⟩
      | false =>
        have HQ := Lib.hid hq
        rw [hq] at hu
        replace hu := hu.symm
        clear hq
        go_wp2
        go_quiet (fail)
        go_wp2_with (at_builtin; refine wpl_push ty_u8 rfl _ _ rfl w.heap.size u6 k (bv (idx k)) rfl (HO.out.alloc _) _ (.int .u8 (k : Int)) rfl (Blk.new _ _ _) rfl (by simp; omega) (by unfold maxLen; omega) (by omega) ?_; intro v' w8 hown8 hgrow _)
        go_roundw
        case rel => exact ⟨k + 1, by omega, by go_num, by rw [idx_succ, bv_append, show bv [UInt8.ofNat k] = [.int .u8 (k : Int)] from congrArg (· :: []) (B_ofNat (by omega))]; exact hown8, Lib.hid (take_any hkl HF.out HQ.out), push_below (below_drewN HB.out _) hbs (show (wr.drewN _).ownsRow _ _ _ _ _ _ from HO.out) hgrow⟩
        case measure => simp [intOf]; omega
    · have hkn : k = n := by omega
      have HK := Lib.hid hkn
      have HU := Lib.hid (show ds.any (unev ds) = false by have h7 := HF.out; rwa [List.take_of_length_le (by omega)] at h7)
      have HSZ := Lib.hid (even_sizes HU.out HL.out)
      have hoi := HO.out
      rw [hkn] at hoi
      obtain ⟨A2, c2, rfl, hx2, hA2⟩ := byt_own hoi
      have HX2 := Lib.hid hx2
      obtain ⟨w2, hw2⟩ : ∃ w2, w2 = wr.alloc (.cells #[] 9) := ⟨_, rfl⟩
      have HW2 := Lib.hid hw2
      have HA2 := Lib.hid (show Lst Value.string w2 (some ad) n c ds by rw [hw2]; exact HX.out.alloc _)
      have HXX := Lib.hid (show Byt w2 A2 n c2 (idx n) by rw [hw2]; exact HX2.out.alloc _)
      have HB2 := Lib.hid (show Below w.heap.size w w2 by rw [hw2]; exact HB.out.alloc hbs _)
      have hge : n ≤ k := by omega
      clear hkn hoi hx2 hA2 hw2
      obtain ⟨wo, rfl⟩ : ∃ wo : World, wo = wr := ⟨_, rfl⟩
      go_wp2
      try simp only [show decide (k < n) = false by rw [decide_eq_false_iff_not]; omega]
      go_loopw [8, 9] (fun vo i wr' => ∃ j : Nat, j ≤ s ∧ i = .int .i64 (j : Int) ∧ wr'.ownsRow wo.heap.size 9 1 vo j ((sprs ds j).map Value.string) ∧ Below wo.heap.size wo wr') (fun _ i _ => s - (intOf i).toNat)
      case atStart => exact ⟨0, by omega, rfl, World.ownsRow_lit wo #[] 0 (Nat.le_refl _) (Nat.zero_le _) rfl, (Below.refl _ wo).alloc (Nat.le_refl _) _⟩
      case round =>
        obtain ⟨j, hj, rfl, hown, hb⟩ := hrel
        have HO := Lib.hid hown
        have HB3 := Lib.hid hb
        have HXr := Lib.hid (HX.out.below hb)
        have HIr := Lib.hid (HX2.out.below hb)
        have hbs3 := hb.size
        clear hown hb
        by_cases hlt : j < s
        · have HS := Lib.hid (sprs_succ ds j)
          have hk1 : j + 1 ≤ maxLen := by unfold maxLen; omega
          have hk2 : (j + 1) * 16 ≤ 140737488355328 := by omega
          obtain ⟨y, hy⟩ : ∃ y, y = UInt8.ofNat (n + j) := ⟨_, rfl⟩
          have HCI := Lib.hid (show Calls Try.prog 40 #[.slice A2 n c2, .slice (some ad) n c, .int .u8 ((n : Int) + (j : Int))] wr fun e w' => e = .returned (.string (spr ds j)) ∧ Below wr.heap.size wr w' by
            have := at_f wr A2 n c2 (idx n) HIr.out (some ad) n c ds HXr.out (UInt8.ofNat (n + j)) (by rw [idx_len, HN.out]) (by rw [idx_len]; exact h1) (by rw [idx_len]; omega) L hL HSZ.out
            rw [show ((UInt8.ofNat (n + j)).toNat : Int) = (n : Int) + (j : Int) by rw [UInt8.toNat_ofNat', Nat.mod_eq_of_lt (by omega)]; omega] at this
            unfold spr
            rw [← HN.out]
            exact this)
          clear hy
          go_wp2_with fail
          refine HCI.out.mono ?_
          rintro e w4 ⟨rfl, hb4⟩
          have HB4 := Lib.hid hb4
          have HO4 := Lib.hid (own_below HO.out hb4)
          have hs4 := hb4.size
          clear hb4
          go_wp2_with (at_builtin; refine wpl_push ty_str rfl _ _ rfl wo.heap.size u8 j ((sprs ds j).map Value.string) rfl (HO4.out.alloc _) _ (.string (spr ds j)) rfl (Blk.new _ _ _) rfl (by simp; omega) hk1 hk2 ?_; intro v' w8 hown8 hgrow _)
          go_roundw
          case rel => exact ⟨j + 1, by omega, by go_num, by rw [HS.out, List.map_append]; exact hown8, push_below (HB3.out.trans (HB4.out.mono hbs3)) (by omega) HO4.out hgrow⟩
          case measure => simp [intOf]; omega
        · have HJ := Lib.hid (show j = s by omega)
          have hge2 : s ≤ j := by omega
          clear hlt
          go_wp2
          go_ret2
          unfold GivesLE
          rw [hr.out, he.out, HU.out]
          refine ⟨_, rfl, ?_, HB.out.trans (HB3.out.mono hbs)⟩
          simp only [Bool.false_eq_true, if_false]
          rw [sprs_len, ← HJ.out]
          exact own_mono HO.out hbs

theorem rencode_f (w : World) (A : Option Addr) (n c : Nat) (ds : List ByteArray) (h : Lst Value.string w A n c ds) (spare : Int) (hs : IntKind.i64.min ≤ spare ∧ spare ≤ IntKind.i64.max) (hnb : ds.length ≤ 65536) (hL : ∀ b ∈ ds, b.size ≤ 65536) :
    Calls Try.prog 26 #[.slice A n c, .int .i64 spare] w (GivesLE 9 Value.string w (encB ds spare) (encE ds spare)) := by
  by_cases h1 : ds.length = 0 ∨ spare < 0 ∨ 15 < ds.length ∨ 15 - (ds.length : Int) < spare
  · have e1 : encE ds spare = 1 := by unfold encE; rw [if_pos h1]
    have e2 : encB ds spare = [] := by unfold encB; rw [e1]; rfl
    rw [e1, e2]
    exact rencode_bad w A n c ds h spare hs hnb h1
  · obtain ⟨s, rfl⟩ := Int.eq_ofNat_of_zero_le (show 0 ≤ spare by omega)
    refine rencode_ok w A n c ds h s (by omega) (by omega) (by omega) _ (hL _ (by cases ds with | nil => simp at h1 | cons a l => simp [List.getD])) rfl _ _ (Lib.hid ?_) (Lib.hid ?_)
    · unfold encB encE
      rw [if_neg h1, Int.toNat_natCast]
      cases ds.any (unev ds) <;> simp
    · unfold encE
      rw [if_neg h1]

end Go.Proofs.Ytogcgeiocndlbaa
