/- Walks of the two derivatives and of the size guard. -/
import Derived.Test.YtphlagmalppbkaaPm
namespace Go.Proofs.Ytphlagmalppbkaa
open Go.RowKit

/-- the first m coefficients of the derivative -/
def derTo (p : List UInt8) (m : Nat) : List UInt8 := (List.range m).map fun j => if (j + 1) % 2 = 1 then p.getD (j + 1) 0 else 0
def pder (p : List UInt8) : List UInt8 := trim (derTo p (p.length - 1))
theorem derTo_odd {p : List UInt8} {j : Nat} (hj : j < p.length) (h1 : 1 ≤ j) (ho : j % 2 = 1) : derTo p (j - 1 + 1) = derTo p (j - 1) ++ [p[j]] := by
  unfold derTo
  rw [List.range_succ, List.map_append, List.map_singleton, show j - 1 + 1 = j by omega, if_pos ho, getD_lt hj]
theorem derTo_even {p : List UInt8} {j : Nat} (h1 : 1 ≤ j) (ho : ¬ j % 2 = 1) : derTo p (j - 1 + 1) = derTo p (j - 1) ++ [0] := by
  unfold derTo
  rw [List.range_succ, List.map_append, List.map_singleton, show j - 1 + 1 = j by omega, if_neg ho]

set_option maxRecDepth 100000 in
set_option maxHeartbeats 1000000 in
theorem pder_b (w : World) (A : Option Addr) (n c : Nat) (p : List UInt8) (h : Byt w A n c p) (hp : p.length ≤ 1024) :
    Calls Try.prog 23 #[.slice A n c] w (Gives w (pder p)) := by
  have hn := h.len
  have hlc : n ≤ c := h.1
  have hcm : c ≤ 9223372036854775807 := h.2.1
  have hbd : n ≤ 1024 := by omega
  have H := Lib.hid h
  have HN := Lib.hid hn
  clear h hn hp
  go_enter Try.func23, Try.ntmps23
  go_wp2
  go_loopw [3, 4] (fun v i wr => ∃ j : Nat, 1 ≤ j ∧ (j ≤ n ∨ j = 1) ∧ i = .int .i64 (j : Int) ∧ wr.ownsRow w.heap.size 5 1 v (j - 1) (bv (derTo p (j - 1))) ∧ Below w.heap.size w wr) (fun _ i _ => n - (intOf i).toNat)
  case atStart => exact ⟨1, by omega, by omega, rfl, World.ownsRow_nil _ _ _ _, Below.refl _ _⟩
  case round =>
    obtain ⟨j, hj1, hjn, rfl, hown, hb⟩ := hrel
    have HO := Lib.hid hown
    have HB := Lib.hid hb
    have hP := Lib.hid (H.out.below hb)
    clear hown hb
    by_cases hlt : j < n
    · have hj : j < p.length := by rw [← HN.out]; omega
      obtain ⟨ad, rfl, _, hc⟩ := Byt.at_ hP.out hj
      have hj2 : j ≤ 1024 := by omega
      by_cases hodd : j % 2 = 1
      · have ht : ((j : Int) % 2 == 1) = true := by rw [beq_iff_eq]; omega
        have HS := Lib.hid (derTo_odd hj hj1 hodd)
        clear hodd
        go_wp2_with (at_builtin; refine wpl_push ty_u8 rfl _ _ rfl w.heap.size u3 (j - 1) (bv (derTo p (j - 1))) rfl (HO.out.alloc _) _ (B p[j]) rfl (Blk.new _ _ _) rfl (by have := HB.out.size; simp; omega) (by unfold maxLen; omega) (by omega) ?_; intro v' w1 hown1 hgrow _)
        go_roundw
        case rel => exact ⟨j + 1, by omega, by omega, by go_num, by rw [show j + 1 - 1 = j - 1 + 1 by omega, HS.out, bv_append]; exact hown1, push_below HB.out HB.out.size HO.out hgrow⟩
        case measure => simp [intOf]; omega
      · have ht : ((j : Int) % 2 == 1) = false := by rw [beq_eq_false_iff_ne]; omega
        have HS := Lib.hid (derTo_even (p := p) hj1 hodd)
        clear hodd
        go_wp2_with (at_builtin; refine wpl_push ty_u8 rfl _ _ rfl w.heap.size u3 (j - 1) (bv (derTo p (j - 1))) rfl (HO.out.alloc _) _ (B 0) rfl (Blk.new _ _ _) rfl (by have := HB.out.size; simp; omega) (by unfold maxLen; omega) (by omega) ?_; intro v' w1 hown1 hgrow _)
        go_roundw
        case rel => exact ⟨j + 1, by omega, by omega, by go_num, by rw [show j + 1 - 1 = j - 1 + 1 by omega, HS.out, bv_append]; exact hown1, push_below HB.out HB.out.size HO.out hgrow⟩
        case measure => simp [intOf]; omega
    · have HK := Lib.hid (show j - 1 = p.length - 1 by rw [← HN.out]; omega)
      obtain ⟨A1, c1, rfl, hbyt, _⟩ := byt_own HO.out
      have HY := Lib.hid hbyt
      have hl1 : (derTo p (j - 1)).length ≤ 1048576 := by unfold derTo; simp; omega
      clear hbyt
      go_wp2_with (go_at_call 19; refine (trim_b _ A1 (j - 1) c1 (derTo p (j - 1)) HY.out hl1).mono ?_; rintro e w1 ⟨v, rfl, hown1, hb1⟩)
      go_ret
      refine ⟨v, rfl, ?_, HB.out.trans (hb1.mono HB.out.size)⟩
      unfold pder
      rw [← HK.out]
      exact own_mono hown1 HB.out.size

set_option maxRecDepth 100000 in
set_option maxHeartbeats 1000000 in
theorem rpder_b (w : World) (A : Option Addr) (n c : Nat) (p : List UInt8) (h : Byt w A n c p) (hp : p.length ≤ 1024) :
    Calls Try.prog 24 #[.slice A n c] w (Gives w (pder p)) := by
  have hn := h.len
  have hlc : n ≤ c := h.1
  have hcm : c ≤ 9223372036854775807 := h.2.1
  have hbd : n ≤ 1024 := by omega
  have H := Lib.hid h
  have HN := Lib.hid hn
  clear h hn hp
  go_enter Try.func24, Try.ntmps24
  go_wp2
  go_loopw [3, 4] (fun v i wr => ∃ j : Nat, 1 ≤ j ∧ (j ≤ n ∨ j = 1) ∧ i = .int .i64 (j : Int) ∧ wr.ownsRow w.heap.size 5 1 v (j - 1) (bv (derTo p (j - 1))) ∧ Below w.heap.size w wr) (fun _ i _ => n - (intOf i).toNat)
  case atStart => exact ⟨1, by omega, by omega, rfl, World.ownsRow_lit w #[] 0 (Nat.le_refl _) (Nat.zero_le _) rfl, (Below.refl _ w).alloc (Nat.le_refl _) _⟩
  case round =>
    obtain ⟨j, hj1, hjn, rfl, hown, hb⟩ := hrel
    have HO := Lib.hid hown
    have HB := Lib.hid hb
    have hP := Lib.hid (H.out.below hb)
    clear hown hb
    by_cases hlt : j < n
    · have hj : j < p.length := by rw [← HN.out]; omega
      obtain ⟨ad, rfl, _, hc⟩ := Byt.at_ hP.out hj
      have hj2 : j ≤ 1024 := by omega
      by_cases hodd : j % 2 = 1
      · have ht : ((j : Int) % 2 == 1) = true := by rw [beq_iff_eq]; omega
        have HS := Lib.hid (derTo_odd hj hj1 hodd)
        clear hodd
        go_wp2_with (at_builtin; refine wpl_push ty_u8 rfl _ _ rfl w.heap.size u3 (j - 1) (bv (derTo p (j - 1))) rfl (HO.out.alloc _) _ (B p[j]) rfl (Blk.new _ _ _) rfl (by have := HB.out.size; simp; omega) (by unfold maxLen; omega) (by omega) ?_; intro v' w1 hown1 hgrow _)
        go_roundw
        case rel => exact ⟨j + 1, by omega, by omega, by go_num, by rw [show j + 1 - 1 = j - 1 + 1 by omega, HS.out, bv_append]; exact hown1, push_below HB.out HB.out.size HO.out hgrow⟩
        case measure => simp [intOf]; omega
      · have ht : ((j : Int) % 2 == 1) = false := by rw [beq_eq_false_iff_ne]; omega
        have HS := Lib.hid (derTo_even (p := p) hj1 hodd)
        clear hodd
        go_wp2_with (at_builtin; refine wpl_push ty_u8 rfl _ _ rfl w.heap.size u3 (j - 1) (bv (derTo p (j - 1))) rfl (HO.out.alloc _) _ (B 0) rfl (Blk.new _ _ _) rfl (by have := HB.out.size; simp; omega) (by unfold maxLen; omega) (by omega) ?_; intro v' w1 hown1 hgrow _)
        go_roundw
        case rel => exact ⟨j + 1, by omega, by omega, by go_num, by rw [show j + 1 - 1 = j - 1 + 1 by omega, HS.out, bv_append]; exact hown1, push_below HB.out HB.out.size HO.out hgrow⟩
        case measure => simp [intOf]; omega
    · have HK := Lib.hid (show j - 1 = p.length - 1 by rw [← HN.out]; omega)
      obtain ⟨A1, c1, rfl, hbyt, _⟩ := byt_own HO.out
      have HY := Lib.hid hbyt
      have hl1 : (derTo p (j - 1)).length ≤ 1048576 := by unfold derTo; simp; omega
      clear hbyt
      go_wp2_with (go_at_call 21; refine (rtrim_b _ A1 (j - 1) c1 (derTo p (j - 1)) HY.out hl1).mono ?_; rintro e w1 ⟨v, rfl, hown1, hb1⟩)
      go_ret
      refine ⟨v, rfl, ?_, HB.out.trans (hb1.mono HB.out.size)⟩
      unfold pder
      rw [← HK.out]
      exact own_mono hown1 HB.out.size

end Go.Proofs.Ytphlagmalppbkaa
