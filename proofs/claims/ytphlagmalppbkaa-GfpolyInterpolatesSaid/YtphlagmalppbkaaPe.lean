/- Walks: the values of polynomials, the coefficient, the comparison, the size guard. -/
import Derived.Test.YtphlagmalppbkaaPw
import Derived.Deep.QuietTactic
import Derived.BigQuiet
namespace Go.Proofs.Ytphlagmalppbkaa
open Go.RowKit

/-- Eval after k rounds -/
def evTo (l : List UInt8) (x : UInt8) : Nat → UInt8
  | 0 => 0
  | k + 1 => Gf.ga (Gf.gm (evTo l x k) x) (l.getD (l.length - 1 - k) 0)
theorem evTo_succ {l : List UInt8} {x : UInt8} {k j : Nat} (hj : j < l.length) (hk : l.length - 1 - k = j) : evTo l x (k + 1) = Gf.ga (Gf.gm (evTo l x k) x) l[j] := by
  show Gf.ga _ _ = _
  rw [hk]
  simp [List.getD, List.getElem?_eq_getElem hj]

set_option maxRecDepth 100000 in
set_option maxHeartbeats 400000 in
theorem eval_b (w : World) (A : Option Addr) (n c : Nat) (l : List UInt8) (x : UInt8) (h : Byt w A n c l) :
    Calls Try.prog 20 #[.slice A n c, .int .u8 (x.toNat : Int)] w fun e w' => e = .returned (.int .u8 ((evTo l x l.length).toNat : Int)) ∧ Dr w w' := by
  have H := Lib.hid h
  have hn := h.len
  have hlc : n ≤ c := h.1
  have hcm : c ≤ 9223372036854775807 := h.2.1
  have HN := Lib.hid hn
  have hle : n ≤ l.length := by omega
  have hle2 : l.length ≤ n := by omega
  clear h hn
  go_enter Try.func20, Try.ntmps20
  go_wp2
  go_loopw [5, 9] (fun s i wr => ∃ k : Nat, k ≤ n ∧ Dr w wr ∧ i = .int .i64 (k : Int) ∧ s = .int .u8 ((evTo l x k).toNat : Int)) (fun _ i _ => n - (intOf i).toNat)
  case atStart => exact ⟨0, by omega, Dr.refl w, rfl, rfl⟩
  case round =>
    obtain ⟨k, hk, hd, rfl, rfl⟩ := hrel
    have HD := Lib.hid hd
    by_cases hlt : k < n
    · have hj : n - 1 - k < l.length := by omega
      obtain ⟨ad, rfl, _, hc⟩ := Byt.at_ (H.out.dr hd) hj
      clear hd
      have HE := Lib.hid (evTo_succ (x := x) (k := k) hj (by rw [HN.out]))
      have hi1 : (0 : Int) ≤ (n : Int) - 1 - (k : Int) := by omega
      have hi2 : (n : Int) - 1 - (k : Int) < (n : Int) := by omega
      have hi3 : ((n : Int) - 1 - (k : Int)).toNat = n - 1 - k := by omega
      go_wp2
      go_quiet ((first | (go_at_call 30; exact Calls.quiet_of_same (gmul_b _ _ _)) | (go_at_call 29; exact Calls.quiet_of_same (gadd_b _ _ _))))
      go_wp2
      go_roundw
      case rel => exact ⟨k + 1, by omega, HD.out.drewN _, by go_num, by rw [HE.out]⟩
      case measure => simp [intOf]; omega
    · have hge : n ≤ k := by omega
      have HK := Lib.hid (show k = l.length by omega)
      clear hd
      go_wp2
      go_ret
      exact ⟨by rw [← HK.out]; rfl, HD.out⟩

/-- the reference's Eval after k rounds: the sum and the power -/
def rev (l : List UInt8) (x : UInt8) : Nat → UInt8 × UInt8
  | 0 => (0, 1)
  | k + 1 => (Gf.ga (rev l x k).1 (Gf.gm (l.getD k 0) (rev l x k).2), Gf.gm (rev l x k).2 x)
theorem rev_succ {l : List UInt8} {x : UInt8} {k : Nat} (hj : k < l.length) : rev l x (k + 1) = (Gf.ga (rev l x k).1 (Gf.gm l[k] (rev l x k).2), Gf.gm (rev l x k).2 x) := by
  show (_, _) = _
  simp [List.getD, List.getElem?_eq_getElem hj]

set_option maxRecDepth 100000 in
set_option maxHeartbeats 400000 in
theorem reval_b (w : World) (A : Option Addr) (n c : Nat) (l : List UInt8) (x : UInt8) (h : Byt w A n c l) :
    Calls Try.prog 25 #[.slice A n c, .int .u8 (x.toNat : Int)] w fun e w' => e = .returned (.int .u8 ((rev l x l.length).1.toNat : Int)) ∧ w' = w := by
  have H := Lib.hid h
  have hn := h.len
  have hlc : n ≤ c := h.1
  have hcm : c ≤ 9223372036854775807 := h.2.1
  have HN := Lib.hid hn
  have hle : n ≤ l.length := by omega
  have hle2 : l.length ≤ n := by omega
  clear h hn
  go_enter Try.func25, Try.ntmps25
  go_wp2
  go_loop [5, 6, 7] (fun s p i => ∃ k : Nat, k ≤ n ∧ i = .int .i64 (k : Int) ∧ s = .int .u8 ((rev l x k).1.toNat : Int) ∧ p = .int .u8 ((rev l x k).2.toNat : Int)) (fun _ _ i => n - (intOf i).toNat)
  case atStart => exact ⟨0, by omega, rfl, rfl, rfl⟩
  case round =>
    obtain ⟨k, hk, rfl, rfl, rfl⟩ := hrel
    by_cases hlt : k < n
    · obtain ⟨ad, rfl, _, hc⟩ := Byt.at_ H.out (k := k) (by omega)
      have HE := Lib.hid (rev_succ (x := x) (l := l) (k := k) (by omega))
      go_wp2_with (first | (go_at_call 37; refine (rmul_b _ _ _).mono ?_; rintro e w1 ⟨rfl, rfl⟩) | (go_at_call 33; refine (radd_b _ _ _).mono ?_; rintro e w1 ⟨rfl, rfl⟩))
      go_round
      case rel => exact ⟨k + 1, by omega, by go_num, by rw [HE.out], by rw [HE.out]⟩
      case measure => simp [intOf]; omega
    · have hge : n ≤ k := by omega
      have HK := Lib.hid (show k = l.length by omega)

      go_wp2
      go_ret
      exact ⟨by rw [← HK.out]; rfl, rfl⟩

set_option maxRecDepth 100000 in
set_option maxHeartbeats 400000 in
theorem coef_b (w : World) (A : Option Addr) (n c : Nat) (l : List UInt8) (i : Nat) (h : Byt w A n c l) :
    Calls Try.prog 36 #[.slice A n c, .int .i64 (i : Int)] w fun e w' => e = .returned (.int .u8 ((l.getD i 0).toNat : Int)) ∧ w' = w := by
  have hn := h.len
  have hlc : n ≤ c := h.1
  have hcm : c ≤ 9223372036854775807 := h.2.1
  by_cases hlt : i < n
  · have hj : i < l.length := by omega
    obtain ⟨ad, rfl, _, hc⟩ := Byt.at_ h hj
    have HE := Lib.hid (show l.getD i 0 = l[i] by simp [List.getD, List.getElem?_eq_getElem hj])
    clear hn h
    go_enter Try.func36, Try.ntmps36
    go_wp2
    go_ret
    exact ⟨by rw [HE.out]; rfl, rfl⟩
  · have hj : l.length ≤ i := by omega
    have HE := Lib.hid (show l.getD i 0 = 0 by simp [List.getD, List.getElem?_eq_none hj])
    clear hn h
    go_enter Try.func36, Try.ntmps36
    go_wp2
    go_ret
    exact ⟨by rw [HE.out]; rfl, rfl⟩

set_option maxRecDepth 100000 in
set_option maxHeartbeats 400000 in
theorem same_b (w : World) (A : Option Addr) (n c : Nat) (l : List UInt8) (A' : Option Addr) (n' c' : Nat) (l' : List UInt8) (h : Byt w A n c l) (h' : Byt w A' n' c' l') :
    Calls Try.prog 16 #[.slice A n c, .slice A' n' c'] w fun e w' => e = .returned (.bool (l == l')) ∧ w' = w := by
  have e1 := run_conv_byt (P := Try.prog) h 22 5 9 Try.underlying22 Try.underlying5 Try.underlying9
  have e2 := run_conv_byt (P := Try.prog) h' 22 5 9 Try.underlying22 Try.underlying5 Try.underlying9
  clear h h'
  go_enter Try.func16, Try.ntmps16
  go_wp2
  go_ret
  refine ⟨ret_eq ?_, rfl⟩
  show Value.bool ((ofL l).toList == (ofL l').toList) = _
  unfold ofL
  rw [ByteArray.toList_mk, ByteArray.toList_mk]

end Go.Proofs.Ytphlagmalppbkaa
